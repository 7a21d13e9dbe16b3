/-
  YtachaigkgjadpaaP5: lemmas of this proof (part 5). No conditions.
-/
import Derived.Test.YtachaigkgjadpaaP4
import Derived.JoinedCond
import Derived.Deep.CondSized
import Derived.Handed

/-
  GbBk: what a law is handed, with its bulk: values and letters, each counted each time it is reached.
-/
namespace Go.GB
open Go.RowKit Go.WideShapes Go.ChangeShapes

mutual
def T.bulk : T → Nat
  | .str s => s.length + 1
  | .lst xs => bulkLL xs + 1
  | .bool _ => 1
  | .int _ _ => 1
  | .ptr _ => 1
  | .fn _ => 1
  | .nilp => 1
  | .nilm => 1
  | .nilf => 1
def bulkLL : List (List T) → Nat
  | [] => 0
  | c :: r => bulkL c + bulkLL r
def bulkL : List T → Nat
  | [] => 0
  | x :: r => x.bulk + bulkL r
end
theorem bulkL_append : ∀ (a b : List T), bulkL (a ++ b) = bulkL a + bulkL b
  | [], b => by simp [bulkL]
  | x :: r, b => by simp only [List.cons_append, bulkL, bulkL_append r b]; omega

/-- a measure of readings that counts values and letters -/
structure Bulk {H : Type} (B : DataW H → Nat) : Prop where
  lit : ∀ l, 1 ≤ B (.lit l)
  str : ∀ bs, bs.length + 1 ≤ B (.lit (.string bs))
  nil : 1 ≤ B .nil
  slice : ∀ e s, (e.map B).sum + 1 ≤ B (.slice e s)
  agg : ∀ ps, (ps.map B).sum ≤ B (.agg ps)

theorem bulkLL_le {H : Type} {B : DataW H → Nat} : ∀ (xs : List (List T)) (es : List (DataW H)), xs.length = es.length → (∀ (i : Nat) c e, xs[i]? = some c → es[i]? = some e → bulkL c ≤ B e) → bulkLL xs ≤ (es.map B).sum
  | [], [], _, _ => by simp [bulkLL]
  | [], _ :: _, h, _ => by simp at h
  | _ :: _, [], h, _ => by simp at h
  | c :: xs, e :: es, h, hb => by
    have h1 := hb 0 c e rfl rfl
    have h2 := bulkLL_le xs es (by simpa using h) (fun i c e a b => hb (i + 1) c e (by simpa using a) (by simpa using b))
    simp only [bulkLL, List.map_cons, List.sum_cons]; omega

theorem pieces2 {P : Program} {w : World} {n : Nat} {cs : List Value} : ∀ (l : List (Nat × TypeId)) (bs : List Nat) (off tot : Nat), consec P off l = some tot → tot ≤ cs.length → l.length = bs.length → (∀ (j : Nat) p nb, l[j]? = some p → bs[j]? = some nb → ∃ ts, RepL w ((cs.drop p.1).take (P.cellsOf p.2)) ts ∧ WT P n p.2 ts ∧ bulkL ts ≤ nb) →
    off ≤ tot ∧ ∃ ts : List T, ts.length = tot - off ∧ (∀ (j : Nat) (v : Value) (x : T), cs[off + j]? = some v → ts[j]? = some x → RepT allFix w v x) ∧ (∀ p ∈ l, off ≤ p.1 ∧ WT P n p.2 ((ts.drop (p.1 - off)).take (P.cellsOf p.2))) ∧ bulkL ts ≤ bs.sum
  | [], bs, off, tot, hc, _, _, _ => by simp [consec] at hc; subst hc; exact ⟨Nat.le_refl _, [], by simp, by simp, by simp, by simp [bulkL]⟩
  | _ :: _, [], _, _, _, _, h, _ => by simp at h
  | (o, t) :: r, nb :: bs, off, tot, hc, hl, hlen, hp => by
    simp only [consec] at hc
    split at hc
    · rename_i e; subst e
      obtain ⟨h1, ts, h2, h3, h4, h5⟩ := pieces2 r bs (o + P.cellsOf t) tot hc hl (by simpa using hlen) (fun j p nb a b => hp (j + 1) p nb (by simpa using a) (by simpa using b))
      obtain ⟨us, k1, k2, k3⟩ := hp 0 (o, t) nb rfl rfl
      have hul : us.length = P.cellsOf t := by rw [← k1.1]; simp; omega
      refine ⟨by omega, us ++ ts, by simp [hul, h2]; omega, fun j v x hv hx => ?_, fun p hpm => ?_, by rw [bulkL_append]; simp only [List.sum_cons]; omega⟩
      · by_cases hj : j < us.length
        · rw [List.getElem?_append_left hj] at hx
          refine k1.2 j v x ?_ hx
          simp only
          rw [List.getElem?_take, if_pos (by omega), List.getElem?_drop]; exact hv
        · rw [List.getElem?_append_right (by omega)] at hx
          refine h3 (j - us.length) v x ?_ hx
          have : o + P.cellsOf t + (j - us.length) = o + j := by omega
          rw [this]; exact hv
      · rcases List.mem_cons.1 hpm with e | e
        · subst e
          refine ⟨Nat.le_refl _, ?_⟩
          simp only [Nat.sub_self, List.drop_zero]
          rw [List.take_append_of_le_length (by omega), List.take_of_length_le (by omega)]
          exact k2
        · obtain ⟨g1, g2⟩ := h4 p e
          refine ⟨by omega, ?_⟩
          have : p.1 - o = us.length + (p.1 - (o + P.cellsOf t)) := by omega
          rw [this, List.drop_append, List.drop_eq_nil_of_le (by omega)]
          simpa using g2
    · cases hc

section
variable {H : Type} {enc : TypeId × Value → H} {P : Program} {w : World} {sp : Nat → Bool} {held : Bool} {S : List TypeId} {B : DataW H → Nat}

theorem trod_repB (hB : Bulk B) (hp : plainT P S = true) : ∀ (n : Nat) (t : TypeId) (cs : List Value) (d : DataW H) (ps : List MemPlace), t ∈ S → DataW.trod enc P w 0 sp held n t cs = some (d, ps) → (d.weights P t).all (· ≤ reachBytes) = true → ∃ ts, RepL w cs ts ∧ WT P n t ts ∧ bulkL ts ≤ B d
  | 0, t, cs, d, ps, _, h, _ => by simp [DataW.trod] at h
  | n + 1, t, cs, d, ps, ht, h, hwt => by
    have hpt := List.all_eq_true.1 hp t ht
    simp only [WT]
    cases hu : P.underlying t with
    | none => rw [hu] at hpt; simp at hpt
    | some td =>
      rw [hu] at hpt
      cases td with
      | bool =>
        rcases cs with _ | ⟨v, _ | ⟨v2, r⟩⟩ <;> try (simp [DataW.trod, hu] at h; done)
        cases v <;> simp [DataW.trod, hu] at h
        rename_i b
        refine ⟨[.bool b], RepL.one (.bool b), ⟨b, rfl⟩, ?_⟩
        rw [← h.1]; simpa [bulkL, T.bulk] using hB.lit _
      | int k =>
        rcases cs with _ | ⟨v, _ | ⟨v2, r⟩⟩ <;> try (simp [DataW.trod, hu] at h; done)
        cases v <;> simp [DataW.trod, hu] at h
        rename_i k' x
        obtain ⟨⟨rfl, h2⟩, hd, _⟩ := h
        refine ⟨[.int k' x], RepL.one (.int _ _), ⟨x, rfl, h2⟩, ?_⟩
        rw [← hd]; simpa [bulkL, T.bulk] using hB.lit _
      | string =>
        rcases cs with _ | ⟨v, _ | ⟨v2, r⟩⟩ <;> try (simp [DataW.trod, hu] at h; done)
        cases v <;> simp [DataW.trod, hu] at h
        rename_i s
        rw [← h.2.1] at hwt
        refine ⟨[.str s.data.toList], RepL.one (.str _), ⟨s.data.toList, rfl, by simpa [DataW.weights] using hwt⟩, ?_⟩
        have := hB.str s.data.toList
        rw [← h.2.1]
        simp only [bulkL, T.bulk]; omega
      | slice e =>
        simp only [Bool.and_eq_true, decide_eq_true_eq] at hpt
        have he : e ∈ S := by simpa using hpt.1
        rcases cs with _ | ⟨v, _ | ⟨v2, r⟩⟩ <;> try (simp [DataW.trod, hu] at h; done)
        cases v <;> try (simp [DataW.trod, hu] at h; done)
        rename_i a len cap
        cases a with
        | none =>
          have h0 : len = 0 ∧ cap = 0 := by
            cases len <;> cases cap <;> simp_all [DataW.trod]
          obtain ⟨rfl, rfl⟩ := h0
          have hd : DataW.nil = d := by
            simp only [DataW.trod, hu] at h
            simp at h; exact h.1
          refine ⟨[.lst []], RepL.one .nil, ⟨[], rfl, by simp, by simp, by simp⟩, ?_⟩
          rw [← hd]
          simpa [bulkL, bulkLL, T.bulk] using hB.nil
        | some a =>
          simp only [DataW.trod, hu] at h
          split at h
          · rename_i hcond
            simp only [Option.bind_eq_some_iff] at h
            obtain ⟨elems, hel, hrest⟩ := h
            obtain ⟨hl, hat⟩ := mapM_at hel
            simp at hl
            rw [Option.map_eq_some_iff] at hrest
            obtain ⟨rest, _, hde⟩ := hrest
            simp only [Prod.mk.injEq] at hde
            rw [← hde.1] at hwt
            simp only [DataW.weights, hu, List.all_cons, List.all_append, Bool.and_eq_true, decide_eq_true_eq, List.length_map] at hwt
            have hreach : len * P.bytesOf e ≤ reachBytes := by
              rw [hl]
              exact Nat.le_trans (Nat.mul_le_mul_right _ (Nat.le_add_right _ _)) hwt.1
            have hone : ∀ i, i < len → ∃ q : List Value × List T, w.cells? 0 (a.add (i * P.cellsOf e)) (P.cellsOf e) = some q.1 ∧ RepL w q.1 q.2 ∧ WT P n e q.2 ∧ ∀ y, elems[i]? = some y → bulkL q.2 ≤ B y.1 := by
              intro i hi
              obtain ⟨y, hye, hy⟩ := hat i i (by simp [hi])
              simp only [Option.bind_eq_some_iff] at hy
              obtain ⟨c, hc, hy⟩ := hy
              obtain ⟨d', ps'⟩ := y
              obtain ⟨ts, k1, k2, k3⟩ := trod_repB hB hp n e c d' ps' he hy (weightsAll_of _ hwt.2.1 _ (List.mem_map.2 ⟨(d', ps'), List.mem_of_getElem? hye, rfl⟩))
              exact ⟨(c, ts), hc, k1, k2, fun y h => by rw [hye] at h; simp at h; subst h; exact k3⟩
            obtain ⟨qs, hql, hq⟩ := choose_list len hone
            have hsz : ∀ (i : Nat) (q : List Value × List T), qs[i]? = some q → q.1.length = P.cellsOf e ∧ q.2.length = P.cellsOf e := by
              intro i q hi
              obtain ⟨h1, h2, _⟩ := hq i q hi
              have := (cells?_at h1).1
              exact ⟨this, by rw [← h2.1]; exact this⟩
            -- the address has no spot, where anything is read
            have hspot : 0 < len → a.spot = none := by
              intro h0
              have hq0 : qs[0]? = some (qs[0]'(by omega)) := by simp
              obtain ⟨h1, _, _⟩ := hq 0 _ hq0
              obtain ⟨e1, e2⟩ := cells?_at h1
              have hlt : 0 < (qs[0]'(by omega)).1.length := by rw [(hsz 0 _ hq0).1]; exact hpt.2
              have := spot_none (e2 0 _ (List.getElem?_eq_getElem hlt))
              simpa [Addr.add] using this
            have hadd : ∀ m, 0 < len → a.add m = ⟨a.block, a.off + m, none⟩ := by
              intro m h0
              have hs := hspot h0
              obtain ⟨b, o, s⟩ := a
              simp at hs; subst hs
              exact add_mk b o m
            refine ⟨[.lst (qs.map (·.2))], RepL.one ?_, ⟨qs.map (·.2), rfl, by simpa [hql] using hreach, by simp [hql]; omega, fun c hc => ?_⟩, ?_⟩
            · have hlen : len = (qs.map (·.2)).length := by simp [hql]
              rw [hlen]
              refine .lst (some a) cap (P.cellsOf e) (qs.map (·.2)) a.block a.off (fun i j => ((qs.map (·.1)).getD i []).getD j undef) (by rw [← hlen]; exact hcond.2.1) ?_ ?_ ?_ ?_ ?_
              · intro i c hc
                rw [List.getElem?_map, Option.map_eq_some_iff] at hc
                obtain ⟨q, h1, rfl⟩ := hc
                exact (hsz i q h1).2
              · intro i j c x hc hx
                have h0 : 0 < len := by have := (List.getElem?_eq_some_iff.1 hc).1; simp [hql] at this; omega
                have hs := hspot h0
                obtain ⟨b, o, s⟩ := a
                simp at hs; subst hs; rfl
              · intro i j c x hc hx; trivial
              · intro i j c x hc hx
                rw [List.getElem?_map, Option.map_eq_some_iff] at hc
                obtain ⟨q, h1, rfl⟩ := hc
                have h0 : 0 < len := by have := (List.getElem?_eq_some_iff.1 h1).1; omega
                obtain ⟨g1, g2, _⟩ := hq i q h1
                obtain ⟨e1, e2⟩ := cells?_at g1
                have hj : j < q.1.length := by rw [g2.1]; exact (List.getElem?_eq_some_iff.1 hx).1
                have := e2 j _ (List.getElem?_eq_getElem hj)
                rw [hadd _ h0] at this
                rw [add_mk] at this
                rw [this]
                simp [h1, hj]
              · intro i j c x hc hx
                rw [List.getElem?_map, Option.map_eq_some_iff] at hc
                obtain ⟨q, h1, rfl⟩ := hc
                obtain ⟨g1, g2, _⟩ := hq i q h1
                have hj : j < q.1.length := by rw [g2.1]; exact (List.getElem?_eq_some_iff.1 hx).1
                have := g2.2 j _ x (List.getElem?_eq_getElem hj) hx
                simpa [h1, hj] using this
            · rw [List.mem_map] at hc
              obtain ⟨q, h1, rfl⟩ := hc
              obtain ⟨i, hi⟩ := List.mem_iff_getElem?.1 h1
              exact (hq i q hi).2.2.1
            · rw [← hde.1]
              have h1 := hB.slice (elems.map (·.1)) (rest.map (·.1))
              have h2 := bulkLL_le (B := B) (qs.map (·.2)) (elems.map (·.1)) (by simp [hql, hl]) (fun i c e a b => by
                rw [List.getElem?_map, Option.map_eq_some_iff] at a b
                obtain ⟨q, a1, rfl⟩ := a
                obtain ⟨y, b1, rfl⟩ := b
                exact (hq i q a1).2.2.2 y b1)
              simp only [bulkL, T.bulk]; omega
          · cases h
      | struct fs =>
        simp only [Bool.and_eq_true, List.all_eq_true, beq_iff_eq] at hpt
        have hh : cs.length = P.cellsOf t ∧ ∃ xs, (fs.toList.mapM fun f => DataW.trod enc P w 0 sp held n f.type ((cs.drop f.offset).take (P.cellsOf f.type))) = some xs ∧ d = .agg (xs.map (·.1)) := by
          have h' := h
          simp only [DataW.trod, hu] at h'
          split at h'
          · rename_i hc
            simp only [Option.map_eq_some_iff] at h'
            obtain ⟨xs, hxs, hd⟩ := h'
            exact ⟨hc, xs, hxs, by simp only [Prod.mk.injEq] at hd; exact hd.1.symm⟩
          · cases h'
        obtain ⟨hlen, xs, hxs, rfl⟩ := hh
        obtain ⟨hl, hat⟩ := mapM_at hxs
        simp only [DataW.weights, hu] at hwt
        obtain ⟨_, ts, g1, g2, g3, g4⟩ := pieces2 (n := n) (w := w) (cs := cs) _ ((xs.map (·.1)).map B) 0 _ hpt.2 (by omega) (by simp [hl]) (fun j p nb hpm hnb => by
          rw [List.getElem?_map, Option.map_eq_some_iff] at hpm
          obtain ⟨f, hj, rfl⟩ := hpm
          have hf := List.mem_of_getElem? hj
          obtain ⟨y, hye, hy⟩ := hat j f hj
          obtain ⟨d', ps'⟩ := y
          rw [List.getElem?_map, List.getElem?_map, hye] at hnb
          simp at hnb; subst hnb
          exact trod_repB hB hp n f.type _ d' ps' (by simpa using hpt.1 f hf) hy (weightsEach_of _ _ hwt j f.type d' (by simp [hj]) (by simp [hye])))
        refine ⟨ts, ⟨by omega, fun j v x hv hx => g2 j v x (by simpa using hv) hx⟩, ⟨by omega, fun f hf => ?_⟩, Nat.le_trans g4 (hB.agg _)⟩
        have := (g3 (f.offset, f.type) (List.mem_map.2 ⟨f, hf, rfl⟩)).2
        simpa using this
      | array m e =>
        simp only [Bool.and_eq_true, beq_iff_eq] at hpt
        have hh : cs.length = P.cellsOf t ∧ ∃ xs, ((List.range m).mapM fun i => DataW.trod enc P w 0 sp held n e ((cs.drop (i * P.cellsOf e)).take (P.cellsOf e))) = some xs ∧ d = .agg (xs.map (·.1)) := by
          have h' := h
          simp only [DataW.trod, hu] at h'
          split at h'
          · rename_i hc
            simp only [Option.map_eq_some_iff] at h'
            obtain ⟨xs, hxs, hd⟩ := h'
            exact ⟨hc, xs, hxs, by simp only [Prod.mk.injEq] at hd; exact hd.1.symm⟩
          · cases h'
        obtain ⟨hlen, xs, hxs, rfl⟩ := hh
        obtain ⟨hl, hat⟩ := mapM_at hxs
        simp only [DataW.weights, hu] at hwt
        obtain ⟨_, ts, g1, g2, g3, g4⟩ := pieces2 (n := n) (w := w) (cs := cs) _ ((xs.map (·.1)).map B) 0 _ hpt.2 (by omega) (by simp [← hl]) (fun j p nb hpm hnb => by
          rw [List.getElem?_map, Option.map_eq_some_iff] at hpm
          obtain ⟨i, hj, rfl⟩ := hpm
          obtain ⟨y, hye, hy⟩ := hat j i hj
          obtain ⟨d', ps'⟩ := y
          rw [List.getElem?_map, List.getElem?_map, hye] at hnb
          simp at hnb; subst hnb
          exact trod_repB hB hp n e _ d' ps' (by simpa using hpt.1) hy (weightsAll_of _ hwt _ (List.mem_map.2 ⟨(d', ps'), List.mem_of_getElem? hye, rfl⟩)))
        refine ⟨ts, ⟨by omega, fun j v x hv hx => g2 j v x (by simpa using hv) hx⟩, ⟨by omega, fun i hi => ?_⟩, Nat.le_trans g4 (hB.agg _)⟩
        have := (g3 (i * P.cellsOf e, e) (List.mem_map.2 ⟨i, List.mem_range.2 hi, rfl⟩)).2
        simpa using this
      | _ => simp at hpt

def vbs : List V → Nat
  | [] => 0
  | .t x :: r => x.bulk + vbs r
  | _ :: r => vbs r
def vb : V → Nat
  | .t x => x.bulk
  | .agg cs => vbs cs
  | _ => 0
theorem vbs_map : ∀ (ts : List T), vbs (ts.map V.t) = bulkL ts
  | [] => rfl
  | x :: r => by simp only [List.map_cons, vbs, bulkL, vbs_map r]
theorem arg_relB (hB : Bulk B) (hp : plainT P S = true) {base : Nat} {t : TypeId} {v : Value} {d : DataW H} {ps : List MemPlace} (ht : t ∈ S) (hok : Value.okWide P w .any base t v) (h : DataW.Trod enc P w 0 sp held t v d ps) (hwt : (d.weights P t).all (· ≤ reachBytes) = true) :
    ∃ n ts, WT P n t ts ∧ RelV (L.all w) v (argV P t ts) ∧ vb (argV P t ts) ≤ B d := by
  obtain ⟨n, hn⟩ := h
  obtain ⟨ts, h1, h2, hbk⟩ := trod_repB hB hp n t _ d ps ht hn hwt
  refine ⟨n, ts, h2, ?_⟩
  have hpt := List.all_eq_true.1 hp t ht
  unfold argV
  by_cases hag : isAggT P t = true
  · simp only [hag, if_true]
    have : ∃ cs, v = .agg cs := by
      unfold isAggT at hag
      unfold Value.okWide at hok
      cases hu : P.underlying t with
      | none => rw [hu] at hag; simp at hag
      | some td => rw [hu] at hag hok; cases td <;> simp at hag <;> exact ⟨_, hok.choose_spec.1⟩
    obtain ⟨cs, rfl⟩ := this
    refine ⟨.agg (by simpa [Value.cells] using h1.1) fun j u c hj hc => ?_, by simpa [vb, vbs_map] using hbk⟩
    rw [List.getElem?_map, Option.map_eq_some_iff] at hc
    obtain ⟨x, hx, rfl⟩ := hc
    exact .t (h1.2 j u x (by simpa [Value.cells] using hj) hx)
  · simp only [hag, if_false, Bool.false_eq_true]
    have hcells : v.cells = #[v] := by
      unfold isAggT at hag
      unfold Value.okWide at hok
      cases hu : P.underlying t with
      | none => rw [hu] at hpt; simp at hpt
      | some td =>
        rw [hu] at hag hok hpt
        cases td <;> simp at hag hpt <;> simp only [Cell.okWide, Cell.ok, hu] at hok <;> cases v <;> first | rfl | (exact hok.elim)
    have hcl : ts.length = 1 := by rw [← h1.1, hcells]; rfl
    obtain ⟨x, rfl⟩ : ∃ x, ts = [x] := by
      match ts, hcl with
      | [x], _ => exact ⟨x, rfl⟩
    exact ⟨.t (h1.2 0 v x (by rw [hcells]; rfl) rfl), by simpa [vb, bulkL] using hbk⟩

theorem args_relB (hB : Bulk B) (hp : plainT P S = true) {base : Nat} : ∀ (ts : List TypeId) (args : List Value) (ds : List (DataW H)) (ps : List MemPlace), (∀ t ∈ ts, t ∈ S) → (∀ (j : Nat) t v, ts[j]? = some t → args[j]? = some v → Value.okWide P w .any base t v) →
    DataW.TrodAll enc P w 0 sp held ts args ds ps → (DataW.weightsEach P ts ds).all (· ≤ reachBytes) = true → ∃ vs, WTs P ts vs ∧ args.length = vs.length ∧ (vs.map vb).sum ≤ (ds.map B).sum ∧ ∀ (j : Nat) (v : Value) (x : V), args[j]? = some v → vs[j]? = some x → RelV (L.all w) v x
  | [], [], [], ps, _, _, _, _ => ⟨[], .nil, rfl, by simp, by simp⟩
  | t :: ts, v :: args, d :: ds, ps, hS, hok, ⟨p, q, h1, h2, _⟩, hwt => by
    simp only [DataW.weightsEach, List.all_append, Bool.and_eq_true] at hwt
    obtain ⟨vs, k1, k2, k4, k3⟩ := args_relB hB hp ts args ds q (fun t ht => hS t (List.mem_cons_of_mem _ ht)) (fun j t v a b => hok (j + 1) t v (by simpa using a) (by simpa using b)) h2 hwt.2
    obtain ⟨n, xs, g1, g2, g3⟩ := arg_relB hB hp (hS t (by simp)) (hok 0 t v rfl rfl) h1 hwt.1
    refine ⟨argV P t xs :: vs, .cons g1 k1, by simp [k2], by simp only [List.map_cons, List.sum_cons]; omega, fun j u x hu hx => ?_⟩
    cases j with
    | zero => simp at hu hx; subst hu; subst hx; exact g2
    | succ j => exact k3 j u x (by simpa using hu) (by simpa using hx)
  | [], _ :: _, _, _, _, _, h, _ => by simp [DataW.TrodAll] at h
  | [], [], _ :: _, _, _, _, h, _ => by simp [DataW.TrodAll] at h
  | _ :: _, [], _, _, _, _, h, _ => by simp [DataW.TrodAll] at h
  | _ :: _, _ :: _, [], _, _, _, h, _ => by simp [DataW.TrodAll] at h

end

section
variable {H : Type} {enc : TypeId × Value → H} {P : Program}
/-- A law's contract, as its row wants it. -/
theorem law_contractB {B : DataW H → Nat} {N : Nat} (hB : Bulk B) {S : List TypeId} {f : FuncId} {fn : Func} {s : ChangeSpec} {tb : TypeId} {apart fresh handsOn again : Bool} (hp : plainT P S = true) (hl : laidOutB P = true) (hT : ∀ t ∈ fn.params.toList, t ∈ S ∧ P.readableRec t = true ∧ t < P.types.size)
    (hrt : fn.resultTypes = #[tb]) (hb : P.underlying tb = some .bool) (hv : s.vars = []) (hs : ∀ ds : List (DataW H), ds.length = fn.params.size → s.fn H ds = { results := [.lit (.bool true)], args := ds })
    (W : World) (base : Nat) (args : Array Value) (ds gs : List (DataW H)) (before : List MemPlace)
    (hval : ∀ (j : Nat) t v, fn.params[j]? = some t → args[j]? = some v → Value.okWide P W .any base t v)
    (hW : DataW.Whole enc P fn.params.toList s.vars apart W args.toList ds gs before)
    (hwt : (DataW.weightsEach P (fn.params.toList ++ s.plain.varTypes P) (ds ++ gs)).all (· ≤ reachBytes) = true)
    (hbk : (ds.map B).sum ≤ N) (hok : ∀ vs, WTs P fn.params.toList vs → (vs.map vb).sum ≤ N → FnOk P f vs ⟨[], 0⟩ { v := .t (.bool true) }) :
    Calls P f args W fun e W' => ∃ v, e = .returned v ∧ s.post enc P fn apart fresh handsOn again W args v W' := by
  have hW' := hW
  obtain ⟨p, q, hA, hV, rfl, hfz, hnd⟩ := hW
  rw [hv] at hV
  obtain ⟨rfl, rfl⟩ := trodVars_none hV
  have hdl : ds.length = fn.params.size := by
    have : ∀ (ts : List TypeId) (vs : List Value) (ds : List (DataW H)) (ps : List MemPlace), DataW.TrodAll enc P W 0 (fun _ => true) true ts vs ds ps → ds.length = ts.length := by
      intro ts
      induction ts with
      | nil => intro vs ds ps h; cases vs <;> cases ds <;> simp_all [DataW.TrodAll]
      | cons t ts ih =>
        intro vs ds ps h
        cases vs with
        | nil => simp [DataW.TrodAll] at h
        | cons v vs =>
          cases ds with
          | nil => simp [DataW.TrodAll] at h
          | cons d ds => obtain ⟨p, q, _, h2, _⟩ := h; simp [ih vs ds q h2]
    simpa using this _ _ _ _ hA
  have hwt' : (DataW.weightsEach P fn.params.toList ds).all (· ≤ reachBytes) = true := by
    have happ : ∀ (ts us : List TypeId) (ds es : List (DataW H)), ts.length = ds.length → DataW.weightsEach P (ts ++ us) (ds ++ es) = DataW.weightsEach P ts ds ++ DataW.weightsEach P us es := by
      intro ts
      induction ts with
      | nil => intro us ds es h; cases ds with
        | nil => simp [DataW.weightsEach]
        | cons d ds => simp at h
      | cons t ts ih => intro us ds es h; cases ds with
        | nil => simp at h
        | cons d ds => simp only [List.cons_append, DataW.weightsEach, List.append_assoc]; rw [ih us ds es (by simpa using h)]
    rw [happ _ _ _ _ (by simpa using hdl.symm), List.all_append, Bool.and_eq_true] at hwt
    exact hwt.1
  obtain ⟨vs, k1, k2, k4, k3⟩ := args_relB hB hp _ _ _ _ (fun t ht => (hT t ht).1) (fun j t v a b => hval j t v (by simpa using a) (by simpa using b)) hA hwt'
  refine ((hok vs k1 (Nat.le_trans k4 hbk)).2 (L.all W) args (RelS.all W) rfl (by simpa using k2) (fun j v x a b => k3 j v x (by simpa using a) b)).mono fun e W' he => ?_
  obtain ⟨v, Λ', rfl, rfl, g1, g2, g3, g4⟩ := he
  have hvt := g4.repT.bool_inv
  subst hvt
  have hbel : Below W.heap.size W Λ'.w := ⟨g1.fr.os, g1.fr.tape, g1.fr.output, g1.fr.size, fun b hb => (g1.fr.fix b hb none rfl).2⟩
  have hsf := hs (ds ++ []) (by simpa using hdl)
  refine ⟨_, rfl, post_of_below (pa := p) (pv := []) (by simpa using hW') ?_ ?_ ?_ (by simp) hbel ?_⟩
  · intro b sp hd
    rw [hsf, hrt]
    exact ⟨[], [], ⟨1, by simp [DataW.trod, hb, Value.cells]⟩, rfl, rfl⟩
  · intro sp hsp
    rw [hsf]
    have hlt : ∀ x ∈ p, x.block < W.heap.size := fun x hx => hW'.lt x (by simpa using hx)
    simpa using trodAll_stays hl hbel _ _ _ _ (fun t ht => (hT t ht).2) hA hlt (fun x hx => hsp x (by simpa using hx))
  · intro sp hsp
    rw [hsf, hv]; rfl
  · intro j t r hj hr
    rw [hrt] at hj
    cases j with
    | zero =>
      simp at hj; subst hj
      simp [hrt, Value.resultList] at hr; subst hr
      simp [Value.okWide, Cell.okWide, Cell.ok, hb]
    | succ j => simp at hj
/-- 'law_contractB', its facts as Booleans -/
theorem law_okB {H : Type} {enc : TypeId × Value → H} {P : Program} {B : DataW H → Nat} {N : Nat} (hB : Bulk B) (S : List TypeId) {f : FuncId} {fn : Func} {s : ChangeSpec} {tb : TypeId} {apart fresh handsOn again : Bool} (hp : plainT P S = true) (hl : laidOutB P = true)
    (hT : (fn.params.toList.all fun t => S.contains t && P.readableRec t && decide (t < P.types.size)) = true)
    (hrt : fn.resultTypes = #[tb]) (hb : P.underlying tb = some .bool) (hv : s.vars = []) (hs : ∀ ds : List (DataW H), ds.length = fn.params.size → s.fn H ds = { results := [.lit (.bool true)], args := ds })
    (W : World) (base : Nat) (args : Array Value) (ds gs : List (DataW H)) (before : List MemPlace)
    (hval : ∀ (j : Nat) t v, fn.params[j]? = some t → args[j]? = some v → Value.okWide P W .any base t v)
    (hW : DataW.Whole enc P fn.params.toList s.vars apart W args.toList ds gs before)
    (hwt : (DataW.weightsEach P (fn.params.toList ++ s.plain.varTypes P) (ds ++ gs)).all (· ≤ reachBytes) = true)
    (hbk : (ds.map B).sum ≤ N) (hok : ∀ vs, WTs P fn.params.toList vs → (vs.map vb).sum ≤ N → FnOk P f vs ⟨[], 0⟩ { v := .t (.bool true) }) :
    Calls P f args W fun e W' => ∃ v, e = .returned v ∧ s.post enc P fn apart fresh handsOn again W args v W' := by
  refine law_contractB hB (S := S) hp hl (fun t ht => ?_) hrt hb hv hs W base args ds gs before hval hW hwt hbk hok
  rw [List.all_eq_true] at hT
  have := hT t ht
  simp only [Bool.and_eq_true, decide_eq_true_eq, List.contains_iff_mem] at this
  exact ⟨this.1.1, this.1.2, this.2⟩

end
end Go.GB


/-
  GbRi: calls that hand on one's own slices as such.
-/
namespace Go.GB
section
variable {P : Program} {n m : Nat} {R : St → Prop} {draw : Bool} {all : List AO} {after : List (List Nat)} {live : List Nat} {k : List It} {b b' : Nat} {fl : List (Bool × Bool)} {ops : List AO} {st st' : St} {d : Option Nat}
def argsW {α : Type} (st : St) : List Ar → (List V → α) → α
  | [], K => K []
  | x :: r, K => (x.u st).force fun v => argsW st r fun vs => K (v :: vs)
theorem argsW_eq {α : Type} (st : St) : ∀ (l : List Ar) (K : List V → α), argsW st l K = K (argsV st l)
  | [], K => rfl
  | x :: r, K => by simp only [argsW, V.force_eq, argsW_eq st r, argsV]
theorem Mid.callO {f : FuncId} {args : List Ar} {vs vs' : List V} {s1 : List (Nat × AObj)} {m1 : Nat} {out : Out} {v' : V} {ob' : List (Nat × AObj)} {cc : Bool} (r : List Nat) (h : FnOk P f vs ⟨s1, m1⟩ out) (hr : (nodupB r && (r.all (fun k => Nat.blt k b)) && Nat.beq r.length m1) = true)
    (hv : argsW st args some = some vs') (hvs : V.rens (renF r b) vs = vs') (hb : V.bds m1 vs = true) (hs1 : stoBd m1 s1 = true) (hsub : subS (renF r b) st.s.sto s1 m1) (hob : obIn s1 m1 out.n out.ob = true)
    (hv' : out.v.ren (renF r b) = v') (hob' : renOb (renF r b) out.ob = ob') (hcc : forceB (!ob'.isEmpty || decide (0 < out.n)) some = some cc)
    (hst : stepS0 b st d { v := v', ob := ob', n := out.n, rd := true } (fun b' st' => some (b', st')) = some (b', st'))
    (h' : Mid P n m R draw all after live k b' ((true, cc) :: fl) ops st') : Mid P n m R draw all after live k b fl (⟨d, none, .call f args⟩ :: ops) st := by
  simp only [Bool.and_eq_true] at hr
  obtain ⟨⟨hr1, hr2⟩, hr3⟩ := hr
  have hm : r.length = m1 := Nat.eq_of_beq_eq_true hr3
  subst hm
  rw [argsW_eq] at hv
  simp at hv
  refine Mid.opX rfl ?_
  simp only [evX]
  rw [hv, ← hvs]
  have hat := FnOk.ren (renRn (n := out.n) hr1 hr2) h hb hs1 (subS_at hsub) (obIn_at hob)
  rw [hv', ← renOb_eq, hob'] at hat
  simp only [forceB_eq, Option.some.injEq] at hcc
  simp only [stepS0_eq, Option.some.injEq, Prod.mk.injEq] at hst
  obtain ⟨rfl, rfl⟩ := hst
  refine ⟨{ v := v', ob := ob', n := out.n, rd := true }, by simp only [if_true]; exact hat, ?_⟩
  simp only [hcc]
  exact h'
end
end Go.GB


/-
  GbRj: a contract for those who know more of what they hand over.
-/
namespace Go.GB
variable {P : Program}
section
variable {n m : Nat} {R : St → Prop} {draw : Bool} {all : List AO} {after : List (List Nat)} {live : List Nat} {k : List It} {b b' : Nat} {fl : List (Bool × Bool)} {ops : List AO} {st st' : St} {d : Option Nat}
end
end Go.GB


/-
  GbZG: the driver's rules for growing arrays that may be changed; what is known less, with the objects in view.
-/
namespace Go.GB

theorem rep_blockO {l : Nat → Lab} {w : World} {b off cap sz : Nat} {arr : Array Value} {e : TypeId} {fz : Nat × Nat} {xs : List (List T)} (hb : w.heap[b]? = some (.cells arr e fz)) (hcap : xs.length ≤ cap)
    (hsz : ∀ (i : Nat) (c : List T), xs[i]? = some c → c.length = sz) (hr : ∀ o, Rd l b o)
    (hx : ∀ (j : Nat) (x : T), xs.flatten[j]? = some x → ∃ v, arr[off + j]? = some v ∧ RepT l w v x) : RepT l w (.slice (some ⟨b, off, none⟩) xs.length cap) (.lst xs) := by
  refine .lst _ cap sz xs b off (fun i j => arr.toList.getD (off + (i * sz + j)) undef) hcap hsz (fun _ _ _ _ _ _ => rfl) (fun _ _ _ _ _ _ => hr _) ?_ ?_
  · intro i j c x h1 h2
    obtain ⟨v, h3, _⟩ := hx (i * sz + j) x (flat_get xs hsz i j c x h1 h2)
    rw [cell_of_row w b _ arr e fz hb, Nat.add_assoc, h3]
    simp [h3]
  · intro i j c x h1 h2
    obtain ⟨v, h3, h4⟩ := hx (i * sz + j) x (flat_get xs hsz i j c x h1 h2)
    simpa [h3] using h4

/-- Knowing less of a value, with the objects in view: names from m on are forgotten. -/
def LeZ (s : S) (m m' : Nat) (x x' : V) : Prop := ∀ (Λ : L) (v : Value), m ≤ Λ.nxt → RelS Λ s → RelV Λ v x → RelV (Λ.cut m m') v x'
theorem LeZ.le {s : S} {m m' : Nat} {x x' : V} (hm : m ≤ m') (h : LeX m m' x x') : LeZ s m m' x x' := fun _ _ h1 _ h2 => h.cut hm h1 h2

/-- a growing array's slice that is changed no more -/
theorem LeZ.gsl {s : S} {m m' k ver off len sz : Nat} {cs : List V} {ts : List T} {xs : List (List T)} (hk : m ≤ k) (hs : aget s.sto k = some (.gro ver cs)) (hle : off + len * sz ≤ cs.length) (hts : ((cs.drop off).take (len * sz)).mapM V.cell1 = some ts) (hxs : xs.flatten = ts) (hn : xs.length = len) (hl : allLen sz xs = true) :
    LeZ s m m' (.gsl k ver off len sz) (.t (.lst xs)) := by
  intro Λ v hm hr hv
  subst hn
  generalize hlen : xs.length = len at hv hts hle
  cases hv with
  | gsl hv hkn hn0 h =>
    have h0 : Λ.frf k 0 = ver := (hr.sto k _ hs).2.1
    rcases h h0.symm with ⟨⟨a, rfl⟩, e⟩ | ⟨b, cap, N, rfl, hc, hcur, hN, hN2⟩
    · rw [e] at hlen
      have : xs = [] := List.length_eq_zero_iff.1 hlen
      subst this; exact .t .nil
    · obtain ⟨arr, e, h2, h3, h4⟩ := hr.gCells hs hcur
      obtain ⟨k1, k2⟩ := mapM_cell1 _ ts hts
      obtain ⟨i, hlab, _⟩ := hcur
      have hlab' : (Λ.cut m m').lab b = .fix none := by simp [L.cut, hlab]; omega
      subst hlen
      refine .t (rep_blockO (sz := sz) (b := b) (w := (Λ.cut m m').w) h2 hc (allLen_at hl) (fun o => by simp [Rd, hlab']) fun j x hj => ?_)
      rw [hxs] at hj
      have hjl : j < ts.length := (List.getElem?_eq_some_iff.1 hj).1
      rw [← k1, List.length_take, List.length_drop] at hjl
      have hcj : ((cs.drop off).take (xs.length * sz))[j]? = some (cs[off + j]'(by omega)) := by
        rw [List.getElem?_take, if_pos (by omega), List.getElem?_drop, List.getElem?_eq_getElem (by omega)]
      have hc1 := k2 j _ x hcj hj
      have harr : off + j < arr.size := by omega
      exact ⟨arr[off + j], by simp [harr], ((h4 (off + j) _ _ (by simp [harr]) (List.getElem?_eq_getElem (by omega))).cell1 hc1).cut⟩

inductive LeZs (s : S) (m m' : Nat) : List V → List V → Prop
  | nil : LeZs s m m' [] []
  | cons {x y : V} {xs ys : List V} (h : LeZ s m m' x y) (t : LeZs s m m' xs ys) : LeZs s m m' (x :: xs) (y :: ys)
theorem LeZs.spec {s : S} {m m' : Nat} {xs ys : List V} (h : LeZs s m m' xs ys) : xs.length = ys.length ∧ ∀ (j : Nat) (c d : V), xs[j]? = some c → ys[j]? = some d → LeZ s m m' c d := by
  induction h with
  | nil => exact ⟨rfl, fun j c d h => by simp at h⟩
  | cons h _ ih =>
    refine ⟨by simp [ih.1], fun j c d h1 h2 => ?_⟩
    cases j with
    | zero => simp at h1 h2; subst h1; subst h2; exact h
    | succ j => exact ih.2 j c d (by simpa using h1) (by simpa using h2)

theorem LeZ.agg {s : S} {m m' : Nat} {xs ys : List V} (h : LeZs s m m' xs ys) : LeZ s m m' (.agg xs) (.agg ys) := by
  intro Λ v hm hr hv
  obtain ⟨h1, h2⟩ := h.spec
  cases hv with
  | agg hs hv =>
    refine .agg (hs.trans h1) fun j u d hj hd => ?_
    have hlt : j < xs.length := by rw [h1]; exact (List.getElem?_eq_some_iff.1 hd).1
    exact h2 j xs[j] d (by simp [hlt]) hd Λ u hm hr (hv j u _ hj (by simp [hlt]))
theorem LeZ.tup {s : S} {m m' : Nat} {xs ys : List V} (h : LeZs s m m' xs ys) : LeZ s m m' (.tup xs) (.tup ys) := by
  intro Λ v hm hr hv
  obtain ⟨h1, h2⟩ := h.spec
  cases hv with
  | tup hs hv =>
    refine .tup (hs.trans h1) fun j u d hj hd => ?_
    have hlt : j < xs.length := by rw [h1]; exact (List.getElem?_eq_some_iff.1 hd).1
    exact h2 j xs[j] d (by simp [hlt]) hd Λ u hm hr (hv j u _ hj (by simp [hlt]))

inductive LeOZ (s : S) (m m' : Nat) : AObj → AObj → Prop
  | le {o o' : AObj} (h : LeO m m' o o') : LeOZ s m m' o o'
  | cells {cs ds : List V} (h : LeZs s m m' cs ds) : LeOZ s m m' (.cells cs) (.cells ds)
  | gro {r : Nat} {cs ds : List V} (h : LeZs s m m' cs ds) : LeOZ s m m' (.gro r cs) (.gro r ds)
  | farr {ns ms : List Nat} (h : ∀ i : Nat, (ns[i]?).getD 0 = (ms[i]?).getD 0) : LeOZ s m m' (.farr ns) (.farr ms)

theorem LeZs.same {s : S} {m m' : Nat} (hm : m ≤ m') : ∀ {xs : List V}, V.bds m xs = true → LeZs s m m' xs xs
  | [], _ => .nil
  | x :: r, h => by simp [V.bds] at h; exact .cons (.le hm (.same h.1)) (.same hm h.2)
theorem LeZs.app {s : S} {m m' : Nat} {a b c d : List V} (h : LeZs s m m' a b) (k : LeZs s m m' c d) : LeZs s m m' (a ++ c) (b ++ d) := by
  induction h with
  | nil => exact k
  | cons h _ ih => exact .cons h ih
/-- a nil slice is an empty array of a family -/
theorem LeZ.nilFow {s : S} {m m' k i sz : Nat} (hm : m ≤ m') (hk : k < m) : LeZ s m m' .nils (.fow k i sz []) := by
  intro Λ v hm hr hv
  cases hv with
  | nils => exact .fow .nil (by simp) (by show k < m'; omega) (by simp) (fun _ => .inl ⟨⟨_, rfl⟩, rfl⟩)
theorem farr_zero {ns : List Nat} (i : Nat) : (ns[i]?).getD 0 = ((ns ++ [0])[i]?).getD 0 := by
  by_cases h : i < ns.length
  · rw [List.getElem?_append_left h]
  · rw [List.getElem?_eq_none (by omega), List.getElem?_append_right (by omega)]
    cases i - ns.length with
    | zero => rfl
    | succ j => simp
theorem LeOZ.groPush {α : Type} {s : S} {m m' r r' : Nat} {f : α → List V} {l : List α} {x : α} {vs : List V} (hm : m ≤ m') (e : r = r') (hb : ∀ x, V.bds m (f x) = true) (h : LeZs s m m' vs (f x)) : LeOZ s m m' (.gro r (Go.GB.gE f l ++ vs)) (.gro r' (Go.GB.gE f (l ++ [x]))) := by
  subst e
  rw [gE_append]
  have : Go.GB.gE f [x] = f x := by simp [Go.GB.gE]
  rw [this]
  exact .gro ((LeZs.same hm (V.bds_gE hb l)).app h)

def LeEZ (s : S) (m m' : Nat) (e : List (Nat × V)) : List (Nat × V) → Prop
  | [] => True
  | (t, x) :: r => LeZ s m m' (look e t) x ∧ LeEZ s m m' e r
def LeSZ (s : S) (m m' : Nat) : List (Nat × AObj) → Prop
  | [] => True
  | (k, o) :: r => ((k < m ∧ ∃ o', aget s.sto k = some o' ∧ LeOZ s m m' o' o) ∨ (m ≤ k ∧ k < m' ∧ o.fresh = true)) ∧ LeSZ s m m' r

theorem LeEZ.at {s : S} {m m' : Nat} {e : List (Nat × V)} : ∀ {e' : List (Nat × V)}, LeEZ s m m' e e' → ∀ t, LeZ s m m' (look e t) (look e' t)
  | [], _, t => fun _ _ _ _ _ => .top
  | (k, x) :: r, h, t => by
    obtain ⟨h1, h2⟩ := h
    by_cases e' : k = t
    · subst e'; simpa [look, aget] using h1
    · have := LeEZ.at h2 t; simpa [look, aget, e'] using this
theorem LeSZ.at {s : S} {m m' : Nat} : ∀ {s' : List (Nat × AObj)}, LeSZ s m m' s' → ∀ k o, aget s' k = some o →
    (k < m ∧ ∃ o', aget s.sto k = some o' ∧ LeOZ s m m' o' o) ∨ (m ≤ k ∧ k < m' ∧ o.fresh = true)
  | [], _, k, o, h => by simp [aget] at h
  | (j, x) :: r, h, k, o, hk => by
    obtain ⟨h1, h2⟩ := h
    by_cases e' : j = k
    · subst e'; simp [aget] at hk; subst hk; exact h1
    · simp only [aget, e', if_false] at hk; exact LeSZ.at h2 k o hk

theorem RelS.weakZ {Λ : L} {s : S} (h : RelS Λ s) {s' : S} {m m' : Nat} (hm0 : m ≤ Λ.nxt) (hm' : m ≤ m') (hs : LeSZ s m m' s'.sto) : RelS (Λ.cut m m') s' := by
  have h0 : RelS (Λ.cut m m') ⟨[], 0⟩ := h.weak (s' := ⟨[], 0⟩) hm0 hm' trivial
  refine ⟨fun k o hk => ?_, h0.inj, h0.new, h0.bnd, h0.frz, h0.injF, h0.bndF, h0.frzF⟩
  rcases hs.at k o hk with ⟨hkm, o', ho', hle⟩ | hfr
  · cases hle with
    | le hle => exact (h.weak (s' := ⟨[(k, o)], 0⟩) hm0 hm' ⟨.inl ⟨hkm, o', ho', hle⟩, trivial⟩).sto k o (by simp [aget])
    | cells hle =>
      refine ⟨Nat.lt_of_lt_of_le hkm hm', ?_⟩
      obtain ⟨b, arr, e, e1, e2, e3, e4⟩ := (h.sto k _ ho').2
      obtain ⟨q1, q2⟩ := hle.spec
      refine ⟨b, arr, e, cut_obj e1 hkm, e2, by rw [e3]; exact q1, fun j v d a1 a2 => ?_⟩
      have hlt : j < _ := (List.getElem?_eq_some_iff.1 a2).1
      rw [← q1] at hlt
      have hc := List.getElem?_eq_getElem hlt
      exact q2 j _ d hc a2 Λ v hm0 h (e4 j v _ a1 hc)
    | gro hle =>
      refine ⟨Nat.lt_of_lt_of_le hkm hm', ?_⟩
      obtain ⟨g0, hr⟩ := (h.sto k _ ho').2
      obtain ⟨q1, q2⟩ := hle.spec
      refine ⟨by simp [L.cut, hkm, g0], ?_⟩
      rcases hr with ⟨e1, e2⟩ | ⟨b, arr, e, ⟨i, e1, e1'⟩, e2, e3, e4⟩
      · subst e1
        have := List.length_eq_zero_iff.1 q1.symm
        exact .inl ⟨this, fun b i hb => e2 b i (cut_fob_inv hb).1⟩
      · refine .inr ⟨b, arr, e, ⟨i, cut_fob e1 hkm, fun b' i' h' => e1' b' i' (cut_fob_inv h').1⟩, e2, by rw [← q1]; exact e3, fun j v d a1 a2 => ?_⟩
        have hlt : j < _ := (List.getElem?_eq_some_iff.1 a2).1
        rw [← q1] at hlt
        have hc := List.getElem?_eq_getElem hlt
        exact q2 j _ d hc a2 Λ v hm0 h (e4 j v _ a1 hc)
    | farr hle =>
      refine ⟨Nat.lt_of_lt_of_le hkm hm', fun i => ?_⟩
      have g := (h.sto k _ ho').2 i
      show (Λ.cut m m').frf k i = _
      rw [← hle i]
      simp only [L.cut, hkm, if_true]
      exact g
  · exact (h.weak (s' := ⟨[(k, o)], 0⟩) hm0 hm' ⟨.inr hfr, trivial⟩).sto k o (by simp [aget])

theorem Rel.weakZ {C : Ctx} {Λ : L} {st : St} {a : Act} (h : Rel C Λ st a) {st' : St} {m : Nat} (hm : C.Λ.nxt ≤ m) (hm0 : m ≤ Λ.nxt) (hm' : m ≤ st'.s.nxt)
    (he : LeEZ st.s m st'.s.nxt st.env st'.env) (hs : LeSZ st.s m st'.s.nxt st'.s.sto) : Rel C (Λ.cut m st'.s.nxt) st' a :=
  ⟨h.kp.cut hm hm', h.size, h.defers, fun t => he.at t Λ _ hm0 h.s (h.env t), h.s.weakZ hm0 hm' hs⟩

section
variable {P : Program} {n m : Nat} {R : St → Prop} {Q : AExit → St → Prop} {st : St}
theorem Sat.weakZ {c : ACode} {st' : St} (k : Nat) (h : Sat P n m c st' Q) (h1 : m ≤ k) (h2 : k ≤ st.s.nxt) (h3 : k ≤ st'.s.nxt) (he : LeEZ st.s k st'.s.nxt st.env st'.env) (hs : LeSZ st.s k st'.s.nxt st'.s.sto) : Sat P n m c st Q := by
  intro code e1 e2 e3 C Λ a e4 e5 e6 e7 e8
  exact h code e1 e2 e3 C (Λ.cut k st'.s.nxt) a e4 e5 e6 (e7.weakZ (by omega) (by omega) h3 he hs) rfl
/-- Knowing less ahead of code, with the objects in view; j names are kept. -/
theorem Run.weakZ {k k' : List It} {c : ACode} {st st' : St} (j : Nat) (hk : advK 200 k = .c c :: k') (h : Run P n m R (.c c :: k') st') (h1 : Nat.ble m j = true) (h2 : Nat.ble j st.s.nxt = true) (h3 : Nat.ble j st'.s.nxt = true) (he : LeEZ st.s j st'.s.nxt st.env st'.env) (hs : LeSZ st.s j st'.s.nxt st'.s.sto) : Run P n m R k st :=
  Run.adv 200 hk (by
    simp only [Run, contQ] at h ⊢
    exact Sat.weakZ j h (Nat.le_of_ble_eq_true h1) (Nat.le_of_ble_eq_true h2) (Nat.le_of_ble_eq_true h3) he hs)
end

/- ---------- lists whose elements have some cells each ---------- -/

def gT {α : Type} (g : α → List T) : α → List V := fun x => (g x).map V.t
theorem gE_gT {α : Type} (g : α → List T) (l : List α) : gE (gT g) l = ((l.map g).flatten).map V.t := by
  simp only [gE, List.map_flatten, List.map_map]
  rfl
theorem cell1_gT {α : Type} (g : α → List T) (l : List α) : (gE (gT g) l).mapM V.cell1 = some (l.map g).flatten := by
  rw [gE_gT]
  have := cell1_cE (fun t : T => t) (l.map g).flatten
  simpa [cE] using this
theorem gT_length {α : Type} {g : α → List T} {sz : Nat} (h : ∀ x, (g x).length = sz) (x : α) : (gT g x).length = sz := by simp [gT, h]
/-- a list's cells from an element on -/
theorem gE_drop {α : Type} {f : α → List V} {sz : Nat} (h : ∀ x, (f x).length = sz) : ∀ (l : List α) (i j n : Nat) (e : α), l[i]? = some e → j + n ≤ sz → ((gE f l).drop (i * sz + j)).take n = ((f e).drop j).take n
  | [], i, j, n, e, hi, _ => by simp at hi
  | x :: r, 0, j, n, e, hi, hj => by
    simp at hi; subst hi
    simp only [gE, List.map_cons, List.flatten_cons, Nat.zero_mul, Nat.zero_add]
    rw [List.drop_append, List.take_append]
    have : n - ((f x).drop j).length = 0 := by simp [h]; omega
    rw [this]; simp
  | x :: r, i + 1, j, n, e, hi, hj => by
    have := gE_drop h r i j n e (by simpa using hi) hj
    simp only [gE, List.map_cons, List.flatten_cons] at this ⊢
    rw [List.drop_append]
    have e1 : (f x).drop ((i + 1) * sz + j) = [] := by rw [List.drop_eq_nil_iff, h, Nat.add_mul]; omega
    have e2 : (i + 1) * sz + j - (f x).length = i * sz + j := by rw [h, Nat.add_mul]; omega
    rw [e1, e2, List.nil_append, this]

theorem setAt_app (a b : List V) : ∀ (vs : List V) (o : Nat), setAt (a ++ b) (a.length + o) vs = a ++ setAt b o vs
  | [], o => rfl
  | v :: r, o => by
    have := setAt_app a (b.set o v) r (o + 1)
    simp only [setAt]
    rw [List.set_append, if_neg (by omega), Nat.add_sub_cancel_left, Nat.add_assoc, this]
theorem setAt_left (b : List V) : ∀ (vs a : List V) (o : Nat), o + vs.length ≤ a.length → setAt (a ++ b) o vs = setAt a o vs ++ b
  | [], a, o, _ => rfl
  | v :: r, a, o, h => by
    simp only [List.length_cons] at h
    have := setAt_left b r (a.set o v) (o + 1) (by simp; omega)
    simp only [setAt]
    rw [List.set_append, if_pos (by omega), this]
theorem gE_set {α : Type} {f : α → List V} {sz : Nat} (h : ∀ x, (f x).length = sz) (vs : List V) : ∀ (l : List α) (i j : Nat) (e e' : α), l[i]? = some e → j + vs.length ≤ sz → setAt (f e) j vs = f e' → setAt (gE f l) (i * sz + j) vs = gE f (l.set i e')
  | [], i, j, e, e', hi, _, _ => by simp at hi
  | x :: r, 0, j, e, e', hi, hj, he => by
    simp at hi; subst hi
    simp only [gE, List.map_cons, List.flatten_cons, Nat.zero_mul, Nat.zero_add, List.set_cons_zero]
    rw [setAt_left _ _ _ _ (by rw [h]; exact hj), he]
  | x :: r, i + 1, j, e, e', hi, hj, he => by
    have := gE_set h vs r i j e e' (by simpa using hi) hj he
    simp only [gE, List.map_cons, List.flatten_cons, List.set_cons_succ] at this ⊢
    have e2 : (i + 1) * sz + j = (f x).length + (i * sz + j) := by rw [h, Nat.add_mul]; omega
    rw [e2, setAt_app, this]

/-- the freeze of a whole list, or of its front -/
theorem LeZ.gE {α : Type} {s : S} {m m' k ver len sz : Nat} (g : α → List T) (l : List α) {l' : List α} (hk : m ≤ k) (hs : aget s.sto k = some (.gro ver (gE (gT g) l'))) (hl : l = l'.take len) (hn : len ≤ l'.length) (hg : ∀ x, (g x).length = sz) :
    LeZ s m m' (.gsl k ver 0 len sz) (.t (.lst (l.map g))) := by
  subst hl
  have hlen := gE_length (f := gT g) (gT_length hg)
  have e1 : ((Go.GB.gE (gT g) l').drop 0).take (len * sz) = Go.GB.gE (gT g) (l'.take len) := by
    have hsplit := gE_append (gT g) (l'.take len) (l'.drop len)
    rw [List.take_append_drop] at hsplit
    rw [List.drop_zero, hsplit, List.take_append]
    have e2 : (Go.GB.gE (gT g) (l'.take len)).length = len * sz := by rw [hlen, List.length_take, Nat.min_eq_left hn]
    rw [e2, Nat.sub_self, List.take_zero, List.append_nil, List.take_of_length_le (by omega)]
  refine LeZ.gsl (ts := ((l'.take len).map g).flatten) hk hs ?_ ?_ rfl (by simp; omega) (allLen_map hg _)
  · rw [hlen, Nat.zero_add]; exact Nat.mul_le_mul_right _ hn
  · rw [e1]; exact cell1_gT g _

section
variable {P : Program} {n m : Nat} {R : St → Prop}
variable {draw : Bool} {all : List AO} {after : List (List Nat)} {live : List Nat} {k : List It} {b : Nat} {fl : List (Bool × Bool)} {ops : List AO} {st st' : St} {d : Option Nat} {b' : Nat}

theorem looksG_at {gc : Bool} {x : Ar} {v : V} {p : List Bool} (hx : rd gc st x = (v, p)) (hv : (∃ k r o l s, v = .gsl k r o l s) ∨ ∃ k r o, v = .gpt k r o) : looksG (x.v st) = true := by
  unfold rd at hx
  generalize x.v st = u at hx ⊢
  cases u <;> simp only [V.un, Prod.mk.injEq] at hx <;> obtain ⟨rfl, _⟩ := hx <;> simp_all [looksG]
  rename_i c y _
  cases y <;> simp_all
theorem looksV_gpt {gc : Bool} {x : Ar} {q r o : Nat} {p : List Bool} (hx : rd gc st x = (.gpt q r o, p)) : looksV (x.v st) = true := by
  unfold rd at hx
  generalize x.v st = u at hx ⊢
  cases u <;> simp only [V.un, Prod.mk.injEq] at hx <;> simp_all [looksV]

theorem Mid.lenG {x : Ar} {q ver off len sz : Nat} {cs : List V} (hx : rd true st x = (.gsl q ver off len sz, [])) (hq : aget st.s.sto q = some (.gro ver cs)) (hs : stepV st d (.t (.int .i64 len)) some = some st')
    (h' : Mid P n m R draw all after live k b ((true, false) :: fl) ops st') : Mid P n m R draw all after live k b fl (⟨d, none, .len x⟩ :: ops) st :=
  Mid.valL (v := .t (.int .i64 len)) (ps := [true]) (by simp only [evalE, hx, hq]; simp) (looksG_at hx (.inl ⟨_, _, _, _, _, rfl⟩)) ⟨rfl, trivial⟩ hs h'
/-- a load of one cell of an element -/
theorem Mid.ldG {α : Type} {f : α → List V} {l : List α} {e : α} {c : V} (i j : Nat) {sz nn : Nat} {x : Ar} {q ver o : Nat} (hx : rd true st x = (.gpt q ver o, [])) (hq : aget st.s.sto q = some (.gro ver (gE f l))) (hv : 0 < ver) (ho : o = i * sz + j) (hsz : ∀ x, (f x).length = sz) (he : l[i]? = some e) (hc : (f e)[j]? = some c) (hs : stepV st d c some = some st')
    (h' : Mid P n m R draw all after live k b ((true, false) :: fl) ops st') : Mid P n m R draw all after live k b fl (⟨d, none, .ld false nn x⟩ :: ops) st := by
  have hj : j < sz := by rw [← hsz e]; exact (List.getElem?_eq_some_iff.1 hc).1
  refine Mid.valL (v := c) (ps := [true, true]) ?_ (looksV_gpt hx) ⟨rfl, rfl, trivial⟩ hs h'
  simp only [evalE, hx, hq]
  rw [ho, gE_at hsz l i j e he hj, hc]
  simp [hv]
/-- a load of some cells of an element -/
theorem Mid.ldGA {α : Type} {f : α → List V} {l : List α} {e : α} {cs : List V} (i j : Nat) {sz nn : Nat} {x : Ar} {q ver o : Nat} (hx : rd true st x = (.gpt q ver o, [])) (hq : aget st.s.sto q = some (.gro ver (gE f l))) (hv : 0 < ver) (ho : o = i * sz + j) (hsz : ∀ x, (f x).length = sz) (he : l[i]? = some e) (hj : j + nn ≤ sz) (hc : ((f e).drop j).take nn = cs) (hs : stepV st d (.agg cs) some = some st')
    (h' : Mid P n m R draw all after live k b ((true, false) :: fl) ops st') : Mid P n m R draw all after live k b fl (⟨d, none, .ld true nn x⟩ :: ops) st := by
  refine Mid.valL (v := .agg cs) (ps := [true, true]) ?_ (looksV_gpt hx) ⟨rfl, rfl, trivial⟩ hs h'
  have hi : i < l.length := (List.getElem?_eq_some_iff.1 he).1
  have hle : o + nn ≤ (gE f l).length := by
    rw [gE_length hsz, ho]
    have : (i + 1) * sz ≤ l.length * sz := Nat.mul_le_mul_right _ hi
    rw [Nat.add_mul] at this; omega
  simp only [evalE, hx, hq, if_true]
  rw [if_pos hle, ho, gE_drop hsz l i j nn e he hj, hc]
  simp [hv]
/-- a store into an element -/
theorem Mid.stG {α : Type} {f : α → List V} {l : List α} {e : α} (e' : α) (i j : Nat) {sz nn : Nat} {x v : Ar} {vs : List V} {q ver o : Nat} (hx : x.u st = .gpt q ver o) (hq : aget st.s.sto q = some (.gro ver (gE f l))) (hv : (v.u st).parts = some vs) (hn : Nat.beq vs.length nn = true) (hc : vs.all V.cellOk = true) (ho : o = i * sz + j) (hsz : ∀ x, (f x).length = sz) (he : l[i]? = some e) (hj : j + nn ≤ sz) (hset : setAt (f e) j vs = f e')
    (hst : stepS0 b st d { v := .top, ob := [(q, .gro ver (gE f (l.set i e')))], rd := true } (fun b' st' => some (b', st')) = some (b', st'))
    (h' : Mid P n m R draw all after live k b' ((true, true) :: fl) ops st') : Mid P n m R draw all after live k b fl (⟨d, none, .st nn x v⟩ :: ops) st := by
  simp only [stepS0_eq, Option.some.injEq, Prod.mk.injEq] at hst
  obtain ⟨rfl, rfl⟩ := hst
  have hn' := Nat.eq_of_beq_eq_true hn
  have hi : i < l.length := (List.getElem?_eq_some_iff.1 he).1
  have hle : o + nn ≤ (gE f l).length := by
    rw [gE_length hsz, ho]
    have : (i + 1) * sz ≤ l.length * sz := Nat.mul_le_mul_right _ hi
    rw [Nat.add_mul] at this; omega
  refine Mid.opY rfl (.stG hx hq rfl hv hn' hle hc) ?_
  rw [ho, gE_set hsz vs l i j e e' he (by rw [hn']; exact hj) hset]
  exact h'
/-- append to a growing array, of any cells -/
theorem Mid.appGC {l : Nat} {sz by_ q ver : Nat} {cs vs : List V} {mm : Nat} {x y : Ar} (hx : x.u st = .gsl q ver 0 l sz) (hq : aget st.s.sto q = some (.gro ver cs)) (hl : cs.length = l * sz) (hy : addV st sz (y.u st) = some (vs, mm)) (hc : vs.all V.cellOk = true) (h1 : (l + mm) * by_ ≤ 140737488355328) (h2 : l + mm ≤ 9223372036854775807)
    (hst : stepS0 b st d { v := .gsl q (ver + 1) 0 (l + mm) sz, ob := [(q, .gro (ver + 1) (cs ++ vs))], rd := true } (fun b' st' => some (b', st')) = some (b', st'))
    (h' : Mid P n m R draw all after live k b' ((true, true) :: fl) ops st') : Mid P n m R draw all after live k b fl (⟨d, none, .app sz by_ x y⟩ :: ops) st := by
  simp only [stepS0_eq, Option.some.injEq, Prod.mk.injEq] at hst
  obtain ⟨rfl, rfl⟩ := hst
  exact Mid.opY rfl (.appG hx hq rfl hl hy hc h1 h2) h'
/-- append to an array of a family -/
theorem Mid.appF {α : Type} (g : α → List T) (l l2 : List α) {sz by_ q i : Nat} {ns : List Nat} {x y : Ar} (hx : x.u st = .fow q i sz (l.map g)) (hq : aget st.s.sto q = some (.farr ns)) (hi : ns[i]? = some l.length) (hy : (y.u st).cell1 = some (.lst (l2.map g))) (hg : ∀ x, (g x).length = sz) (h1 : (l.length + l2.length) * by_ ≤ 140737488355328) (h2 : l.length + l2.length ≤ 9223372036854775807)
    (hst : stepS0 b st d { v := .fow q i sz ((l ++ l2).map g), ob := [(q, .farr (ns.set i (l.length + l2.length)))], rd := true } (fun b' st' => some (b', st')) = some (b', st'))
    (h' : Mid P n m R draw all after live k b' ((true, true) :: fl) ops st') : Mid P n m R draw all after live k b fl (⟨d, none, .app sz by_ x y⟩ :: ops) st := by
  simp only [stepS0_eq, Option.some.injEq, Prod.mk.injEq] at hst
  obtain ⟨rfl, rfl⟩ := hst
  refine Mid.opY rfl (.appF hx hy hq (by simpa using hi) (allLen_map hg l2) (by simpa using h1) (by simpa using h2)) ?_
  simpa [List.map_append] using h'
/-- a slice literal as an object, of any cells -/
theorem Mid.bslO {sz : Nat} {zs : List (List T)} {cs : List V} {ps : List (Nat × Ar)} {ow : Bool} (hx : objParts st sz (zs.flatten.map V.t) ps = some cs)
    (hst : stepS0 b st d { v := .slc b 0 zs.length sz, ob := [(b, .cells cs)], n := 1 } (fun b' st' => some (b', st')) = some (b', st'))
    (h' : Mid P n m R draw all after live k b' ((false, true) :: fl) ops st') : Mid P n m R draw all after live k b fl (⟨d, none, .bsl ow sz zs ps⟩ :: ops) st := by
  simp only [stepS0_eq, Option.some.injEq, Prod.mk.injEq] at hst
  obtain ⟨rfl, rfl⟩ := hst
  exact Mid.opY rfl (.bslO hx) h'
/-- a slice literal as one more array of a family -/
theorem Mid.bslF {sz q : Nat} {zs xs : List (List T)} {ns : List Nat} {ps : List (Nat × Ar)} {ow : Bool} (hx : pureParts st sz zs ps = some xs) (hq : aget st.s.sto q = some (.farr ns)) (h0 : 0 < xs.length)
    (hst : stepS0 b st d { v := .fow q ns.length sz xs, ob := [(q, .farr (ns ++ [xs.length]))], rd := true } (fun b' st' => some (b', st')) = some (b', st'))
    (h' : Mid P n m R draw all after live k b' ((true, true) :: fl) ops st') : Mid P n m R draw all after live k b fl (⟨d, none, .bsl ow sz zs ps⟩ :: ops) st := by
  simp only [stepS0_eq, Option.some.injEq, Prod.mk.injEq] at hst
  obtain ⟨rfl, rfl⟩ := hst
  exact Mid.opY rfl (.bslF hx hq h0) h'
end
theorem V.rens_app (ρ : Nat → Nat) (a b : List V) : V.rens ρ (a ++ b) = V.rens ρ a ++ V.rens ρ b := by
  simp [V.rens_eq]
theorem V.rens_gE {α : Type} {ρ : Nat → Nat} {f f' : α → List V} (h : ∀ x, V.rens ρ (f x) = f' x) : ∀ (l : List α), V.rens ρ (gE f l) = gE f' l
  | [] => rfl
  | x :: r => by
    have := V.rens_gE h r
    simp only [gE] at this
    simp only [gE, List.map_cons, List.flatten_cons, V.rens_app, h, this]
theorem AObj.ren_gE {α : Type} {ρ : Nat → Nat} {f f' : α → List V} (h : ∀ x, V.rens ρ (f x) = f' x) (r : Nat) (l : List α) : (AObj.gro r (gE f l)).ren ρ = .gro r (gE f' l) := by
  simp [AObj.ren, V.rens_gE h]
end Go.GB


/-
  GbSh: what a law is handed, of package api's types.
-/
namespace Go.GB
open Go.RowKit
set_option linter.unusedSimpArgs false
set_option linter.unusedVariables false

def valSh : List Sh := [.int .i64, .int .i64, .str, .num 0, .lst 16 [.str]]
def argSh : List Sh := .str :: valSh
def dirSh : List Sh := [.str, .lst 96 argSh]
def refSh : List Sh := [.str, .lst 8 [.int .i64]]
def inputSh : List Sh := [.str] ++ refSh ++ [.bool] ++ valSh ++ [.lst 40 dirSh]
def fieldSh : List Sh := [.str, .lst 168 inputSh] ++ refSh ++ [.lst 40 dirSh]
def memberSh : List Sh := [.str, .lst 40 dirSh]
def defSh : List Sh := [.int .i64, .str, .lst 16 [.str], .lst 40 dirSh, .lst 104 fieldSh, .lst 40 memberSh, .lst 168 inputSh]
def docSh : List Sh := [.lst 144 defSh]
/-- lists of types that contain themselves -/
def YA : Nat → T → Prop
  | 0, x => ∃ l : List Val, x = .lst (l.map Val.enc) ∧ l.length * 80 ≤ B47 ∧ ∀ v ∈ l, v.Ok
  | _, x => ∃ l : List Pick, x = .lst (l.map Pick.enc) ∧ l.length * 160 ≤ B47 ∧ ∀ p ∈ l, p.Ok ∧ p.on.length ≤ maxLen

theorem reach_le : reachBytes ≤ 140737488355328 := by decide
theorem strs_of {Y : Nat → T → Prop} {x : T} {b : Nat} (h : (Sh.lst b [.str]).ok Y x) : ∃ l : List Str, x = .lst (l.map sE) ∧ l.length * b ≤ reachBytes ∧ ∀ s ∈ l, s.length ≤ reachBytes := by
  obtain ⟨xs, rfl, h1, _, h2⟩ := h
  obtain ⟨l, rfl, h3⟩ := choose_map (f := sE) (Q := fun s => s.length ≤ reachBytes) xs fun c hc => by
    obtain ⟨x, r, rfl, ⟨s, rfl, hs⟩, h⟩ := Sh.oks_cons (h2 c hc)
    obtain rfl := Sh.oks_nil h
    exact ⟨s, rfl, hs⟩
  exact ⟨l, rfl, by simpa using h1, h3⟩
theorem nums_of {Y : Nat → T → Prop} {x : T} {b : Nat} (h : (Sh.lst b [.int .i64]).ok Y x) : ∃ l : List Int, x = .lst (l.map nE) ∧ l.length * b ≤ reachBytes := by
  obtain ⟨xs, rfl, h1, _, h2⟩ := h
  obtain ⟨l, rfl, h3⟩ := choose_map (f := nE) (Q := fun _ => True) xs fun c hc => by
    obtain ⟨x, r, rfl, ⟨s, rfl, hs⟩, h⟩ := Sh.oks_cons (h2 c hc)
    obtain rfl := Sh.oks_nil h
    exact ⟨s, rfl, trivial⟩
  exact ⟨l, rfl, by simpa using h1⟩
theorem list_of {α : Type} {f : α → List T} {Q : α → Prop} {Y : Nat → T → Prop} {x : T} {b : Nat} {sh : List Sh} (hf : ∀ c, Sh.oks Y sh c → ∃ a, c = f a ∧ Q a) (h : (Sh.lst b sh).ok Y x) : ∃ l : List α, x = .lst (l.map f) ∧ l.length * b ≤ reachBytes ∧ l.length ≤ maxLen ∧ ∀ a ∈ l, Q a := by
  obtain ⟨xs, rfl, h1, h0, h2⟩ := h
  obtain ⟨l, rfl, h3⟩ := choose_map (f := f) (Q := Q) xs fun c hc => hf c (h2 c hc)
  exact ⟨l, rfl, by simpa using h1, by simpa using h0, h3⟩

/-- the shape of a value -/
theorem val_sh {r : List Sh} {c : List T} (h : Sh.oks YA (valSh ++ r) c) : ∃ (v : Val) (c' : List T), c = v.cs ++ c' ∧ v.Ok ∧ Sh.oks YA r c' := by
  obtain ⟨x1, c, rfl, ⟨k, rfl, _⟩, g1⟩ := Sh.oks_cons h
  obtain ⟨x2, c, rfl, ⟨i, rfl, _⟩, g2⟩ := Sh.oks_cons g1
  obtain ⟨x3, c, rfl, ⟨t, rfl, ht⟩, g3⟩ := Sh.oks_cons g2
  obtain ⟨x4, c, rfl, ⟨its, rfl, hi1, hi2⟩, g4⟩ := Sh.oks_cons g3
  obtain ⟨x5, c, rfl, hk, g5⟩ := Sh.oks_cons g4
  obtain ⟨ks, rfl, hk1, hk2⟩ := strs_of hk
  have := reach_le
  refine ⟨.mk k i t its ks, c, rfl, .mk hi1 (by unfold B47; omega) hi2 (by omega) (fun x hx => by have := hk2 x hx; omega), g5⟩
theorem val_sh0 {c : List T} (h : Sh.oks YA valSh c) : ∃ v : Val, c = v.enc ∧ v.Ok := by
  obtain ⟨v, c', rfl, h1, h2⟩ := val_sh (r := []) (by simpa using h)
  obtain rfl := Sh.oks_nil h2
  exact ⟨v, by rw [Val.enc_eq, List.append_nil], h1⟩
theorem arg_sh {c : List T} (h : Sh.oks YA argSh c) : ∃ a : Arg, c = a.enc ∧ a.Ok := by
  obtain ⟨x, c, rfl, ⟨n, rfl, _⟩, g1⟩ := Sh.oks_cons h
  obtain ⟨v, c', rfl, h1, h2⟩ := val_sh (r := []) (by simpa using g1)
  obtain rfl := Sh.oks_nil h2
  exact ⟨⟨n, v⟩, by simp [Arg.enc, Val.cs], h1⟩
theorem dir_sh {c : List T} (h : Sh.oks YA dirSh c) : ∃ a : Dir, c = a.enc ∧ a.Ok := by
  have := reach_le
  obtain ⟨x, c, rfl, ⟨n, rfl, hn⟩, g1⟩ := Sh.oks_cons h
  obtain ⟨x, c, rfl, hx, g2⟩ := Sh.oks_cons g1
  obtain rfl := Sh.oks_nil g2
  obtain ⟨l, rfl, h1, _, h2⟩ := list_of (fun c hc => arg_sh hc) hx
  exact ⟨⟨n, l⟩, rfl, ⟨by show l.length ≤ _; omega, h2, by show n.length ≤ _; omega⟩⟩
theorem dirs_sh {b : Nat} (hb : 0 < b) {x : T} (h : (Sh.lst b dirSh).ok YA x) : ∃ l : List Dir, x = .lst (l.map Dir.enc) ∧ l.length ≤ 140737488355328 ∧ ∀ d ∈ l, d.Ok := by
  have := reach_le
  obtain ⟨l, rfl, h1, _, h2⟩ := list_of (fun c hc => dir_sh hc) h
  refine ⟨l, rfl, ?_, h2⟩
  have : l.length ≤ l.length * b := Nat.le_mul_of_pos_right _ hb
  omega
theorem ref_sh {r : List Sh} {c : List T} (h : Sh.oks YA (refSh ++ r) c) : ∃ (v : Ref) (c' : List T), c = .str v.name :: .lst (v.wraps.map nE) :: c' ∧ v.Ok ∧ Sh.oks YA r c' := by
  have := reach_le
  obtain ⟨x1, c, rfl, ⟨n, rfl, hn⟩, g1⟩ := Sh.oks_cons h
  obtain ⟨x5, c, rfl, hk, g2⟩ := Sh.oks_cons g1
  obtain ⟨ks, rfl, hk1⟩ := nums_of hk
  exact ⟨⟨n, ks⟩, c, rfl, ⟨by show ks.length * 8 ≤ _; omega, by show n.length ≤ _; omega⟩, g2⟩
theorem input_sh {c : List T} (h : Sh.oks YA inputSh c) : ∃ a : Input, c = a.enc ∧ a.Ok := by
  have := reach_le
  obtain ⟨x, c, rfl, ⟨n, rfl, hn⟩, g1⟩ := Sh.oks_cons h
  obtain ⟨t, c, rfl, ht, g2⟩ := ref_sh g1
  obtain ⟨x, c, rfl, ⟨b, rfl⟩, g3⟩ := Sh.oks_cons g2
  obtain ⟨v, c, rfl, hv, g4⟩ := val_sh g3
  obtain ⟨x, c, rfl, hx, g5⟩ := Sh.oks_cons g4
  obtain rfl := Sh.oks_nil g5
  obtain ⟨l, rfl, h1, h2⟩ := dirs_sh (by decide) hx
  exact ⟨⟨n, t, b, v, l⟩, by simp [Input.enc, Val.cs], ⟨ht, hv, h1, h2, by show n.length ≤ _; omega⟩⟩
theorem inputs_sh {x : T} (h : (Sh.lst 168 inputSh).ok YA x) : ∃ l : List Input, x = .lst (l.map Input.enc) ∧ l.length ≤ 140737488355328 ∧ ∀ d ∈ l, d.Ok := by
  have := reach_le
  obtain ⟨l, rfl, h1, _, h2⟩ := list_of (fun c hc => input_sh hc) h
  exact ⟨l, rfl, by omega, h2⟩
theorem field_sh {c : List T} (h : Sh.oks YA fieldSh c) : ∃ a : Field, c = a.enc ∧ a.Ok := by
  have := reach_le
  obtain ⟨x, c, rfl, ⟨n, rfl, hn⟩, g1⟩ := Sh.oks_cons h
  obtain ⟨x, c, rfl, hx, g2⟩ := Sh.oks_cons g1
  obtain ⟨ins, rfl, i1, i2⟩ := inputs_sh hx
  obtain ⟨t, c, rfl, ht, g3⟩ := ref_sh g2
  obtain ⟨x, c, rfl, hx, g4⟩ := Sh.oks_cons g3
  obtain rfl := Sh.oks_nil g4
  obtain ⟨l, rfl, h1, h2⟩ := dirs_sh (by decide) hx
  exact ⟨⟨n, ins, t, l⟩, rfl, ⟨i1, i2, ht, h1, h2, by show n.length ≤ _; omega⟩⟩
theorem member_sh {c : List T} (h : Sh.oks YA memberSh c) : ∃ a : Member, c = a.enc ∧ a.Ok := by
  have := reach_le
  obtain ⟨x, c, rfl, ⟨n, rfl, hn⟩, g1⟩ := Sh.oks_cons h
  obtain ⟨x, c, rfl, hx, g2⟩ := Sh.oks_cons g1
  obtain rfl := Sh.oks_nil g2
  obtain ⟨l, rfl, h1, h2⟩ := dirs_sh (by decide) hx
  exact ⟨⟨n, l⟩, rfl, ⟨h1, h2, by show n.length ≤ _; omega⟩⟩
theorem def_sh {c : List T} (h : Sh.oks YA defSh c) : ∃ a : Def, c = a.enc ∧ a.Ok := by
  have := reach_le
  obtain ⟨x, c, rfl, ⟨k, rfl, _⟩, g1⟩ := Sh.oks_cons h
  obtain ⟨x, c, rfl, ⟨n, rfl, hn⟩, g2⟩ := Sh.oks_cons g1
  obtain ⟨x, c, rfl, hx, g3⟩ := Sh.oks_cons g2
  obtain ⟨im, rfl, a1, a2⟩ := strs_of hx
  obtain ⟨x, c, rfl, hx, g4⟩ := Sh.oks_cons g3
  obtain ⟨ds, rfl, b1, b2⟩ := dirs_sh (by decide) hx
  obtain ⟨x, c, rfl, hx, g5⟩ := Sh.oks_cons g4
  obtain ⟨fs, rfl, c1, _, c2⟩ := list_of (fun c hc => field_sh hc) hx
  obtain ⟨x, c, rfl, hx, g6⟩ := Sh.oks_cons g5
  obtain ⟨ms, rfl, d1, _, d2⟩ := list_of (fun c hc => member_sh hc) hx
  obtain ⟨x, c, rfl, hx, g7⟩ := Sh.oks_cons g6
  obtain ⟨is, rfl, e1, e2⟩ := inputs_sh hx
  obtain rfl := Sh.oks_nil g7
  exact ⟨⟨k, n, im, ds, fs, ms, is⟩, rfl, ⟨by show im.length ≤ _; omega, b1, b2, by show fs.length ≤ _; omega, c2, by show ms.length ≤ _; omega, d2, e1, e2, by show n.length ≤ _; omega, fun y hy => by have := a2 y hy; omega⟩⟩
theorem doc_sh {r : List Sh} {c : List T} (h : Sh.oks YA (docSh ++ r) c) : ∃ (l : List Def) (c' : List T), c = .lst (l.map Def.enc) :: c' ∧ DocOk l ∧ Sh.oks YA r c' := by
  have := reach_le
  obtain ⟨x, c, rfl, hx, g1⟩ := Sh.oks_cons h
  obtain ⟨l, rfl, h1, _, h2⟩ := list_of (fun c hc => def_sh hc) hx
  exact ⟨l, c, rfl, ⟨by omega, h2, by omega⟩, g1⟩
/-- the types that contain themselves -/
def spV (vt : TypeId) (e : TypeId) : Option Nat := if e = vt then some 0 else none
theorem val_wt {P : Program} {vt : TypeId} (hb : P.bytesOf vt = 80) (hs : shOf P (spV vt) 6 vt = some valSh) : ∀ (n : Nat) (c : List T), WT P n vt c → ∃ v : Val, c = v.enc ∧ v.Ok := by
  intro n
  induction n using Nat.strongRecOn with
  | _ n ih =>
    intro c h
    refine val_sh0 (shOf_ok (Y := YA) n 6 vt valSh c (fun e i k xs hk he hr hl hc => ?_) hs h)
    unfold spV at he
    split at he
    · rename_i e1; subst e1
      simp only [Option.some.injEq] at he; subst he
      obtain ⟨l, rfl, h3⟩ := choose_map (f := Val.enc) (Q := Val.Ok) xs fun c hcm => ih k hk c (hc c hcm)
      have := reach_le
      rw [hb] at hr
      exact ⟨l, rfl, by unfold B47; simp at hr; omega, h3⟩
    · cases he
/-- shapes that end there -/
theorem doc_sh0 {c : List T} (h : Sh.oks YA docSh c) : ∃ l : List Def, c = [.lst (l.map Def.enc)] ∧ DocOk l := by
  obtain ⟨l, c', rfl, h1, h2⟩ := doc_sh (r := []) h
  obtain rfl := Sh.oks_nil h2
  exact ⟨l, rfl, h1⟩
end Go.GB


/-
  GbZH: a law's statement with the bound on its arguments' sizes.
-/
namespace Go.GB
open Go.RowKit Go.WideShapes Go.ChangeShapes
theorem handed {H : Type} {enc : TypeId × Value → H} {a : Assume} {C : Checked} {os : Os} {f : FuncId} {fn : Func} {s : ChangeSpec} {conds : List PathCond} {apart fresh handsOn again : Bool}
    (own : ownKnob C.prog.godebug = none) (started : os.Started) (noInit : C.prog.inits.idxOf? f = none) (hfn : C.prog.funcs[f]? = some fn)
    (witness : ∃ (w : World) (tape : Tape) (i : Go.Input), w.os = os ∧ (w.forCall tape i).Shaped C.prog ∧ i.vars = [] ∧ Go.Input.okWide C.prog (w.forCall tape i) .any w.heap.size f i ∧
      s.pre6 enc C.prog fn conds apart (w.forCall tape i).memory i.args ∧ a.holds C.prog (lone (Frame.enter C.prog f i.args .normal) [] (w.forCall tape i)))
    (contract : ∀ (W : World) (base : Nat) (args : Array Value) (ds gs : List (DataW H)) (before : List MemPlace),
      (∀ (j : Nat) t v, fn.params[j]? = some t → args[j]? = some v → Value.okWide C.prog W .any base t v) →
      DataW.Whole enc C.prog fn.params.toList s.vars apart W args.toList ds gs before →
      (DataW.weightsEach C.prog (fn.params.toList ++ s.plain.varTypes C.prog) (ds ++ gs)).all (· ≤ reachBytes) = true →
      Calls C.prog f args W fun e W' => ∃ v, e = .returned v ∧ s.post enc C.prog fn apart fresh handsOn again W args v W') :
    ReturnsInHanded a C os f .any (s.pre6 enc C.prog fn conds apart) (s.post enc C.prog fn apart fresh handsOn again) := by
  have e : (fun (w : World) (args : Array Value) => (s.pre enc C.prog fn conds apart w args ∧ True) ∧ sizedMet enc C.prog fn (OpenSpec.ofChange s) apart w args) = s.pre6 enc C.prog fn conds apart := by
    funext w args; simp only [and_true]; rfl
  rw [← e]
  obtain ⟨w, tape, i, h1, h2, h3, h4, h5, h6⟩ := witness
  exact returnsInHanded_of_change_and (X := fun _ _ => True) (fun _ _ _ _ _ => trivial) own started noInit hfn ⟨w, tape, i, h1, h2, h3, h4, ⟨⟨h5.1, trivial⟩, h5.2⟩, h6⟩ (fun W base args ds gs before a1 a2 _ a4 _ _ => contract W base args ds gs before a1 a2 a4)
end Go.GB

