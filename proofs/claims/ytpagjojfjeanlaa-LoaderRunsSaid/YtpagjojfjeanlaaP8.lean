/-
  YtpagjojfjeanlaaP8: lemmas of this proof (part 8). No conditions.
-/
import Derived.Test.YtpagjojfjeanlaaP7
import Derived.Test.YtpagjojfjeanlaaP6
import Derived.Test.YtpagjojfjeanlaaP5
import Derived.Handed

/-
  L37G: chapter 35: the plain law: each call keeps the two loaders alike, and they answer the same.
-/
namespace Go.GB.C35
open Go.GB
set_option linter.unusedSimpArgs false
set_option linter.unusedVariables false

def toR (f s : Int) (p : Pl) : RP := ⟨f, p.rep, p.res, s⟩
def Q0 (f : Int) : Q := ⟨f, [], [], 0, 0, 0⟩
def qOf (f : Int) (qs : List Q) : Q := match qix f qs with | some j => (qs[j]?).getD (Q0 f) | none => Q0 f
theorem qOf_some {f : Int} {qs : List Q} {j : Nat} {q : Q} (h : qix f qs = some j) (hq : qs[j]? = some q) : qOf f qs = q := by simp [qOf, h, hq]
theorem qOf_none {f : Int} {qs : List Q} (h : qix f qs = none) : qOf f qs = Q0 f := by simp [qOf, h]
theorem qix_map (f : Int) (qs : List Q) : qix f qs = (qs.map (·.f)).findIdx? fun g => decide (g = f) := by
  simp only [qix, List.findIdx?_map]; rfl
theorem qix_set {f : Int} {qs : List Q} {j : Nat} {q q' : Q} (h : qs[j]? = some q) (hf : q'.f = q.f) (g : Int) : qix g (qs.set j q') = qix g qs := by
  rw [qix_map, qix_map, List.map_set]
  congr 1
  apply List.ext_getElem?
  intro i
  rw [List.getElem?_set]
  split
  · rename_i e; subst e
    obtain ⟨hlt, e⟩ := List.getElem?_eq_some_iff.1 h
    subst e
    simp [hlt, hf]
  · rfl
theorem qOf_set {f : Int} {qs : List Q} {j : Nat} {q q' : Q} (hj : qix f qs = some j) (h : qs[j]? = some q) (hf : q'.f = q.f) : qOf f (qs.set j q') = q' ∧ ∀ g, g ≠ f → qOf g (qs.set j q') = qOf g qs := by
  obtain ⟨q2, a1, a2, _⟩ := qix_some hj
  rw [h] at a1; cases a1
  have hlt := (List.getElem?_eq_some_iff.1 h).1
  refine ⟨by simp [qOf, qix_set (f := f) h hf, hj, hlt], fun g hg => ?_⟩
  simp only [qOf, qix_set (f := f) h hf]
  cases hi : qix g qs with
  | none => rfl
  | some i =>
    obtain ⟨p, b1, b2, _⟩ := qix_some hi
    have : j ≠ i := by rintro rfl; rw [h] at b1; cases b1; exact hg (b2.symm.trans a2)
    simp [List.getElem?_set, this]
theorem qix_push (g : Int) (qs : List Q) (q' : Q) : qix g (qs ++ [q']) = match qix g qs with | some j => some j | none => if q'.f = g then some qs.length else none := by
  simp only [qix, List.findIdx?_append]
  cases h : qs.findIdx? (fun q => decide (q.f = g)) with
  | some j => simp
  | none =>
    simp only [Option.none_or]
    by_cases hf : q'.f = g <;> simp [List.findIdx?_cons, hf]
theorem qOf_push {f : Int} {qs : List Q} {q' : Q} (hj : qix f qs = none) (hf : q'.f = f) : qOf f (qs ++ [q']) = q' ∧ ∀ g, g ≠ f → qOf g (qs ++ [q']) = qOf g qs := by
  refine ⟨by simp [qOf, qix_push, hj, hf], fun g hg => ?_⟩
  simp only [qOf, qix_push]
  cases hi : qix g qs with
  | none =>
    have : ¬ q'.f = g := fun e => hg (e.symm.trans hf)
    simp [this]
  | some i =>
    obtain ⟨p, b1, _⟩ := qix_some hi
    have := (List.getElem?_eq_some_iff.1 b1).1
    simp [List.getElem?_append_left this]

structure SimQ (f : Int) (q : Q) (pl : List RP) (tk : List (Int × Nat)) : Prop where
  kn : q.k ≤ q.nx
  lo : q.k ≠ 0 → q.lo = q.nx - q.k
  le : q.nx ≤ q.ps.length
  pv : vf f pl = (q.ps.take (q.nx - q.k)).map (toR f 2) ++ (((q.ps.drop (q.nx - q.k)).take q.k).map (toR f 1) ++ (q.ps.drop q.nx).map (toR f 0))
  ld : ∀ (i : Nat) (p : Pl), q.ps[i]? = some p → p.ld = decide (i < q.nx - q.k) ∧ (p.ld = false → p.res = Val.zero)
  tv : q.tk = (ltk f pl tk).map fun n : Nat => (n : Int)
structure Sim (σ : LS) (ρ : RS) : Prop where
  m : σ.m = ρ.m
  c : σ.c = ρ.c
  s : σ.s = ρ.s
  q : ∀ f, SimQ f (qOf f σ.qs) ρ.pl ρ.tk
  tk : ∀ t, t ∈ ρ.tk → ∃ p, ρ.pl[t.2]? = some p ∧ p.f = t.1
  pok : ∀ p, p ∈ ρ.pl → p.Ok

theorem split3 {ps : List Pl} {a b n : Nat} (h : a + b = n) (hn : n ≤ ps.length) : ps = ps.take a ++ ((ps.drop a).take b ++ ps.drop n) := by
  subst h
  conv => lhs; rw [← List.take_append_drop a ps]
  congr 1
  conv => lhs; rw [← List.take_append_drop b (ps.drop a)]
  rw [List.drop_drop]

section
variable {f : Int} {q : Q} {pl : List RP} {tk : List (Int × Nat)}
theorem SimQ.reps (h : SimQ f q pl tk) : (vf f pl).map RP.rep = q.ps.map Pl.rep := by
  rw [h.pv]
  have := split3 (ps := q.ps) (a := q.nx - q.k) (b := q.k) (n := q.nx) (by have := h.kn; omega) h.le
  conv => rhs; rw [this]
  simp only [List.map_append, List.map_map]
  rfl
theorem SimQ.len (h : SimQ f q pl tk) : (vf f pl).length = q.ps.length := by
  have := congrArg List.length h.reps; simpa using this
theorem SimQ.find (h : SimQ f q pl tk) (v : Val) : fv v (vf f pl) = fnd q.ps v := by
  have e1 : fv v (vf f pl) = ((vf f pl).map RP.rep).findIdx? fun r => sameV r v := by
    simp only [fv, List.findIdx?_map]; rfl
  have e2 : fnd q.ps v = (q.ps.map Pl.rep).findIdx? fun r => sameV r v := by
    simp only [fnd, List.findIdx?_map]; rfl
  rw [e1, e2, h.reps]
theorem ov_toR (l : List Pl) (s : Int) : ov (l.map (toR f s)) = if s = 1 then l.map (toR f s) else [] := by
  induction l with
  | nil => simp [ov]
  | cons p r ih =>
    simp only [ov] at ih
    simp only [ov, List.map_cons, List.filter_cons, toR, decide_eq_true_eq]
    by_cases hs : s = 1
    · simp only [hs, if_true] at ih ⊢; rw [ih]
    · simp only [hs, if_false] at ih ⊢; exact ih
theorem SimQ.open_ (h : SimQ f q pl tk) : ov (vf f pl) = ((q.ps.drop (q.nx - q.k)).take q.k).map (toR f 1) := by
  rw [h.pv, ov_append, ov_append, ov_toR, ov_toR, ov_toR]; simp
theorem SimQ.at_ (h : SimQ f q pl tk) {a : Nat} {p : RP} (hp : (vf f pl)[a]? = some p) : ∃ x, q.ps[a]? = some x ∧ p.res = x.res ∧ (p.st = 2 ↔ a < q.nx - q.k) := by
  rw [h.pv] at hp
  have hk := h.kn
  have hl := h.le
  by_cases h1 : a < q.nx - q.k
  · rw [List.getElem?_append_left (by simp; omega)] at hp
    simp only [List.getElem?_map, List.getElem?_take, h1, if_true, Option.map_eq_some_iff] at hp
    obtain ⟨x, hx, rfl⟩ := hp
    exact ⟨x, hx, rfl, by simp [toR, h1]⟩
  · rw [List.getElem?_append_right (by simp; omega)] at hp
    have e0 : ((q.ps.take (q.nx - q.k)).map (toR f 2)).length = q.nx - q.k := by simp; omega
    rw [e0] at hp
    by_cases h2 : a < q.nx
    · rw [List.getElem?_append_left (by simp; omega)] at hp
      have : a - (q.nx - q.k) < q.k := by omega
      simp only [List.getElem?_map, List.getElem?_take, this, if_true, List.getElem?_drop, Option.map_eq_some_iff] at hp
      obtain ⟨x, hx, rfl⟩ := hp
      refine ⟨x, ?_, rfl, by simp [toR, h1]⟩
      rw [← hx]; congr 1; omega
    · rw [List.getElem?_append_right (by simp; omega)] at hp
      have e1 : (((q.ps.drop (q.nx - q.k)).take q.k).map (toR f 1)).length = q.k := by simp; omega
      rw [e1] at hp
      simp only [List.getElem?_map, List.getElem?_drop, Option.map_eq_some_iff] at hp
      obtain ⟨x, hx, rfl⟩ := hp
      refine ⟨x, ?_, rfl, by simp [toR, h1]⟩
      rw [← hx]; congr 1; omega
end

/-- what the reference's Add does -/
def raddL (ρ : RS) (f : Int) (v : Val) : (Int × Int) × RS :=
  if f < 0 then ((0, 2), ρ) else (((cntT f ρ.tk : Int), 0), ⟨ρ.m, rPl ρ.pl f v, ρ.tk ++ [(f, rAt ρ.pl f v)], ρ.c, ρ.s + rSv ρ.pl f v⟩)

theorem rk_push {g : Int} {pl : List RP} {x : RP} {i : Nat} (h : i ≤ pl.length) : rk g (pl ++ [x]) i = rk g pl i := by
  simp only [rk]; rw [List.take_append_of_le_length h]
theorem ltk_push {g : Int} {pl : List RP} {x : RP} {tk : List (Int × Nat)} (h : ∀ t, t ∈ tk → t.2 < pl.length) : ltk g (pl ++ [x]) tk = ltk g pl tk := by
  simp only [ltk]
  apply List.map_congr_left
  intro t ht
  have := h t (List.mem_filter.1 ht).1
  exact rk_push (by omega)
theorem ltk_snoc (g f : Int) (pl : List RP) (tk : List (Int × Nat)) (i : Nat) : ltk g pl (tk ++ [(f, i)]) = ltk g pl tk ++ if f = g then [rk g pl i] else [] := by
  simp only [ltk, List.filter_append, List.map_append, List.filter_cons, List.filter_nil, decide_eq_true_eq]
  split <;> rfl
theorem rk_end (g : Int) (pl : List RP) (x : RP) : rk g (pl ++ [x]) pl.length = (vf g pl).length := by
  rw [rk_push (Nat.le_refl _), rk, List.take_length]

theorem sim_add {σ : LS} {ρ : RS} (h : Sim σ ρ) (f : Int) (v : Val) (hv : v.Ok) : (addL σ f v).1 = (raddL ρ f v).1 ∧ Sim (addL σ f v).2 (raddL ρ f v).2 := by
  by_cases hf : f < 0
  · simp only [addL, raddL, hf, if_true]; exact ⟨trivial, h⟩
  have htl : ∀ t, t ∈ ρ.tk → t.2 < ρ.pl.length := fun t ht => by
    obtain ⟨p, h1, _⟩ := h.tk t ht
    exact (List.getElem?_eq_some_iff.1 h1).1
  simp only [addL, raddL, hf, if_false]
  have hq := h.q f
  obtain ⟨w1, w2⟩ := fm_view (f := f) (v := v) ρ.pl 0
  rw [hq.find v] at w1
  have pushCase : fm f v 0 ρ.pl = none → ∀ (q' : Q) (qs' : List Q), (∀ g, g ≠ f → qOf g qs' = qOf g σ.qs) → qOf f qs' = q' → q'.tk = (qOf f σ.qs).tk ++ [((qOf f σ.qs).ps.length : Int)] → q'.ps = (qOf f σ.qs).ps ++ [⟨v, Val.zero, false⟩] → q'.nx = (qOf f σ.qs).nx → (q'.k ≠ 0 → q'.lo = (qOf f σ.qs).lo) → q'.k = (qOf f σ.qs).k →
      Sim ⟨σ.m, σ.c, σ.s, qs'⟩ ⟨ρ.m, rPl ρ.pl f v, ρ.tk ++ [(f, rAt ρ.pl f v)], ρ.c, ρ.s + rSv ρ.pl f v⟩ := by
    intro hn q' qs' hoth hq' e1 e2 e3 e4 e5
    have r1 : rPl ρ.pl f v = ρ.pl ++ [⟨f, v, Val.zero, 0⟩] := by simp [rPl, hn]
    have r2 : rAt ρ.pl f v = ρ.pl.length := by simp [rAt, hn]
    have r3 : rSv ρ.pl f v = 0 := by simp [rSv, hn]
    rw [r1, r2, r3]
    refine ⟨h.m, h.c, by simpa using h.s, fun g => ?_, fun t ht => ?_, fun p hp => ?_⟩
    · by_cases hg : g = f
      · subst hg
        rw [hq']
        have hkn := hq.kn
        have hle := hq.le
        refine ⟨by rw [e5, e3]; exact hq.kn, fun hk => by rw [e4 hk, e3, e5]; exact hq.lo (e5 ▸ hk), by rw [e3, e2]; simp; omega, ?_, fun i p hi => ?_, ?_⟩
        · rw [vf_append, hq.pv, e2, e3, e5]
          rw [List.take_append_of_le_length (by omega), List.drop_append_of_le_length (by omega), List.drop_append_of_le_length (by omega), List.take_append_of_le_length (by simp; omega)]
          simp [vf, toR]
        · rw [e2] at hi
          rw [e3, e5]
          by_cases hlt : i < (qOf g σ.qs).ps.length
          · rw [List.getElem?_append_left hlt] at hi
            exact hq.ld i p hi
          · rw [List.getElem?_append_right (by omega)] at hi
            cases hj : i - (qOf g σ.qs).ps.length with
            | zero =>
              rw [hj] at hi; simp at hi; subst hi
              refine ⟨?_, fun _ => rfl⟩
              have : ¬ i < (qOf g σ.qs).nx - (qOf g σ.qs).k := by omega
              simp [this]
            | succ n => rw [hj] at hi; simp at hi
        · rw [e1, hq.tv, ltk_snoc, ltk_push htl, if_pos rfl, rk_end, hq.len]; simp
      · rw [hoth g hg]
        have hqg := h.q g
        have hv2 : vf g (ρ.pl ++ [⟨f, v, Val.zero, 0⟩]) = vf g ρ.pl := by
          rw [vf_append]; simp [vf, Ne.symm hg]
        refine ⟨hqg.kn, hqg.lo, hqg.le, by rw [hv2]; exact hqg.pv, hqg.ld, ?_⟩
        rw [ltk_snoc, ltk_push htl, if_neg (Ne.symm hg), List.append_nil]; exact hqg.tv
    · rcases List.mem_append.1 ht with ht | ht
      · obtain ⟨p, h1, h2⟩ := h.tk t ht
        exact ⟨p, by rw [List.getElem?_append_left (List.getElem?_eq_some_iff.1 h1).1]; exact h1, h2⟩
      · simp at ht; subst ht
        exact ⟨⟨f, v, Val.zero, 0⟩, by simp, rfl⟩
    · rcases List.mem_append.1 hp with hp | hp
      · exact h.pok p hp
      · simp at hp; subst hp; exact ⟨hv, Val.zero_ok⟩
  cases hj : qix f σ.qs with
  | none =>
    simp only
    have e0 := qOf_none hj
    have hn : fm f v 0 ρ.pl = none := w1.2 (by rw [e0]; rfl)
    obtain ⟨b1, b2⟩ := qOf_push (qs := σ.qs) (q' := newQ f v) hj rfl
    have hc : cntT f ρ.tk = 0 := by
      rw [← ltk_len f ρ.pl ρ.tk]
      have := congrArg List.length hq.tv
      rw [e0] at this; simpa [Q0] using this.symm
    refine ⟨by rw [hc]; rfl, pushCase hn (newQ f v) _ b2 b1 (by rw [e0]; rfl) (by rw [e0]; rfl) (by rw [e0]; rfl) (fun hk => absurd rfl hk) (by rw [e0]; rfl)⟩
  | some j =>
    obtain ⟨q, h1, h2, h3⟩ := qix_some hj
    have e0 := qOf_some hj h1
    simp only [h1]
    obtain ⟨b1, b2⟩ := qOf_set (q' := addQ q v) hj h1 rfl
    have hc : (q.tk.length : Int) = cntT f ρ.tk := by
      rw [← ltk_len f ρ.pl ρ.tk]
      have := congrArg List.length hq.tv
      rw [e0] at this; rw [this]; simp
    refine ⟨by rw [hc], ?_⟩
    cases hfm : fm f v 0 ρ.pl with
    | none =>
      have hfn : fnd q.ps v = none := by rw [← e0]; exact w1.1 hfm
      have a1 : addS q.ps v = 0 := by simp [addS, hfn]
      have := pushCase hfm (addQ q v) _ b2 b1 (by rw [e0]; simp [addQ, addAt, hfn]) (by rw [e0]; simp [addQ, addPs, hfn]) (by rw [e0]; rfl) (fun _ => by rw [e0]; rfl) (by rw [e0]; rfl)
      rw [a1]
      simpa using this
    | some i =>
      obtain ⟨k1, p, k2, k3⟩ := w2 i hfm
      rw [hq.find v, e0] at k1
      simp only [Nat.sub_zero] at k1 k2
      have a1 : addS q.ps v = 1 := by simp [addS, k1]
      have a2 : addAt q.ps v = rk f ρ.pl i := by simp [addAt, k1]
      have a3 : addPs q.ps v = q.ps := by simp [addPs, k1]
      have r1 : rPl ρ.pl f v = ρ.pl := by simp [rPl, hfm]
      have r2 : rAt ρ.pl f v = i := by simp [rAt, hfm]
      have r3 : rSv ρ.pl f v = 1 := by simp [rSv, hfm]
      rw [r1, r2, r3, a1]
      rw [e0] at hq
      refine ⟨h.m, h.c, by show σ.s + 1 = ρ.s + 1; rw [h.s], fun g => ?_, fun t ht => ?_, h.pok⟩
      · by_cases hg : g = f
        · subst hg
          show SimQ g (qOf g (σ.qs.set j (addQ q v))) _ _
          rw [b1]
          refine ⟨hq.kn, hq.lo, by show q.nx ≤ (addPs q.ps v).length; rw [a3]; exact hq.le, ?_, fun i' p' hi' => hq.ld i' p' (by rw [← a3]; exact hi'), ?_⟩
          · simp only [addQ]; rw [a3]; exact hq.pv
          · simp only [addQ]; rw [a2, ltk_snoc, if_pos rfl, hq.tv]; simp
        · show SimQ g (qOf g (σ.qs.set j (addQ q v))) _ _
          rw [b2 g hg]
          have hqg := h.q g
          refine ⟨hqg.kn, hqg.lo, hqg.le, hqg.pv, hqg.ld, ?_⟩
          rw [ltk_snoc, if_neg (Ne.symm hg), List.append_nil]; exact hqg.tv
      · rcases List.mem_append.1 ht with ht | ht
        · exact h.tk t ht
        · simp at ht; subst ht
          exact ⟨p, k2, k3⟩
end Go.GB.C35


/-
  L37H: chapter 35: the plain law, continued: Next, Done, Take.
-/
namespace Go.GB.C35
open Go.GB
set_option linter.unusedSimpArgs false
set_option linter.unusedVariables false

theorem opV_done (m : Int) (n : Nat) {f s : Int} (hs : s ≠ 0) : ∀ (l : List Pl) (w : List RP), opV m n (l.map (toR f s) ++ w) = l.map (toR f s) ++ opV m n w ∧ opVN m n (l.map (toR f s) ++ w) = opVN m n w
  | [], w => ⟨rfl, rfl⟩
  | p :: r, w => by
    obtain ⟨h1, h2⟩ := opV_done m n (f := f) hs r w
    have : ¬ ((toR f s p).st = 0 ∧ (n : Int) < m) := fun e => hs e.1
    simp only [List.map_cons, List.cons_append, opV, opVN, this, if_false, h1, h2, and_self]
theorem opV_wait (m : Int) {f : Int} : ∀ (l : List Pl) (n : Nat), opV m n (l.map (toR f 0)) = (l.take (m.toNat - n)).map (toR f 1) ++ (l.drop (m.toNat - n)).map (toR f 0) ∧ opVN m n (l.map (toR f 0)) = n + min (m.toNat - n) l.length
  | [], n => by simp [opV, opVN]
  | p :: r, n => by
    by_cases h : (n : Int) < m
    · obtain ⟨h1, h2⟩ := opV_wait m (f := f) r (n + 1)
      have e : m.toNat - n = (m.toNat - (n + 1)) + 1 := by omega
      have c : (toR f 0 p).st = 0 ∧ (n : Int) < m := ⟨rfl, h⟩
      simp only [List.map_cons, opV, opVN, if_pos c, h1, h2]
      rw [e]
      refine ⟨by simp [RP.op, toR], by simp only [List.length_cons]; omega⟩
    · have e : m.toNat - n = 0 := by omega
      have hn : ∀ r : List RP, opV m n r = r ∧ opVN m n r = n := by
        intro r
        induction r with
        | nil => exact ⟨rfl, rfl⟩
        | cons p r ih =>
          have c : ¬ (p.st = 0 ∧ (n : Int) < m) := fun e => h e.2
          simp [opV, opVN, c, ih]
      rw [e, (hn _).1, (hn _).2]; simp

theorem bIx_nil {f : Int} {pl : List RP} : bIx f 0 pl = [] ↔ ov (vf f pl) = [] := by
  rw [← List.length_eq_zero_iff, bIx_count, List.length_eq_zero_iff]
theorem rNx_view (m f : Int) (pl : List RP) : rNx m f pl = (ov (vf f (nPl m f pl))).map RP.rep := bIx_view (f := f) (nPl m f pl) []

/-- the same but for the places, whose views of other fetches stay -/
theorem sim_frame {σ : LS} {ρ : RS} (h : Sim σ ρ) {f : Int} {pl' : List RP} (h1 : ∀ g, g ≠ f → vf g pl' = vf g ρ.pl) (h2 : ∀ g i, rk g pl' i = rk g ρ.pl i) (h3 : ∀ (i : Nat) (p : RP), ρ.pl[i]? = some p → ∃ p' : RP, pl'[i]? = some p' ∧ p'.f = p.f) (h4 : ∀ p, p ∈ pl' → p.Ok) (c' : Int) (qs' : List Q) (hq : ∀ g, g ≠ f → qOf g qs' = qOf g σ.qs) (hf : SimQ f (qOf f qs') pl' ρ.tk) (hc : c' = c') :
    Sim ⟨σ.m, c', σ.s, qs'⟩ ⟨ρ.m, pl', ρ.tk, c', ρ.s⟩ := by
  have hl : ∀ g, ltk g pl' ρ.tk = ltk g ρ.pl ρ.tk := fun g => by
    simp only [ltk]
    apply List.map_congr_left
    intro t _
    exact h2 g t.2
  refine ⟨h.m, rfl, h.s, fun g => ?_, fun t ht => ?_, h4⟩
  · by_cases hg : g = f
    · subst hg; exact hf
    · show SimQ g (qOf g qs') pl' ρ.tk
      rw [hq g hg]
      have hqg := h.q g
      exact ⟨hqg.kn, hqg.lo, hqg.le, by rw [h1 g hg]; exact hqg.pv, hqg.ld, by rw [hl]; exact hqg.tv⟩
  · obtain ⟨p, k1, k2⟩ := h.tk t ht
    obtain ⟨p', k3, k4⟩ := h3 t.2 p k1
    exact ⟨p', k3, k4.trans k2⟩

theorem opn_at {m f : Int} : ∀ {pl : List RP} {n i : Nat} {p : RP}, pl[i]? = some p → ∃ p', (opn m f n pl)[i]? = some p' ∧ p'.f = p.f
  | [], n, i, p, h => by simp at h
  | x :: r, n, 0, p, h => by
    simp at h; subst h
    simp only [opn]; split
    · exact ⟨x.op, rfl, rfl⟩
    · exact ⟨x, rfl, rfl⟩
  | x :: r, n, i + 1, p, h => by
    simp only [opn]; split
    · obtain ⟨p', h1, h2⟩ := opn_at (m := m) (f := f) (n := n + 1) (i := i) (p := p) (pl := r) (by simpa using h)
      exact ⟨p', by simpa using h1, h2⟩
    · obtain ⟨p', h1, h2⟩ := opn_at (m := m) (f := f) (n := n) (i := i) (p := p) (pl := r) (by simpa using h)
      exact ⟨p', by simpa using h1, h2⟩

/-- what the reference's Next does -/
def rnextL (ρ : RS) (f : Int) : (List Val × Bool) × RS := ((rNx ρ.m f ρ.pl, decide (0 < (rNx ρ.m f ρ.pl).length)), ⟨ρ.m, nPl ρ.m f ρ.pl, ρ.tk, ρ.c + nC ρ.m f ρ.pl, ρ.s⟩)

theorem sim_next {σ : LS} {ρ : RS} (h : Sim σ ρ) (hm : 1 ≤ σ.m) (f : Int) : (nextL σ f).1 = (rnextL ρ f).1 ∧ Sim (nextL σ f).2 (rnextL ρ f).2 := by
  have hq := h.q f
  have hopen := hq.open_
  have hm2 := h.m
  obtain ⟨v1, v2, v3, v4⟩ := opn_view (m := ρ.m) (f := f) ρ.pl 0
  have closed : (qOf f σ.qs).k = 0 → bIx f 0 ρ.pl = [] ∧ vf f ρ.pl = ((qOf f σ.qs).ps.take (qOf f σ.qs).nx).map (toR f 2) ++ ((qOf f σ.qs).ps.drop (qOf f σ.qs).nx).map (toR f 0) := by
    intro hk
    have hp := hq.pv
    rw [hk] at hopen hp
    exact ⟨bIx_nil.2 (by rw [hopen]; simp), by rw [hp]; simp⟩
  cases hj : qix f σ.qs with
  | none =>
    have e0 := qOf_none hj
    obtain ⟨b1, b2⟩ := closed (by rw [e0]; rfl)
    have e1 : nPl ρ.m f ρ.pl = opn ρ.m f 0 ρ.pl := by simp [nPl, b1]
    have e2 : vf f ρ.pl = [] := by rw [b2, e0]; rfl
    have e3 : nC ρ.m f ρ.pl = 0 := by simp [nC, b1, v2, e2, opVN]
    have e4 : rNx ρ.m f ρ.pl = [] := by rw [rNx_view, e1, v1, e2]; rfl
    simp only [nextL, rnextL, hj, e1, e3, e4]
    refine ⟨rfl, ?_⟩
    have := sim_frame h (f := f) (pl' := opn ρ.m f 0 ρ.pl) v3 v4 (fun i p hp => opn_at hp) (opn_ok h.pok) σ.c σ.qs (fun _ _ => rfl) (by
      have hl : ltk f (opn ρ.m f 0 ρ.pl) ρ.tk = ltk f ρ.pl ρ.tk := by
        simp only [ltk]; exact List.map_congr_left fun t _ => v4 f t.2
      exact ⟨hq.kn, hq.lo, hq.le, by rw [v1, e2]; have := hq.pv; rw [e2] at this; exact this, hq.ld, by rw [hl]; exact hq.tv⟩) rfl
    rw [Int.add_zero, ← h.c]
    exact this
  | some j =>
    obtain ⟨q, h1, h2, h3⟩ := qix_some hj
    have e0 := qOf_some hj h1
    rw [e0] at hq hopen closed
    have hkn := hq.kn
    have hle := hq.le
    simp only [nextL, hj, h1]
    by_cases hk : q.k = 0
    · obtain ⟨b1, b2⟩ := closed hk
      simp only [hk, if_true]
      have e1 : nPl ρ.m f ρ.pl = opn ρ.m f 0 ρ.pl := by simp [nPl, b1]
      obtain ⟨d1, d2⟩ := opV_done ρ.m 0 (f := f) (s := 2) (by decide) (q.ps.take q.nx) ((q.ps.drop q.nx).map (toR f 0))
      obtain ⟨d3, d4⟩ := opV_wait ρ.m (f := f) (q.ps.drop q.nx) 0
      rw [b2] at v1 v2
      rw [d1, d3] at v1
      rw [d2, d4] at v2
      simp only [Nat.sub_zero, Nat.zero_add, List.length_drop] at v1 v2
      have hb : batch σ.m q.nx q.ps = min ρ.m.toNat (q.ps.length - q.nx) := by simp only [batch, hm2]
      have ht : (q.ps.drop q.nx).take ρ.m.toNat = (q.ps.drop q.nx).take (batch σ.m q.nx q.ps) := by
        rw [hb, ← List.length_drop, List.take_eq_take_min]
      have hd : (q.ps.drop q.nx).drop ρ.m.toNat = q.ps.drop (q.nx + batch σ.m q.nx q.ps) := by
        rw [List.drop_drop, hb]
        by_cases hc : ρ.m.toNat ≤ q.ps.length - q.nx
        · rw [Nat.min_eq_left hc]
        · rw [Nat.min_eq_right (by omega), List.drop_eq_nil_of_le (by omega), List.drop_eq_nil_of_le (by omega)]
      rw [ht, hd] at v1
      generalize hbg : batch σ.m q.nx q.ps = b at *
      have e4 : rNx ρ.m f ρ.pl = reps q.nx b q.ps := by
        rw [rNx_view, e1, v1, ov_append, ov_append, ov_toR, ov_toR, ov_toR]
        simp [reps, toR, Function.comp_def]
      have e5 : (reps q.nx b q.ps).length = b := by simp [reps]; omega
      have e6 : nC ρ.m f ρ.pl = if q.nx < q.ps.length then 1 else 0 := by
        simp only [nC, b1, true_and, v2]
        by_cases hlt : q.nx < q.ps.length
        · rw [if_pos hlt, if_pos (by omega)]
        · rw [if_neg hlt, if_neg (by omega)]
      simp only [rnextL, e4, e6, e1, e5]
      refine ⟨?_, ?_⟩
      · congr 1
        have : (q.nx < q.ps.length) ↔ 0 < b := by omega
        simp only [this]
      · obtain ⟨c1, c2⟩ := qOf_set (q' := nextQ σ.m q) hj h1 rfl
        have hl : ltk f (opn ρ.m f 0 ρ.pl) ρ.tk = ltk f ρ.pl ρ.tk := by
          simp only [ltk]; exact List.map_congr_left fun t _ => v4 f t.2
        have := sim_frame h (f := f) (pl' := opn ρ.m f 0 ρ.pl) v3 v4 (fun i p hp => opn_at hp) (opn_ok h.pok) (σ.c + if q.nx < q.ps.length then 1 else 0) (σ.qs.set j (nextQ σ.m q)) c2 (by
          rw [c1]
          have n1 : (nextQ σ.m q).k = b := hbg
          have n2 : (nextQ σ.m q).nx = q.nx + b := by simp only [nextQ, hbg]
          have n3 : (nextQ σ.m q).nx - (nextQ σ.m q).k = q.nx := by rw [n1, n2]; omega
          refine ⟨by rw [n1, n2]; omega, fun _ => by rw [n3]; rfl, by rw [n2]; show q.nx + b ≤ q.ps.length; omega, ?_, fun i p hi => ?_, by rw [hl]; exact hq.tv⟩
          · rw [n3, n1, n2, v1]; rfl
          · rw [n3]
            have := hq.ld i p hi
            rw [hk] at this; simpa using this) rfl
        rw [← h.c]
        exact this
    · simp only [hk, if_false]
      have hne : bIx f 0 ρ.pl ≠ [] := by
        intro hb
        have := bIx_nil.1 hb
        rw [hopen] at this
        have := congrArg List.length this
        simp at this; omega
      have e1 : nPl ρ.m f ρ.pl = ρ.pl := by simp [nPl, hne]
      have e6 : nC ρ.m f ρ.pl = 0 := by simp [nC, hne]
      have hlo := hq.lo hk
      have e4 : rNx ρ.m f ρ.pl = reps q.lo q.k q.ps := by
        rw [rNx_view, e1, hopen, hlo]; simp [reps, toR, Function.comp_def]
      have e5 : (reps q.lo q.k q.ps).length = q.k := by rw [hlo]; simp [reps]; omega
      simp only [rnextL, e4, e6, e1, e5]
      refine ⟨?_, by rw [Int.add_zero]; exact h⟩
      have : 0 < q.k := by omega
      simp [this]

/-- results put into places -/
def zr : List Pl → List Val → List Pl
  | [], _ => []
  | p :: r, [] => p :: r
  | p :: r, v :: vs => ⟨p.rep, v, true⟩ :: zr r vs
theorem setR_eq : ∀ (r pre : List Pl) (rs : List Val), rs.length ≤ r.length → setR (pre ++ r) pre.length rs = pre ++ zr r rs
  | [], pre, rs, h => by
    cases rs with
    | nil => simp [setR, zr]
    | cons v vs => simp at h
  | p :: r, pre, [], h => by simp [setR, zr]
  | p :: r, pre, v :: vs, h => by
    have ih := setR_eq r (pre ++ [⟨p.rep, v, true⟩]) vs (by simpa using h)
    rw [List.length_append, List.length_singleton, List.append_assoc, List.singleton_append] at ih
    have hu : upd (pre ++ p :: r) pre.length v = pre ++ ⟨p.rep, v, true⟩ :: r := by
      simp only [upd]
      apply List.ext_getElem?
      intro i
      rw [List.getElem?_modify]
      by_cases hj : i < pre.length
      · rw [List.getElem?_append_left hj, List.getElem?_append_left hj]
        have : ¬ pre.length = i := by omega
        simp [this]
      · rw [List.getElem?_append_right (by omega), List.getElem?_append_right (by omega)]
        cases hk : i - pre.length with
        | zero => have : pre.length = i := by omega
                  simp [this]
        | succ k => have : ¬ pre.length = i := by omega
                    simp [this]
    simp only [setR, hu, zr, ih, List.append_assoc, List.singleton_append]
theorem zr_len : ∀ (l : List Pl) (rs : List Val), (zr l rs).length = l.length
  | [], _ => rfl
  | p :: r, [] => rfl
  | p :: r, v :: vs => by simp [zr, zr_len r vs]
theorem zr_append : ∀ (l w : List Pl) (rs : List Val), rs.length = l.length → zr (l ++ w) rs = zr l rs ++ w
  | [], w, rs, h => by
    obtain rfl : rs = [] := by cases rs with | nil => rfl | cons _ _ => simp at h
    cases w <;> rfl
  | p :: r, w, [], h => by simp at h
  | p :: r, w, v :: vs, h => by simp [zr, zr_append r w vs (by simpa using h)]
theorem zr_at : ∀ {l : List Pl} {rs : List Val} {i : Nat} {p : Pl}, rs.length = l.length → (zr l rs)[i]? = some p → p.ld = true
  | [], rs, i, p, _, h => by simp [zr] at h
  | x :: r, [], i, p, hl, _ => by simp at hl
  | x :: r, v :: vs, 0, p, _, h => by simp [zr] at h; subst h; rfl
  | x :: r, v :: vs, i + 1, p, hl, h => zr_at (l := r) (rs := vs) (i := i) (by simpa using hl) (by simpa [zr] using h)
theorem dnV_done {f s : Int} (hs : s ≠ 1) : ∀ (l : List Pl) (w : List RP) (rs : List Val), dnV (l.map (toR f s) ++ w) rs = l.map (toR f s) ++ dnV w rs
  | [], w, rs => rfl
  | p :: r, w, rs => by
    have : ¬ (toR f s p).st = 1 := hs
    simp only [List.map_cons, List.cons_append, dnV, this, if_false, dnV_done hs r w rs]
theorem dnV_nil {f s : Int} : ∀ (l : List Pl), dnV (l.map (toR f s)) [] = l.map (toR f s)
  | [] => rfl
  | p :: r => by
    simp only [List.map_cons, dnV]
    split
    · rfl
    · rw [dnV_nil r]
theorem dnV_open {f : Int} : ∀ (l w : List Pl) (rs : List Val), rs.length = l.length → dnV (l.map (toR f 1) ++ w.map (toR f 0)) rs = (zr l rs).map (toR f 2) ++ w.map (toR f 0)
  | [], w, rs, h => by
    obtain rfl : rs = [] := by cases rs with | nil => rfl | cons _ _ => simp at h
    simp only [List.map_nil, List.nil_append, zr]
    exact dnV_nil w
  | p :: r, w, [], h => by simp at h
  | p :: r, w, v :: vs, h => by
    have c : (toR f 1 p).st = 1 := rfl
    simp only [List.map_cons, List.cons_append, dnV, c, if_true, zr, dnV_open r w vs (by simpa using h)]
    rfl

theorem dnR_at {f : Int} : ∀ {pl : List RP} {rs : List Val} {i : Nat} {p : RP}, pl[i]? = some p → ∃ p', (dnR f pl rs)[i]? = some p' ∧ p'.f = p.f
  | [], rs, i, p, h => by simp at h
  | x :: r, rs, i, p, h => by
    simp only [dnR]
    split
    · cases rs with
      | nil => exact ⟨p, h, rfl⟩
      | cons v vs =>
        cases i with
        | zero => simp at h; subst h; exact ⟨_, rfl, rfl⟩
        | succ i =>
          obtain ⟨p', h1, h2⟩ := dnR_at (f := f) (pl := r) (rs := vs) (i := i) (p := p) (by simpa using h)
          exact ⟨p', by simpa using h1, h2⟩
    · cases i with
      | zero => simp at h; subst h; exact ⟨_, rfl, rfl⟩
      | succ i =>
        obtain ⟨p', h1, h2⟩ := dnR_at (f := f) (pl := r) (rs := rs) (i := i) (p := p) (by simpa using h)
        exact ⟨p', by simpa using h1, h2⟩
theorem dnR_ok {f : Int} : ∀ {pl : List RP} {rs : List Val}, (∀ v, v ∈ rs → v.Ok) → (∀ p, p ∈ pl → p.Ok) → ∀ p, p ∈ dnR f pl rs → p.Ok
  | [], rs, _, _, p, h => by simp [dnR] at h
  | x :: r, rs, hr, hp, p, h => by
    have hx := hp x (by simp)
    have hp' : ∀ p, p ∈ r → p.Ok := fun p h => hp p (by simp [h])
    simp only [dnR] at h
    split at h
    · cases rs with
      | nil => exact hp p h
      | cons v vs =>
        rcases List.mem_cons.1 h with rfl | h
        · exact ⟨hx.r, hr v (by simp)⟩
        · exact dnR_ok (fun v h => hr v (by simp [h])) hp' p h
    · rcases List.mem_cons.1 h with rfl | h
      · exact hx
      · exact dnR_ok hr hp' p h

/-- what the reference's Done does -/
def rdoneL (ρ : RS) (f : Int) (rs : List Val) : Int × RS := ((rDone ρ.pl f rs).1, ⟨ρ.m, (rDone ρ.pl f rs).2, ρ.tk, ρ.c, ρ.s⟩)
theorem sim_done {σ : LS} {ρ : RS} (h : Sim σ ρ) (f : Int) (rs : List Val) (hr : ∀ v, v ∈ rs → v.Ok) : (doneL σ f rs).1 = (rdoneL ρ f rs).1 ∧ Sim (doneL σ f rs).2 (rdoneL ρ f rs).2 := by
  have hq := h.q f
  have hopen := hq.open_
  cases hj : qix f σ.qs with
  | none =>
    have e0 := qOf_none hj
    have b1 : bIx f 0 ρ.pl = [] := bIx_nil.2 (by rw [hopen, e0]; rfl)
    simp only [doneL, rdoneL, hj, rDone, b1, if_true]
    exact ⟨trivial, h⟩
  | some j =>
    obtain ⟨q, h1, h2, h3⟩ := qix_some hj
    have e0 := qOf_some hj h1
    rw [e0] at hq hopen
    have hkn := hq.kn
    have hle := hq.le
    simp only [doneL, hj, h1]
    by_cases hk : q.k = 0
    · have b1 : bIx f 0 ρ.pl = [] := bIx_nil.2 (by rw [hopen, hk]; simp)
      simp only [hk, if_true, rdoneL, rDone, b1]
      exact ⟨trivial, h⟩
    · have hcount : (bIx f 0 ρ.pl).length = q.k := by
        rw [bIx_count, hopen]; simp; omega
      have hne : bIx f 0 ρ.pl ≠ [] := by
        intro hb; rw [hb] at hcount; simp at hcount; omega
      simp only [hk, if_false, rdoneL, rDone, hne, hcount]
      by_cases hl : rs.length = q.k
      · simp only [hl, if_true]
        refine ⟨trivial, ?_⟩
        have hlo := hq.lo hk
        have es : setD ρ.pl (bIx f 0 ρ.pl) rs = dnR f ρ.pl rs := setD_view ρ.pl [] rs
        obtain ⟨v1, v3, v4⟩ := dnR_view (f := f) ρ.pl rs
        obtain ⟨c1, c2⟩ := qOf_set (q' := doneQ q rs) hj h1 rfl
        have hlt : ltk f (dnR f ρ.pl rs) ρ.tk = ltk f ρ.pl ρ.tk := by
          simp only [ltk]; exact List.map_congr_left fun t _ => v4 f t.2
        have hmid : ((q.ps.drop (q.nx - q.k)).take q.k).length = q.k := by simp; omega
        rw [hq.pv, dnV_done (by decide), dnV_open _ _ _ (by rw [hmid]; exact hl)] at v1
        have hsp := split3 (ps := q.ps) (a := q.nx - q.k) (b := q.k) (n := q.nx) (by omega) hle
        have hpl : (q.ps.take (q.nx - q.k)).length = q.nx - q.k := by simp; omega
        have hset : setR q.ps q.lo rs = q.ps.take (q.nx - q.k) ++ (zr ((q.ps.drop (q.nx - q.k)).take q.k) rs ++ q.ps.drop q.nx) := by
          have := setR_eq ((q.ps.drop (q.nx - q.k)).take q.k ++ q.ps.drop q.nx) (q.ps.take (q.nx - q.k)) rs (by simp; omega)
          rw [hpl, ← hsp, zr_append _ _ _ (by rw [hmid]; exact hl)] at this
          rw [hlo]; exact this
        have hzl : (zr ((q.ps.drop (q.nx - q.k)).take q.k) rs).length = q.k := by rw [zr_len, hmid]
        have := sim_frame h (f := f) (pl' := dnR f ρ.pl rs) v3 v4 (fun i p hp => dnR_at hp) (dnR_ok hr h.pok) σ.c (σ.qs.set j (doneQ q rs)) c2 (by
          rw [c1]
          refine ⟨Nat.zero_le _, fun hk => absurd rfl hk, ?_, ?_, fun i p hi => ?_, by rw [hlt]; exact hq.tv⟩
          · show q.nx ≤ (setR q.ps q.lo rs).length
            rw [hset]; simp only [List.length_append, hpl, hzl, List.length_drop]; omega
          · show vf f (dnR f ρ.pl rs) = ((setR q.ps q.lo rs).take (q.nx - 0)).map (toR f 2) ++ ((((setR q.ps q.lo rs).drop (q.nx - 0)).take 0).map (toR f 1) ++ ((setR q.ps q.lo rs).drop q.nx).map (toR f 0))
            rw [v1, hset, Nat.sub_zero, List.take_zero, List.map_nil, List.nil_append, ← List.append_assoc (q.ps.take (q.nx - q.k))]
            have hln : (q.ps.take (q.nx - q.k) ++ zr ((q.ps.drop (q.nx - q.k)).take q.k) rs).length = q.nx := by
              rw [List.length_append, hpl, hzl]; omega
            rw [← List.append_assoc, ← List.map_append]
            generalize q.ps.take (q.nx - q.k) ++ zr ((q.ps.drop (q.nx - q.k)).take q.k) rs = X at hln ⊢
            rw [List.take_left' hln, List.drop_left' hln]
          · have hi' : (setR q.ps q.lo rs)[i]? = some p := hi
            show p.ld = decide (i < q.nx - 0) ∧ _
            rw [Nat.sub_zero]
            rw [hset] at hi'
            by_cases c1 : i < q.nx - q.k
            · rw [List.getElem?_append_left (by omega)] at hi'
              rw [List.getElem?_take, if_pos c1] at hi'
              have := hq.ld i p hi'
              have d1 : i < q.nx := by omega
              simp only [c1, d1, decide_true] at this ⊢
              exact this
            · rw [List.getElem?_append_right (by omega), hpl] at hi'
              by_cases c2 : i < q.nx
              · rw [List.getElem?_append_left (by omega)] at hi'
                have := zr_at (by rw [hmid]; exact hl) hi'
                simp [this, c2]
              · rw [List.getElem?_append_right (by omega), hzl, List.getElem?_drop] at hi'
                have e : q.nx + (i - (q.nx - q.k) - q.k) = i := by omega
                rw [e] at hi'
                have := hq.ld i p hi'
                simp only [c1, decide_false] at this
                simp only [c2, decide_false]
                exact this) rfl
        rw [es, ← h.c]
        exact this
      · have : ¬ q.k = rs.length := fun e => hl e.symm
        simp only [hl, this, if_false]
        exact ⟨trivial, h⟩

theorem sim_take {σ : LS} {ρ : RS} (h : Sim σ ρ) (f n : Int) : takeL σ f n = rtk ρ.pl ρ.tk f n := by
  have hq := h.q f
  have hlen : (ρ.tk.filter fun t => decide (t.1 = f)).length = (qOf f σ.qs).tk.length := by
    rw [hq.tv]; simp [ltk]
  simp only [rtk, nth_at]
  cases hj : qix f σ.qs with
  | none =>
    have e0 := qOf_none hj
    have : (ρ.tk.filter fun t => decide (t.1 = f)) = [] := List.length_eq_zero_iff.1 (by rw [hlen, e0]; rfl)
    simp only [takeL, hj, this]
    split <;> simp_all
  | some j =>
    obtain ⟨q, h1, h2, h3⟩ := qix_some hj
    have e0 := qOf_some hj h1
    rw [e0] at hq hlen
    simp only [takeL, hj, h1, takeQ]
    by_cases hn : n < 0 ∨ (q.tk.length : Int) ≤ n
    · rw [if_pos hn]
      by_cases hneg : n < 0
      · simp [hneg]
      · rw [if_neg hneg, List.getElem?_eq_none (by omega)]; rfl
    · rw [if_neg hn, if_neg (by omega)]
      have hlt : n.toNat < (ρ.tk.filter fun t => decide (t.1 = f)).length := by omega
      obtain ⟨t, ht⟩ : ∃ t, (ρ.tk.filter fun t => decide (t.1 = f))[n.toNat]? = some t := ⟨_, List.getElem?_eq_getElem hlt⟩
      have htm := List.mem_filter.1 (List.mem_of_getElem? ht)
      have htf : t.1 = f := by simpa using htm.2
      obtain ⟨p, k1, k2⟩ := h.tk t htm.1
      have hqt : q.tk[n.toNat]? = some ((rk f ρ.pl t.2 : Nat) : Int) := by
        rw [hq.tv]; simp [ltk, ht]
      obtain ⟨x, x1, x2, x3⟩ := hq.at_ (vf_at k1 (k2.trans htf))
      have hld := hq.ld _ x x1
      simp only [hqt, ht, Option.map_some, k1, Int.toNat_natCast, x1]
      by_cases hl : rk f ρ.pl t.2 < q.nx - q.k
      · have e1 : x.ld = true := by rw [hld.1]; simp [hl]
        have e2 : p.st = 2 := x3.2 hl
        simp [e1, e2, x2]
      · have e1 : x.ld = false := by rw [hld.1]; simp [hl]
        have e2 : ¬ p.st = 2 := fun e => hl (x3.1 e)
        simp [e1, e2, x2, hld.2 e1]
end Go.GB.C35


/-
  L37I: chapter 35: bounds that all calls keep; the reference's contracts once more.
-/
namespace Go.GB.C35
open Go.GB
set_option linter.unusedSimpArgs false
set_option linter.unusedVariables false
variable {P : Program}

theorem QOk.up {B : Nat} {q : Q} (h : QOk B q) : QOk (B + 1) q := ⟨h.f, by have := h.tl; omega, by have := h.pl; omega, h.tk, h.ps, h.nx, h.le⟩
theorem LOk.up {B : Nat} {σ : LS} (h : LOk B σ) (hB : B < 1000) : LOk (B + 1) σ := ⟨by omega, h.m, by have := h.c; omega, by have := h.s; omega, fun j q hq => (h.q j q hq).up⟩
theorem LOk.set {B : Nat} {σ : LS} (h : LOk B σ) (hB : B < 1000) {c' s' : Int} (hc : 0 ≤ c' ∧ c' ≤ B + 1) (hs : 0 ≤ s' ∧ s' ≤ B + 1) {j : Nat} {q' : Q} (hq : QOk (B + 1) q') : LOk (B + 1) ⟨σ.m, c', s', σ.qs.set j q'⟩ := by
  refine ⟨by omega, h.m, by simpa using hc, by simpa using hs, fun i q hi => ?_⟩
  have hi' : (σ.qs.set j q')[i]? = some q := hi
  rw [List.getElem?_set] at hi'
  split at hi'
  · split at hi'
    · cases hi'; exact hq
    · cases hi'
  · exact (h.q i q hi').up
theorem fnd_lt {ps : List Pl} {v : Val} {a : Nat} (h : fnd ps v = some a) : a < ps.length := (List.findIdx?_eq_some_iff_getElem.1 h).1
theorem addQ_ok {B : Nat} {q : Q} (h : QOk B q) {v : Val} (hv : v.Ok) : QOk (B + 1) (addQ q v) := by
  have h1 := h.tl
  have h2 := h.pl
  have h3 := h.le
  cases hf : fnd q.ps v with
  | some a =>
    have hl := fnd_lt hf
    have e1 : addPs q.ps v = q.ps := by simp [addPs, hf]
    have e2 : addAt q.ps v = a := by simp [addAt, hf]
    refine ⟨h.f, by simp [addQ]; omega, by simp only [addQ, e1]; omega, fun t ht => ?_, by simp only [addQ, e1]; exact h.ps, h.nx, by simp only [addQ, e1]; exact h.le⟩
    simp only [addQ, e1, e2, List.mem_append, List.mem_singleton] at ht ⊢
    rcases ht with ht | rfl
    · exact h.tk t ht
    · omega
  | none =>
    have e1 : addPs q.ps v = q.ps ++ [⟨v, Val.zero, false⟩] := by simp [addPs, hf]
    have e2 : addAt q.ps v = q.ps.length := by simp [addAt, hf]
    refine ⟨h.f, by simp [addQ]; omega, by simp [addQ, e1]; omega, fun t ht => ?_, fun p hp => ?_, h.nx, by simp [addQ, e1]; omega⟩
    · simp only [addQ, e1, e2, List.mem_append, List.mem_singleton, List.length_append, List.length_singleton] at ht ⊢
      rcases ht with ht | rfl
      · have := h.tk t ht; omega
      · omega
    · simp only [addQ, e1, List.mem_append, List.mem_singleton] at hp
      rcases hp with hp | rfl
      · exact h.ps p hp
      · exact ⟨hv, Val.zero_ok⟩
theorem setR_ok : ∀ {rs : List Val} {ps : List Pl} {i : Nat}, (∀ v, v ∈ rs → v.Ok) → (∀ p, p ∈ ps → p.Ok) → ∀ p, p ∈ setR ps i rs → p.Ok
  | [], ps, i, _, hp, p, h => hp p h
  | v :: r, ps, i, hr, hp, p, h => setR_ok (rs := r) (ps := upd ps i v) (i := i + 1) (fun v hv => hr v (by simp [hv])) (upd_ok (hr v (by simp)) hp) p h
theorem setR_len (ps : List Pl) (i : Nat) (rs : List Val) : (setR ps i rs).length = ps.length := by
  have := congrArg List.length (pl_setR rs ps i)
  simpa [pl_length] using this

theorem add_keeps {B : Nat} {σ : LS} (h : LOk B σ) (hB : B < 1000) (f : Int) {v : Val} (hv : v.Ok) : LOk (B + 1) (addL σ f v).2 := by
  have hc := h.c
  have hs := h.s
  simp only [addL]
  split
  · exact h.up hB
  · rename_i hf
    split
    · rename_i j hj
      obtain ⟨q, h1, _⟩ := qix_some hj
      simp only [h1]
      refine h.set hB (by omega) ?_ (addQ_ok (h.q j q h1) hv)
      simp only [addS]; split <;> omega
    · refine ⟨by omega, h.m, by simp only; omega, by simp only; omega, fun i q hi => ?_⟩
      have hi' : (σ.qs ++ [newQ f v])[i]? = some q := hi
      by_cases hlt : i < σ.qs.length
      · rw [List.getElem?_append_left hlt] at hi'; exact (h.q i q hi').up
      · rw [List.getElem?_append_right (by omega)] at hi'
        cases hk : i - σ.qs.length with
        | zero =>
          rw [hk] at hi'; simp at hi'; subst hi'
          refine ⟨by show 0 ≤ f; omega, by simp [newQ], by simp [newQ], fun t ht => ?_, fun p hp => ?_, .inl rfl, Nat.zero_le _⟩
          · simp [newQ] at ht ⊢; omega
          · simp [newQ] at hp; subst hp; exact ⟨hv, Val.zero_ok⟩
        | succ n => rw [hk] at hi'; simp at hi'
theorem next_keeps {B : Nat} {σ : LS} (h : LOk B σ) (hB : B < 1000) (f : Int) : LOk (B + 1) (nextL σ f).2 := by
  have hc := h.c
  have hs := h.s
  cases hj : qix f σ.qs with
  | none => simp only [nextL, hj]; exact h.up hB
  | some j =>
    obtain ⟨q, h1, _⟩ := qix_some hj
    simp only [nextL, hj, h1]
    have hq := h.q j q h1
    have h2 := hq.le
    have h3 := hq.tl
    have h4 := hq.pl
    by_cases hk : q.k = 0
    · simp only [hk, if_true]
      refine h.set hB ?_ (by omega) ⟨hq.f, by simp only [nextQ]; omega, by simp only [nextQ]; omega, hq.tk, hq.ps, .inl rfl, ?_⟩
      · split <;> omega
      · show q.nx + batch σ.m q.nx q.ps ≤ q.ps.length
        simp only [batch]; omega
    · simp only [hk, if_false]; exact h.up hB
theorem done_keeps {B : Nat} {σ : LS} (h : LOk B σ) (hB : B < 1000) (f : Int) {rs : List Val} (hr : ∀ v, v ∈ rs → v.Ok) : LOk (B + 1) (doneL σ f rs).2 := by
  have hc := h.c
  have hs := h.s
  cases hj : qix f σ.qs with
  | none => simp only [doneL, hj]; exact h.up hB
  | some j =>
    obtain ⟨q, h1, _⟩ := qix_some hj
    simp only [doneL, hj, h1]
    have hq := h.q j q h1
    have h3 := hq.tl
    have h4 := hq.pl
    by_cases hk : q.k = 0
    · simp only [hk, if_true]; exact h.up hB
    · simp only [hk, if_false]
      by_cases hl : rs.length = q.k
      · simp only [hl, if_true]
        refine h.set hB (by omega) (by omega) ⟨hq.f, by simp only [doneQ]; omega, by simp only [doneQ, setR_len]; omega, fun t ht => ?_, ?_, .inr rfl, by simp only [doneQ, setR_len]; exact hq.le⟩
        · have := hq.tk t ht
          simp only [doneQ, setR_len]; exact this
        · exact setR_ok hr hq.ps
      · simp only [hl, if_false]; exact h.up hB

/-- bounds of the reference's loader -/
structure RB (B : Nat) (ρ : RS) : Prop where
  p : ρ.pl.length ≤ B
  t : ρ.tk.length ≤ B
theorem RB.up {B : Nat} {ρ : RS} (h : RB B ρ) : RB (B + 1) ρ := ⟨by have := h.p; omega, by have := h.t; omega⟩
theorem radd_keeps {B : Nat} {ρ : RS} (h : RB B ρ) (f : Int) (v : Val) : RB (B + 1) (raddL ρ f v).2 := by
  have h1 := h.p
  have h2 := h.t
  simp only [raddL]
  split
  · exact h.up
  · refine ⟨?_, by simp; omega⟩
    show (rPl ρ.pl f v).length ≤ B + 1
    unfold rPl; split
    · omega
    · simp; omega
theorem rnext_keeps {B : Nat} {ρ : RS} (h : RB B ρ) (f : Int) : RB (B + 1) (rnextL ρ f).2 := by
  have h1 := h.p
  have h2 := h.t
  exact ⟨by show (nPl ρ.m f ρ.pl).length ≤ B + 1; rw [nPl_len]; omega, by show ρ.tk.length ≤ B + 1; omega⟩
theorem rdone_keeps {B : Nat} {ρ : RS} (h : RB B ρ) (f : Int) (rs : List Val) : RB (B + 1) (rdoneL ρ f rs).2 := by
  have h1 := h.p
  have h2 := h.t
  refine ⟨?_, by show ρ.tk.length ≤ B + 1; omega⟩
  show ((rDone ρ.pl f rs).2).length ≤ B + 1
  simp only [rDone]
  split
  · show ρ.pl.length ≤ B + 1; omega
  · split
    · show (setD ρ.pl _ rs).length ≤ B + 1; rw [setD_len]; omega
    · show ρ.pl.length ≤ B + 1; omega

/-- the reference's objects -/
def rSto (ρ : RS) : List (Nat × AObj) := [(0, .cells [.t (.int .i64 ρ.m), .gsl 1 ρ.pl.length 0 ρ.pl.length 12, .own 2 2 (ρ.tk.map tE), .t (.int .i64 ρ.c), .t (.int .i64 ρ.s)]), (1, .gro ρ.pl.length (gE (gT RP.enc) ρ.pl)), (2, .arr ρ.tk.length)]
theorem rSto_bd (ρ : RS) {k : Nat} (hk : 3 ≤ k) : stoBd k (rSto ρ) = true := by
  refine stoBd_cons (by omega) ?_ (stoBd_cons (by omega) (V.bds_gE (gT_bds RP.enc _) _) (stoBd_cons (by omega) rfl rfl))
  have h1 : 1 < k := by omega
  have h2 : 2 < k := by omega
  simp [AObj.bd, V.bds, V.bd, h1, h2]

section
variable {B : Nat} {σ : LS} {ρ : RS}
theorem radd_r (H : Pr P) (hL : LOk B σ) (hS : Sim σ ρ) (hR : RB B ρ) (f : Int) (v : Val) (hv : v.Ok) : FnOk P 27 [.ptr 0 0, .t (.int .i64 f), v.v] ⟨rSto ρ, 3⟩ { v := .tup [.t (.int .i64 (addL σ f v).1.1), .t (.int .i64 (addL σ f v).1.2)], ob := rSto (raddL ρ f v).2, rd := true } := by
  rw [(sim_add hS f v hv).1]
  have hm := hL.m
  have hs := hL.s
  rw [hS.m] at hm
  rw [hS.s] at hs
  have hb := hL.b
  have h1 := hR.p
  have h2 := hR.t
  by_cases hf : f < 0
  · simp only [raddL, hf, if_true]
    exact FnOk.sameOb (radd_neg H ρ.m ρ.c ρ.s f ρ.pl ρ.tk (by omega) hf v hv) rfl
  · simp only [raddL, hf, if_false]
    exact radd_ok H ρ.m ρ.c ρ.s f ρ.pl ρ.tk (by omega) (by omega) v hv (by omega) (by omega) (by omega) hS.pok
theorem rnext_r (H : Pr P) (hL : LOk B σ) (hS : Sim σ ρ) (hR : RB B ρ) (f : Int) : FnOk P 28 [.ptr 0 0, .t (.int .i64 f)] ⟨rSto ρ, 3⟩ { v := .tup [.t (.lst ((nextL σ f).1.1.map Val.enc)), .t (.bool (nextL σ f).1.2)], ob := rSto (rnextL ρ f).2, rd := true } := by
  have hm := hL.m
  rw [(sim_next hS hm.1 f).1]
  have hc := hL.c
  rw [hS.c] at hc
  have hb := hL.b
  have h1 := hR.p
  exact rnext_ok H ρ.m ρ.c ρ.s f ρ.pl ρ.tk (by omega) (by omega) hS.pok
theorem rdone_r (H : Pr P) (hL : LOk B σ) (hS : Sim σ ρ) (hR : RB B ρ) (f : Int) (rs : List Val) (hr : ∀ v, v ∈ rs → v.Ok) (hrl : rs.length < 1000000) : FnOk P 29 [.ptr 0 0, .t (.int .i64 f), .t (.lst (rs.map Val.enc))] ⟨rSto ρ, 3⟩ { v := .t (.int .i64 (doneL σ f rs).1), ob := rSto (rdoneL ρ f rs).2, rd := true } := by
  rw [(sim_done hS f rs hr).1]
  have hm := hL.m
  rw [hS.m] at hm
  have hb := hL.b
  have h1 := hR.p
  exact rdone_ok H ρ.m ρ.c ρ.s f ρ.pl ρ.tk rs (by omega) hr hrl (by omega) hS.pok
theorem rtake_r (H : Pr P) (hL : LOk B σ) (hS : Sim σ ρ) (hR : RB B ρ) (f n : Int) : FnOk P 30 [.ptr 0 0, .t (.int .i64 f), .t (.int .i64 n)] ⟨rSto ρ, 3⟩ { v := .tup [(takeL σ f n).1.v, .t (.bool (takeL σ f n).2)], ob := rSto ρ, rd := true } := by
  rw [sim_take hS f n]
  have hb := hL.b
  have h1 := hR.p
  have h2 := hR.t
  refine FnOk.sameOb (rtake_ok H ρ.m ρ.c ρ.s f n ρ.pl ρ.tk (by omega) hS.pok (by omega) fun t ht => ?_) rfl
  obtain ⟨p, k1, _⟩ := hS.tk t ht
  exact (List.getElem?_eq_some_iff.1 k1).1
end
end Go.GB.C35


/-
  L37J: chapter 35: one call of both loaders: Add, Next.
-/
namespace Go.GB.C35
open Go.GB
set_option linter.unusedSimpArgs false
set_option linter.unusedVariables false
set_option maxRecDepth 100000
set_option maxHeartbeats 16000000
variable {P : Program}
/-- a call: its kind, its fetch, its number, its representation -/
structure Sp where
  k : Int
  f : Int
  n : Int
  rep : Val
def Sp.enc (s : Sp) : List T := [.int .i64 s.k, .int .i64 s.f, .int .i64 s.n, .int .i64 s.rep.kind, .int .i64 s.rep.int, .str s.rep.text, .lst (s.rep.items.map Val.enc), .lst (s.rep.keys.map sE)]
def Sp.v (s : Sp) : V := .agg [.t (.int .i64 s.k), .t (.int .i64 s.f), .t (.int .i64 s.n), .t (.int .i64 s.rep.kind), .t (.int .i64 s.rep.int), .t (.str s.rep.text), .t (.lst (s.rep.items.map Val.enc)), .t (.lst (s.rep.keys.map sE))]
theorem sameL_refl : ∀ l : List Val, sameL l l = true
  | [] => rfl
  | x :: r => by simp [sameL, sameV_refl, sameL_refl r]
theorem next_small {B : Nat} {σ : LS} (h : LOk B σ) (f : Int) : (nextL σ f).1.1.length ≤ 1000 ∧ ∀ v, v ∈ (nextL σ f).1.1 → v.Ok := by
  have hb := h.b
  have key : ∀ (ps : List Pl) (a b : Nat), ps.length ≤ B → (∀ p, p ∈ ps → p.Ok) → (reps a b ps).length ≤ 1000 ∧ ∀ v, v ∈ reps a b ps → v.Ok := by
    intro ps a b hl hp
    refine ⟨by simp [reps]; omega, fun v hv => ?_⟩
    simp only [reps, List.mem_map] at hv
    obtain ⟨p, h1, rfl⟩ := hv
    exact (hp p (List.mem_of_mem_drop (List.mem_of_mem_take h1))).r
  cases hj : qix f σ.qs with
  | none => simp only [nextL, hj]; exact ⟨Nat.zero_le _, by simp⟩
  | some j =>
    obtain ⟨q, h1, _⟩ := qix_some hj
    have hq := h.q j q h1
    simp only [nextL, hj, h1]
    by_cases hk : q.k = 0
    · simp only [hk, if_true]; exact key q.ps _ _ hq.pl hq.ps
    · simp only [hk, if_false]; exact key q.ps _ _ hq.pl hq.ps
section
variable {B : Nat} {σ : LS} {ρ : RS}
theorem step0 (H : Pr P) (hL : LOk B σ) (hS : Sim σ ρ) (hR : RB B ρ) (s : Sp) (hk : s.k = 0) (hv : s.rep.Ok) (sz : Int) : FnOk P 11 [.fpt 3 0 0, .ptr 0 0, s.v, .t (.int .i64 sz)] ⟨[(0, .cells [.t (.int .i64 ρ.m), .gsl 1 ρ.pl.length 0 ρ.pl.length 12, .own 2 2 (ρ.tk.map tE), .t (.int .i64 ρ.c), .t (.int .i64 ρ.s)]), (1, .gro ρ.pl.length (gE (gT RP.enc) ρ.pl)), (2, .arr ρ.tk.length), (3, .abs (JL σ))], 4⟩ { v := .tup [.t (.bool true), .t (.int .i64 sz)], ob := [(0, .cells [.t (.int .i64 (raddL ρ s.f s.rep).2.m), .gsl 1 (raddL ρ s.f s.rep).2.pl.length 0 (raddL ρ s.f s.rep).2.pl.length 12, .own 2 2 ((raddL ρ s.f s.rep).2.tk.map tE), .t (.int .i64 (raddL ρ s.f s.rep).2.c), .t (.int .i64 (raddL ρ s.f s.rep).2.s)]), (1, .gro (raddL ρ s.f s.rep).2.pl.length (gE (gT RP.enc) (raddL ρ s.f s.rep).2.pl)), (2, .arr (raddL ρ s.f s.rep).2.tk.length), (3, .abs (JL (addL σ s.f s.rep).2))], rd := true } := by
  refine FnOk.run H.i11 H.mixed rfl rfl ?_
  refine Run.fast (f := 5) rfl (by (repeat' (first | exact trivial | exact Bool.not_or_self _ | exact grd1 _ | exact grd2 _ | exact grd3 _ _ | exact grd4 _ _ | refine And.intro ?_ ?_ | exact rfl | (simp; done) | (simp <;> omega))); done) ?_
  refine Run.weakZ 4 rfl (st' := { env := [(0, .fpt 3 0 0), (1, .ptr 0 0), (3, .t (.int .i64 sz)), (6, .t (.ptr s.enc))], s := ⟨[(0, .cells [.t (.int .i64 ρ.m), .gsl 1 ρ.pl.length 0 ρ.pl.length 12, .own 2 2 (ρ.tk.map tE), .t (.int .i64 ρ.c), .t (.int .i64 ρ.s)]), (1, .gro ρ.pl.length (gE (gT RP.enc) ρ.pl)), (2, .arr ρ.tk.length), (3, .abs (JL σ))], 4⟩ }) ?_ rfl rfl rfl (by repeat' (first | exact trivial | exact LeZ.le (Nat.le_of_ble_eq_true rfl) (.same rfl) | exact LeZ.ptrZ (Nat.le_of_ble_eq_true rfl) rfl rfl | refine And.intro ?_ ?_)) (by repeat' (first | exact trivial | refine And.intro ?_ ?_ | exact Or.inl ⟨(Nat.le_of_ble_eq_true rfl), _, rfl, LeOZ.le (AObj.leSame (by first | rfl | exact V.bds_gE (gT_bds RP.enc _) _))⟩))
  refine fR rfl ?_
  refine Run.condT rfl rfl (by simp [hk]) ?_
  refine fR rfl ?_
  refine Mid.callR [3] (add_abs H hL s.f s.rep hv) rfl rfl rfl rfl rfl (by repeat' (first | exact trivial | refine And.intro ?_ ?_ | exact rfl | (refine (congrArg some (AObj.ren_gE ?_ _ _)).symm; intro _; rfl))) rfl (v' := .tup [.t (.int .i64 (addL σ s.f s.rep).1.1), .t (.int .i64 (addL σ s.f s.rep).1.2)]) rfl (ob' := [(3, .abs (JL (addL σ s.f s.rep).2))]) (by repeat' (first | exact (rfl : renOb _ [] = []) | refine renOb_cons rfl ?_ ?_ | exact rfl | (refine AObj.ren_gE ?_ _ _; intro _; rfl))) rfl rfl ?_
  refine fM rfl ?_
  refine Mid.callR [0, 1, 2] (radd_r H hL hS hR s.f s.rep hv) rfl rfl rfl rfl (rSto_bd _ (Nat.le_refl _)) (by repeat' (first | exact trivial | refine And.intro ?_ ?_ | exact rfl | (refine (congrArg some (AObj.ren_gE ?_ _ _)).symm; intro _; rfl))) rfl (v' := .tup [.t (.int .i64 (addL σ s.f s.rep).1.1), .t (.int .i64 (addL σ s.f s.rep).1.2)]) rfl (ob' := [(0, .cells [.t (.int .i64 (raddL ρ s.f s.rep).2.m), .gsl 1 (raddL ρ s.f s.rep).2.pl.length 0 (raddL ρ s.f s.rep).2.pl.length 12, .own 2 2 ((raddL ρ s.f s.rep).2.tk.map tE), .t (.int .i64 (raddL ρ s.f s.rep).2.c), .t (.int .i64 (raddL ρ s.f s.rep).2.s)]), (1, .gro (raddL ρ s.f s.rep).2.pl.length (gE (gT RP.enc) (raddL ρ s.f s.rep).2.pl)), (2, .arr (raddL ρ s.f s.rep).2.tk.length)]) (by repeat' (first | exact (rfl : renOb _ [] = []) | refine renOb_cons rfl ?_ ?_ | exact rfl | (refine AObj.ren_gE ?_ _ _; intro _; rfl))) rfl rfl ?_
  refine fM rfl ?_
  refine Run.fin rfl (EndOk.chg rfl rfl ?_ ?_)
  · exact .tup (.cons (.t (by simp)) (.cons (.t rfl) .nil))
  · exact (by repeat' (first | exact trivial | refine And.intro ?_ ?_ | exact Or.inl ⟨(Nat.le_of_ble_eq_true rfl), _, rfl, AObj.leSame (by first | rfl | exact V.bds_gE (gT_bds RP.enc _) _)⟩))
theorem step1 (H : Pr P) (hL : LOk B σ) (hS : Sim σ ρ) (hR : RB B ρ) (s : Sp) (hk : s.k = 1) (sz : Int) : FnOk P 11 [.fpt 3 0 0, .ptr 0 0, s.v, .t (.int .i64 sz)] ⟨[(0, .cells [.t (.int .i64 ρ.m), .gsl 1 ρ.pl.length 0 ρ.pl.length 12, .own 2 2 (ρ.tk.map tE), .t (.int .i64 ρ.c), .t (.int .i64 ρ.s)]), (1, .gro ρ.pl.length (gE (gT RP.enc) ρ.pl)), (2, .arr ρ.tk.length), (3, .abs (JL σ))], 4⟩ { v := .tup [.t (.bool true), .t (.int .i64 ((nextL σ s.f).1.1.length : Int))], ob := [(0, .cells [.t (.int .i64 (rnextL ρ s.f).2.m), .gsl 1 (rnextL ρ s.f).2.pl.length 0 (rnextL ρ s.f).2.pl.length 12, .own 2 2 ((rnextL ρ s.f).2.tk.map tE), .t (.int .i64 (rnextL ρ s.f).2.c), .t (.int .i64 (rnextL ρ s.f).2.s)]), (1, .gro (rnextL ρ s.f).2.pl.length (gE (gT RP.enc) (rnextL ρ s.f).2.pl)), (2, .arr (rnextL ρ s.f).2.tk.length), (3, .abs (JL (nextL σ s.f).2))], rd := true } := by
  obtain ⟨hl, ho⟩ := next_small hL s.f
  have hsm := same_ok H (nextL σ s.f).1.1 (nextL σ s.f).1.1 (by omega) (by omega) ho ho
  rw [sameL_refl] at hsm
  refine FnOk.run H.i11 H.mixed rfl rfl ?_
  refine Run.fast (f := 5) rfl (by (repeat' (first | exact trivial | exact Bool.not_or_self _ | exact grd1 _ | exact grd2 _ | exact grd3 _ _ | exact grd4 _ _ | refine And.intro ?_ ?_ | exact rfl | (simp; done) | (simp <;> omega))); done) ?_
  refine Run.weakZ 4 rfl (st' := { env := [(0, .fpt 3 0 0), (1, .ptr 0 0), (3, .t (.int .i64 sz)), (6, .t (.ptr s.enc))], s := ⟨[(0, .cells [.t (.int .i64 ρ.m), .gsl 1 ρ.pl.length 0 ρ.pl.length 12, .own 2 2 (ρ.tk.map tE), .t (.int .i64 ρ.c), .t (.int .i64 ρ.s)]), (1, .gro ρ.pl.length (gE (gT RP.enc) ρ.pl)), (2, .arr ρ.tk.length), (3, .abs (JL σ))], 4⟩ }) ?_ rfl rfl rfl (by repeat' (first | exact trivial | exact LeZ.le (Nat.le_of_ble_eq_true rfl) (.same rfl) | exact LeZ.ptrZ (Nat.le_of_ble_eq_true rfl) rfl rfl | refine And.intro ?_ ?_)) (by repeat' (first | exact trivial | refine And.intro ?_ ?_ | exact Or.inl ⟨(Nat.le_of_ble_eq_true rfl), _, rfl, LeOZ.le (AObj.leSame (by first | rfl | exact V.bds_gE (gT_bds RP.enc _) _))⟩))
  refine fR rfl ?_
  refine Run.condF rfl rfl (by simp [hk]) ?_
  refine fR rfl ?_
  refine Run.condT rfl rfl (by simp [hk]) ?_
  refine fR rfl ?_
  refine Mid.callR [3] (next_abs H hL s.f) rfl rfl rfl rfl rfl (by repeat' (first | exact trivial | refine And.intro ?_ ?_ | exact rfl | (refine (congrArg some (AObj.ren_gE ?_ _ _)).symm; intro _; rfl))) rfl (v' := .tup [.t (.lst ((nextL σ s.f).1.1.map Val.enc)), .t (.bool (nextL σ s.f).1.2)]) rfl (ob' := [(3, .abs (JL (nextL σ s.f).2))]) (by repeat' (first | exact (rfl : renOb _ [] = []) | refine renOb_cons rfl ?_ ?_ | exact rfl | (refine AObj.ren_gE ?_ _ _; intro _; rfl))) rfl rfl ?_
  refine fM rfl ?_
  refine Mid.callR [0, 1, 2] (rnext_r H hL hS hR s.f) rfl rfl rfl rfl (rSto_bd _ (Nat.le_refl _)) (by repeat' (first | exact trivial | refine And.intro ?_ ?_ | exact rfl | (refine (congrArg some (AObj.ren_gE ?_ _ _)).symm; intro _; rfl))) rfl (v' := .tup [.t (.lst ((nextL σ s.f).1.1.map Val.enc)), .t (.bool (nextL σ s.f).1.2)]) rfl (ob' := [(0, .cells [.t (.int .i64 (rnextL ρ s.f).2.m), .gsl 1 (rnextL ρ s.f).2.pl.length 0 (rnextL ρ s.f).2.pl.length 12, .own 2 2 ((rnextL ρ s.f).2.tk.map tE), .t (.int .i64 (rnextL ρ s.f).2.c), .t (.int .i64 (rnextL ρ s.f).2.s)]), (1, .gro (rnextL ρ s.f).2.pl.length (gE (gT RP.enc) (rnextL ρ s.f).2.pl)), (2, .arr (rnextL ρ s.f).2.tk.length)]) (by repeat' (first | exact (rfl : renOb _ [] = []) | refine renOb_cons rfl ?_ ?_ | exact rfl | (refine AObj.ren_gE ?_ _ _; intro _; rfl))) rfl rfl ?_
  refine fM rfl ?_
  refine caG rfl rfl (fun hg => ⟨_, rfl, hsm, rfl⟩) rfl rfl ?_
  refine fM rfl ?_
  refine lM rfl rfl rfl ?_
  refine fM rfl ?_
  refine Run.fin rfl (EndOk.chg rfl rfl ?_ ?_)
  · exact .tup (.cons (.t (by simp)) (.cons (.t (by simp)) .nil))
  · exact (by repeat' (first | exact trivial | refine And.intro ?_ ?_ | exact Or.inl ⟨(Nat.le_of_ble_eq_true rfl), _, rfl, AObj.leSame (by first | rfl | exact V.bds_gE (gT_bds RP.enc _) _)⟩))
end
end Go.GB.C35


/-
  L37K: chapter 35: one call of both loaders: Done, Take.
-/
namespace Go.GB.C35
open Go.GB
set_option linter.unusedSimpArgs false
set_option linter.unusedVariables false
set_option maxRecDepth 100000
set_option maxHeartbeats 16000000
variable {P : Program}
/-- the results that the law hands to Done -/
def resN (s : Sp) (n : Nat) : List Val := (List.range n).map fun i : Nat => mkL [s.rep, mkI i]
theorem resN_push (s : Sp) (n : Nat) : resN s (n + 1) = resN s n ++ [mkL [s.rep, mkI n]] := by simp [resN, List.range_succ]
theorem resN_ok {s : Sp} (hv : s.rep.Ok) (n : Nat) : ∀ v, v ∈ resN s n → v.Ok := by
  intro v h
  simp only [resN, List.mem_map] at h
  obtain ⟨i, _, rfl⟩ := h
  refine .mk (by simp [mkL, Val.items]; decide) (by simp [mkL, Val.keys]) (fun x hx => ?_) (by simp [mkL, Val.text]) (by simp [mkL, Val.keys])
  simp [mkL, Val.items] at hx
  rcases hx with rfl | rfl
  · exact hv
  · exact mkI_k _
theorem resN_len (s : Sp) (n : Nat) : (resN s n).length = n := by simp [resN]
section
variable {B : Nat} {σ : LS} {ρ : RS}
theorem step2 (H : Pr P) (hL : LOk B σ) (hS : Sim σ ρ) (hR : RB B ρ) (s : Sp) (hk : s.k = 2) (hv : s.rep.Ok) (sz : Int) (hsz : 0 ≤ sz ∧ sz ≤ 1000) (hn : -100 ≤ s.n ∧ s.n ≤ 100) : FnOk P 11 [.fpt 3 0 0, .ptr 0 0, s.v, .t (.int .i64 sz)] ⟨[(0, .cells [.t (.int .i64 ρ.m), .gsl 1 ρ.pl.length 0 ρ.pl.length 12, .own 2 2 (ρ.tk.map tE), .t (.int .i64 ρ.c), .t (.int .i64 ρ.s)]), (1, .gro ρ.pl.length (gE (gT RP.enc) ρ.pl)), (2, .arr ρ.tk.length), (3, .abs (JL σ))], 4⟩ { v := .tup [.t (.bool true), .t (.int .i64 sz)], ob := [(0, .cells [.t (.int .i64 (rdoneL ρ s.f (resN s (sz + s.n).toNat)).2.m), .gsl 1 (rdoneL ρ s.f (resN s (sz + s.n).toNat)).2.pl.length 0 (rdoneL ρ s.f (resN s (sz + s.n).toNat)).2.pl.length 12, .own 2 2 ((rdoneL ρ s.f (resN s (sz + s.n).toNat)).2.tk.map tE), .t (.int .i64 (rdoneL ρ s.f (resN s (sz + s.n).toNat)).2.c), .t (.int .i64 (rdoneL ρ s.f (resN s (sz + s.n).toNat)).2.s)]), (1, .gro (rdoneL ρ s.f (resN s (sz + s.n).toNat)).2.pl.length (gE (gT RP.enc) (rdoneL ρ s.f (resN s (sz + s.n).toNat)).2.pl)), (2, .arr (rdoneL ρ s.f (resN s (sz + s.n).toNat)).2.tk.length), (3, .abs (JL (doneL σ s.f (resN s (sz + s.n).toNat)).2))], rd := true } := by
  have hrk := resN_ok hv (sz + s.n).toNat
  have hrl := resN_len s (sz + s.n).toNat
  refine FnOk.run H.i11 H.mixed rfl rfl ?_
  refine Run.fast (f := 5) rfl (by (repeat' (first | exact trivial | exact Bool.not_or_self _ | exact grd1 _ | exact grd2 _ | exact grd3 _ _ | exact grd4 _ _ | refine And.intro ?_ ?_ | exact rfl | (simp; done) | (simp <;> omega))); done) ?_
  refine Run.weakZ 4 rfl (st' := { env := [(0, .fpt 3 0 0), (1, .ptr 0 0), (3, .t (.int .i64 sz)), (6, .t (.ptr s.enc))], s := ⟨[(0, .cells [.t (.int .i64 ρ.m), .gsl 1 ρ.pl.length 0 ρ.pl.length 12, .own 2 2 (ρ.tk.map tE), .t (.int .i64 ρ.c), .t (.int .i64 ρ.s)]), (1, .gro ρ.pl.length (gE (gT RP.enc) ρ.pl)), (2, .arr ρ.tk.length), (3, .abs (JL σ))], 4⟩ }) ?_ rfl rfl rfl (by repeat' (first | exact trivial | exact LeZ.le (Nat.le_of_ble_eq_true rfl) (.same rfl) | exact LeZ.ptrZ (Nat.le_of_ble_eq_true rfl) rfl rfl | refine And.intro ?_ ?_)) (by repeat' (first | exact trivial | refine And.intro ?_ ?_ | exact Or.inl ⟨(Nat.le_of_ble_eq_true rfl), _, rfl, LeOZ.le (AObj.leSame (by first | rfl | exact V.bds_gE (gT_bds RP.enc _) _))⟩))
  refine fR rfl ?_
  refine Run.condF rfl rfl (by simp [hk]) ?_
  refine fR rfl ?_
  refine Run.condF rfl rfl (by simp [hk]) ?_
  refine fR rfl ?_
  refine Run.condT rfl rfl (by simp [hk]) ?_
  refine fR rfl ?_
  refine rList (List.range (sz + s.n).toNat) (fun i (_ : Unit) => { env := [(0, .fpt 3 0 0), (1, .ptr 0 0), (3, .t (.int .i64 sz)), (6, .t (.ptr s.enc)), (18, .own 4 5 ((resN s i).map Val.enc)), (19, .t (.int .i64 (i : Int)))], s := ⟨[(0, .cells [.t (.int .i64 ρ.m), .gsl 1 ρ.pl.length 0 ρ.pl.length 12, .own 2 2 (ρ.tk.map tE), .t (.int .i64 ρ.c), .t (.int .i64 ρ.s)]), (1, .gro ρ.pl.length (gE (gT RP.enc) ρ.pl)), (2, .arr ρ.tk.length), (3, .abs (JL σ)), (4, .arr (resN s i).length)], 5⟩ }) (fun r i _ => True) 4 () rfl trivial rfl rfl rfl ?_ ?_ (hs := (by repeat' (first | exact trivial | refine And.intro ?_ ?_ | exact Or.inl ⟨(Nat.le_of_ble_eq_true rfl), _, rfl, AObj.leSame (by first | rfl | exact V.bds_gE (gT_bds RP.enc _) _)⟩ | exact Or.inr ⟨Nat.le_of_ble_eq_true rfl, Nat.le_of_ble_eq_true rfl, rfl⟩)))
  · intro _ _
    rw [List.length_range]
    refine fR rfl ?_
    refine a64 rfl rfl rfl ?_
    refine fM rfl ?_
    refine Run.condF rfl rfl (by simp; omega) ?_
    refine fR rfl ?_
    refine Mid.callR [3] (done_abs H hL s.f (resN s (sz + s.n).toNat) hrk (by omega)) rfl rfl rfl rfl rfl (by repeat' (first | exact trivial | refine And.intro ?_ ?_ | exact rfl | (refine (congrArg some (AObj.ren_gE ?_ _ _)).symm; intro _; rfl))) rfl (v' := .t (.int .i64 (doneL σ s.f (resN s (sz + s.n).toNat)).1)) rfl (ob' := [(3, .abs (JL (doneL σ s.f (resN s (sz + s.n).toNat)).2))]) (by repeat' (first | exact (rfl : renOb _ [] = []) | refine renOb_cons rfl ?_ ?_ | exact rfl | (refine AObj.ren_gE ?_ _ _; intro _; rfl))) rfl rfl ?_
    refine fM rfl ?_
    refine Mid.callR [0, 1, 2] (rdone_r H hL hS hR s.f (resN s (sz + s.n).toNat) hrk (by omega)) rfl rfl rfl rfl (rSto_bd _ (Nat.le_refl _)) (by repeat' (first | exact trivial | refine And.intro ?_ ?_ | exact rfl | (refine (congrArg some (AObj.ren_gE ?_ _ _)).symm; intro _; rfl))) rfl (v' := .t (.int .i64 (doneL σ s.f (resN s (sz + s.n).toNat)).1)) rfl (ob' := [(0, .cells [.t (.int .i64 (rdoneL ρ s.f (resN s (sz + s.n).toNat)).2.m), .gsl 1 (rdoneL ρ s.f (resN s (sz + s.n).toNat)).2.pl.length 0 (rdoneL ρ s.f (resN s (sz + s.n).toNat)).2.pl.length 12, .own 2 2 ((rdoneL ρ s.f (resN s (sz + s.n).toNat)).2.tk.map tE), .t (.int .i64 (rdoneL ρ s.f (resN s (sz + s.n).toNat)).2.c), .t (.int .i64 (rdoneL ρ s.f (resN s (sz + s.n).toNat)).2.s)]), (1, .gro (rdoneL ρ s.f (resN s (sz + s.n).toNat)).2.pl.length (gE (gT RP.enc) (rdoneL ρ s.f (resN s (sz + s.n).toNat)).2.pl)), (2, .arr (rdoneL ρ s.f (resN s (sz + s.n).toNat)).2.tk.length)]) (by repeat' (first | exact (rfl : renOb _ [] = []) | refine renOb_cons rfl ?_ ?_ | exact rfl | (refine AObj.ren_gE ?_ _ _; intro _; rfl))) rfl rfl ?_
    refine fM rfl ?_
    refine Run.fin rfl (EndOk.chg rfl rfl ?_ ?_)
    · exact .tup (.cons (.t (by simp)) (.cons (.t rfl) .nil))
    · exact (by repeat' (first | exact trivial | refine And.intro ?_ ?_ | exact Or.inl ⟨(Nat.le_of_ble_eq_true rfl), _, rfl, AObj.leSame (by first | rfl | exact V.bds_gE (gT_bds RP.enc _) _)⟩))
  · intro i x r _ g1 gi gd _ ih
    rw [List.length_range] at gi
    have e3 := mkL_ok H [s.rep, mkI i] (by simp) (by intro x hx; simp at hx; rcases hx with rfl | rfl; exact hv; exact mkI_k _)
    rw [show [s.rep, mkI i].map Val.enc = [s.rep.cs, (mkI i).cs] by simp [Val.enc_eq]] at e3
    have hRl := resN_len s i
    refine fR rfl ?_
    refine a64 rfl rfl rfl ?_
    refine fM rfl ?_
    refine Run.condT rfl rfl (by simp; omega) ?_
    refine fR rfl ?_
    refine Mid.call (mkI_ok H i) rfl rfl rfl rfl ?_
    refine Mid.bslP rfl rfl rfl ?_
    skip
    refine Mid.call (e3) rfl rfl rfl rfl ?_
    refine fM rfl ?_
    refine apM Val.enc (resN s i) [(mkL [s.rep, mkI i])] rfl (congrArg (fun c => some (T.lst [c])) (Val.enc_eq (mkL [s.rep, mkI i])).symm) rfl rfl rfl ?_ (hl := fun x => (congrArg List.length (Val.enc_eq x)).trans rfl)
    refine fM rfl ?_
    refine aL rfl rfl rfl rfl rfl ?_
    refine fM rfl ?_
    exact rWeak 5 rfl (ih () trivial) rfl rfl rfl (he := (by repeat' (first | exact trivial | exact LeX.same rfl | exact LeX.t | exact LeX.ownEq (by rw [resN_push]) (Nat.le_of_ble_eq_true rfl) | exact LeX.tEq (by simp) | refine And.intro ?_ ?_))) (hs := (by repeat' (first | exact trivial | refine And.intro ?_ ?_ | exact Or.inl ⟨(Nat.le_of_ble_eq_true rfl), _, rfl, AObj.leSame (by first | rfl | exact V.bds_gE (gT_bds RP.enc _) _)⟩ | exact Or.inl ⟨(Nat.le_of_ble_eq_true rfl), _, rfl, LeO.arr (by simp [resN_len])⟩)))
theorem take_small {B : Nat} {σ : LS} (h : LOk B σ) (f n : Int) : (takeL σ f n).1.Ok := by
  cases hj : qix f σ.qs with
  | none => simp only [takeL, hj]; exact Val.zero_ok
  | some j =>
    obtain ⟨q, h1, _⟩ := qix_some hj
    have hq := h.q j q h1
    simp only [takeL, hj, h1, takeQ]
    split
    · exact Val.zero_ok
    · split
      · split
        · rename_i p hp
          have := (hq.ps p (List.mem_of_getElem? hp)).s
          split
          · exact this
          · exact Val.zero_ok
        · exact Val.zero_ok
      · exact Val.zero_ok
theorem step3 (H : Pr P) (hL : LOk B σ) (hS : Sim σ ρ) (hR : RB B ρ) (s : Sp) (hk : s.k ≠ 0 ∧ s.k ≠ 1 ∧ s.k ≠ 2) (sz : Int) : FnOk P 11 [.fpt 3 0 0, .ptr 0 0, s.v, .t (.int .i64 sz)] ⟨[(0, .cells [.t (.int .i64 ρ.m), .gsl 1 ρ.pl.length 0 ρ.pl.length 12, .own 2 2 (ρ.tk.map tE), .t (.int .i64 ρ.c), .t (.int .i64 ρ.s)]), (1, .gro ρ.pl.length (gE (gT RP.enc) ρ.pl)), (2, .arr ρ.tk.length), (3, .abs (JL σ))], 4⟩ { v := .tup [.t (.bool true), .t (.int .i64 sz)], ob := [(0, .cells [.t (.int .i64 ρ.m), .gsl 1 ρ.pl.length 0 ρ.pl.length 12, .own 2 2 (ρ.tk.map tE), .t (.int .i64 ρ.c), .t (.int .i64 ρ.s)]), (1, .gro ρ.pl.length (gE (gT RP.enc) ρ.pl)), (2, .arr ρ.tk.length), (3, .abs (JL σ))], rd := true } := by
  have hok := take_small hL s.f s.n
  have hsm := rsame_ok H _ _ hok hok
  rw [sameV_refl] at hsm
  refine FnOk.run H.i11 H.mixed rfl rfl ?_
  refine Run.fast (f := 5) rfl (by (repeat' (first | exact trivial | exact Bool.not_or_self _ | exact grd1 _ | exact grd2 _ | exact grd3 _ _ | exact grd4 _ _ | refine And.intro ?_ ?_ | exact rfl | (simp; done) | (simp <;> omega))); done) ?_
  refine Run.weakZ 4 rfl (st' := { env := [(0, .fpt 3 0 0), (1, .ptr 0 0), (3, .t (.int .i64 sz)), (6, .t (.ptr s.enc))], s := ⟨[(0, .cells [.t (.int .i64 ρ.m), .gsl 1 ρ.pl.length 0 ρ.pl.length 12, .own 2 2 (ρ.tk.map tE), .t (.int .i64 ρ.c), .t (.int .i64 ρ.s)]), (1, .gro ρ.pl.length (gE (gT RP.enc) ρ.pl)), (2, .arr ρ.tk.length), (3, .abs (JL σ))], 4⟩ }) ?_ rfl rfl rfl (by repeat' (first | exact trivial | exact LeZ.le (Nat.le_of_ble_eq_true rfl) (.same rfl) | exact LeZ.ptrZ (Nat.le_of_ble_eq_true rfl) rfl rfl | refine And.intro ?_ ?_)) (by repeat' (first | exact trivial | refine And.intro ?_ ?_ | exact Or.inl ⟨(Nat.le_of_ble_eq_true rfl), _, rfl, LeOZ.le (AObj.leSame (by first | rfl | exact V.bds_gE (gT_bds RP.enc _) _))⟩))
  refine fR rfl ?_
  refine Run.condF rfl rfl (by simp [hk.1]) ?_
  refine fR rfl ?_
  refine Run.condF rfl rfl (by simp [hk.2.1]) ?_
  refine fR rfl ?_
  refine Run.condF rfl rfl (by simp [hk.2.2]) ?_
  refine fR rfl ?_
  refine Mid.callR [3] (take_abs H hL s.f s.n) rfl rfl rfl rfl rfl (by repeat' (first | exact trivial | refine And.intro ?_ ?_ | exact rfl | (refine (congrArg some (AObj.ren_gE ?_ _ _)).symm; intro _; rfl))) rfl (v' := .tup [(takeL σ s.f s.n).1.v, .t (.bool (takeL σ s.f s.n).2)]) rfl (ob' := [(3, .abs (JL σ))]) (by repeat' (first | exact (rfl : renOb _ [] = []) | refine renOb_cons rfl ?_ ?_ | exact rfl | (refine AObj.ren_gE ?_ _ _; intro _; rfl))) rfl rfl ?_
  refine fM rfl ?_
  refine Mid.callR [0, 1, 2] (rtake_r H hL hS hR s.f s.n) rfl rfl rfl rfl (rSto_bd _ (Nat.le_refl _)) (by repeat' (first | exact trivial | refine And.intro ?_ ?_ | exact rfl | (refine (congrArg some (AObj.ren_gE ?_ _ _)).symm; intro _; rfl))) rfl (v' := .tup [(takeL σ s.f s.n).1.v, .t (.bool (takeL σ s.f s.n).2)]) rfl (ob' := [(0, .cells [.t (.int .i64 ρ.m), .gsl 1 ρ.pl.length 0 ρ.pl.length 12, .own 2 2 (ρ.tk.map tE), .t (.int .i64 ρ.c), .t (.int .i64 ρ.s)]), (1, .gro ρ.pl.length (gE (gT RP.enc) ρ.pl)), (2, .arr ρ.tk.length)]) (by repeat' (first | exact (rfl : renOb _ [] = []) | refine renOb_cons rfl ?_ ?_ | exact rfl | (refine AObj.ren_gE ?_ _ _; intro _; rfl))) rfl rfl ?_
  refine fM rfl ?_
  refine caG rfl rfl (fun hg => ⟨_, rfl, hsm, rfl⟩) rfl rfl ?_
  refine fM rfl ?_
  refine Run.fin rfl (EndOk.chg rfl rfl ?_ ?_)
  · exact .tup (.cons (.t (by simp)) (.cons (.t rfl) .nil))
  · exact (by repeat' (first | exact trivial | refine And.intro ?_ ?_ | exact Or.inl ⟨(Nat.le_of_ble_eq_true rfl), _, rfl, AObj.leSame (by first | rfl | exact V.bds_gE (gT_bds RP.enc _) _)⟩))
end
end Go.GB.C35


/-
  L37L: chapter 35: one call of both loaders, where there are none.
-/
namespace Go.GB.C35
open Go.GB
set_option linter.unusedSimpArgs false
set_option linter.unusedVariables false
set_option maxRecDepth 100000
set_option maxHeartbeats 16000000
variable {P : Program}
theorem radd_nil (H : Pr P) (f : Int) (v : Val) : FnOk P 27 [.t .nilp, .t (.int .i64 f), v.v] ⟨[], 0⟩ { v := .tup [.t (.int .i64 0), .t (.int .i64 1)] } := by
  refine FnOk.run H.i27 H.mixed rfl rfl ?_
  refine fR rfl ?_
  refine Mid.grdF rfl (by first | rfl | (simp; done)) rfl rfl rfl ?_
  refine Mid.grdF rfl (by first | rfl | (simp; done)) rfl rfl rfl ?_
  refine Mid.grdF rfl (by first | rfl | (simp; done)) rfl rfl rfl ?_
  refine Mid.grdF rfl (by first | rfl | (simp; done)) rfl rfl rfl ?_
  refine fM rfl ?_
  refine Run.condT rfl rfl rfl ?_
  refine fR rfl ?_
  refine Run.fin rfl (EndOk.go ?_); exact .tup2 (.t rfl) (.t rfl)
theorem rnext_nil (H : Pr P) (f : Int) : FnOk P 28 [.t .nilp, .t (.int .i64 f)] ⟨[], 0⟩ { v := .tup [.t (.lst []), .t (.bool false)] } := by
  refine FnOk.run H.i28 H.mixed rfl rfl ?_
  refine fR rfl ?_
  refine Run.condT rfl rfl rfl ?_
  refine fR rfl ?_
  refine Run.fin rfl (EndOk.go ?_); exact .tup2 (.nil rfl) (.t rfl)
theorem rdone_nil (H : Pr P) (f : Int) (xs : List (List T)) : FnOk P 29 [.t .nilp, .t (.int .i64 f), .t (.lst xs)] ⟨[], 0⟩ { v := .t (.int .i64 1) } := by
  refine FnOk.run H.i29 H.mixed rfl rfl ?_
  refine fR rfl ?_
  refine Mid.grdF rfl (by first | rfl | (simp; done)) rfl rfl rfl ?_
  refine Mid.grdF rfl (by first | rfl | (simp; done)) rfl rfl rfl ?_
  refine Mid.grdF rfl (by first | rfl | (simp; done)) rfl rfl rfl ?_
  refine Mid.grdF rfl (by first | rfl | (simp; done)) rfl rfl rfl ?_
  refine fM rfl ?_
  refine Run.condT rfl rfl rfl ?_
  refine fR rfl ?_
  refine Run.fin rfl (EndOk.go ?_); exact .t rfl
theorem rtake_nil (H : Pr P) (f n : Int) : FnOk P 30 [.t .nilp, .t (.int .i64 f), .t (.int .i64 n)] ⟨[], 0⟩ { v := .tup [Val.zero.v, .t (.bool false)] } := by
  refine FnOk.run H.i30 H.mixed rfl rfl ?_
  refine fR rfl ?_
  refine Run.condT rfl rfl rfl ?_
  refine fR rfl ?_
  refine Run.fin rfl (EndOk.go ?_); exact .tup2 zeroR (.t rfl)
theorem rcalls_nil (H : Pr P) : FnOk P 13 [.t .nilp] ⟨[], 0⟩ { v := .t (.int .i64 0) } := by
  refine FnOk.run H.i13 H.mixed rfl rfl ?_
  refine fR rfl ?_
  refine Run.condT rfl rfl rfl ?_
  refine fR rfl ?_
  refine Run.fin rfl (EndOk.go ?_); exact .t rfl
theorem rsaved_nil (H : Pr P) : FnOk P 15 [.t .nilp] ⟨[], 0⟩ { v := .t (.int .i64 0) } := by
  refine FnOk.run H.i15 H.mixed rfl rfl ?_
  refine fR rfl ?_
  refine Run.condT rfl rfl rfl ?_
  refine fR rfl ?_
  refine Run.fin rfl (EndOk.go ?_); exact .t rfl
theorem stepN (H : Pr P) (s : Sp) (hv : s.rep.Ok) (sz : Int) (hsz : 0 ≤ sz ∧ sz ≤ 1000) (hn : -100 ≤ s.n ∧ s.n ≤ 100) : FnOk P 11 [.t .nilp, .t .nilp, s.v, .t (.int .i64 sz)] ⟨[], 0⟩ { v := .tup [.t (.bool true), .t (.int .i64 (if s.k = 1 then 0 else sz))] } := by
  have hs0 := same_ok H [] [] (by simp) (by simp) (by simp) (by simp)
  have hz := rsame_ok H Val.zero Val.zero Val.zero_ok Val.zero_ok
  rw [sameV_refl] at hz
  refine FnOk.run H.i11 H.mixed rfl rfl ?_
  refine Run.fast (f := 5) rfl (by (repeat' (first | exact trivial | exact Bool.not_or_self _ | exact grd1 _ | exact grd2 _ | exact grd3 _ _ | exact grd4 _ _ | refine And.intro ?_ ?_ | exact rfl | (simp; done) | (simp <;> omega))); done) ?_
  refine Run.weakZ 0 rfl (st' := { env := [(0, .t .nilp), (1, .t .nilp), (3, .t (.int .i64 sz)), (6, .t (.ptr s.enc))], s := ⟨[], 0⟩ }) ?_ rfl rfl rfl (by repeat' (first | exact trivial | exact LeZ.le (Nat.le_of_ble_eq_true rfl) (.same rfl) | exact LeZ.ptrZ (Nat.le_of_ble_eq_true rfl) rfl rfl | refine And.intro ?_ ?_)) trivial
  refine fR rfl ?_
  by_cases h0 : s.k = 0
  · have e1 : ¬ s.k = 1 := by omega
    rw [if_neg e1]
    refine Run.condT rfl rfl (by simp [h0]) ?_
    refine fR rfl ?_
    refine Mid.call (add_nil H s.f s.rep) rfl rfl rfl rfl ?_
    refine fM rfl ?_
    refine Mid.call (radd_nil H s.f s.rep) rfl rfl rfl rfl ?_
    refine fM rfl ?_
    refine Run.fin rfl (EndOk.go ?_); exact .tup2 (.t rfl) (.t rfl)
  · refine Run.condF rfl rfl (by simp [h0]) ?_
    refine fR rfl ?_
    by_cases h1 : s.k = 1
    · rw [if_pos h1]
      refine Run.condT rfl rfl (by simp [h1]) ?_
      refine fR rfl ?_
      refine Mid.call (next_nil H s.f) rfl rfl rfl rfl ?_
      refine fM rfl ?_
      refine Mid.call (rnext_nil H s.f) rfl rfl rfl rfl ?_
      refine fM rfl ?_
      refine caG rfl rfl (fun hg => ⟨_, rfl, hs0, rfl⟩) rfl rfl ?_
      refine fM rfl ?_
      refine p0 rfl ?_
      refine fM rfl ?_
      refine Run.fin rfl (EndOk.go ?_); exact .tup2 (.t rfl) (.t rfl)
    · rw [if_neg h1]
      refine Run.condF rfl rfl (by simp [h1]) ?_
      refine fR rfl ?_
      by_cases h2 : s.k = 2
      · refine Run.condT rfl rfl (by simp [h2]) ?_
        refine fR rfl ?_
        refine rList (List.range (sz + s.n).toNat) (fun i (_ : Unit) => { env := [(0, .t .nilp), (1, .t .nilp), (3, .t (.int .i64 sz)), (6, .t (.ptr s.enc)), (18, .own 0 5 ((resN s i).map Val.enc)), (19, .t (.int .i64 (i : Int)))], s := ⟨[(0, .arr (resN s i).length)], 1⟩ }) (fun r i _ => True) 0 () rfl trivial rfl rfl rfl ?_ ?_
        · intro _ _
          rw [List.length_range]
          refine fR rfl ?_
          refine a64 rfl rfl rfl ?_
          refine fM rfl ?_
          refine Run.condF rfl rfl (by simp; omega) ?_
          refine fR rfl ?_
          refine Mid.call (done_nil H s.f ((resN s (sz + s.n).toNat).map Val.enc)) rfl rfl rfl rfl ?_
          refine fM rfl ?_
          refine Mid.call (rdone_nil H s.f ((resN s (sz + s.n).toNat).map Val.enc)) rfl rfl rfl rfl ?_
          refine fM rfl ?_
          refine Run.fin rfl (EndOk.go ?_); exact .tup2 (.t rfl) (.t rfl)
        · intro i x r _ g1 gi gd _ ih
          rw [List.length_range] at gi
          have e3 := mkL_ok H [s.rep, mkI i] (by simp) (by intro x hx; simp at hx; rcases hx with rfl | rfl; exact hv; exact mkI_k _)
          rw [show [s.rep, mkI i].map Val.enc = [s.rep.cs, (mkI i).cs] by simp [Val.enc_eq]] at e3
          have hRl := resN_len s i
          refine fR rfl ?_
          refine a64 rfl rfl rfl ?_
          refine fM rfl ?_
          refine Run.condT rfl rfl (by simp; omega) ?_
          refine fR rfl ?_
          refine Mid.call (mkI_ok H i) rfl rfl rfl rfl ?_
          refine Mid.bslP rfl rfl rfl ?_
          skip
          refine Mid.call (e3) rfl rfl rfl rfl ?_
          refine fM rfl ?_
          refine apM Val.enc (resN s i) [(mkL [s.rep, mkI i])] rfl (congrArg (fun c => some (T.lst [c])) (Val.enc_eq (mkL [s.rep, mkI i])).symm) rfl rfl rfl ?_ (hl := fun x => (congrArg List.length (Val.enc_eq x)).trans rfl)
          refine fM rfl ?_
          refine aL rfl rfl rfl rfl rfl ?_
          refine fM rfl ?_
          exact rWeak 1 rfl (ih () trivial) rfl rfl rfl (he := (by repeat' (first | exact trivial | exact LeX.same rfl | exact LeX.t | exact LeX.ownEq (by rw [resN_push]) (Nat.le_of_ble_eq_true rfl) | exact LeX.tEq (by simp) | refine And.intro ?_ ?_))) (hs := (by repeat' (first | exact trivial | refine And.intro ?_ ?_ | exact Or.inl ⟨(Nat.le_of_ble_eq_true rfl), _, rfl, LeO.arr (by simp [resN_len])⟩)))
      · refine Run.condF rfl rfl (by simp [h2]) ?_
        refine fR rfl ?_
        refine Mid.call (take_nil H s.f s.n) rfl rfl rfl rfl ?_
        refine fM rfl ?_
        refine Mid.call (rtake_nil H s.f s.n) rfl rfl rfl rfl ?_
        refine fM rfl ?_
        refine caG rfl rfl (fun hg => ⟨_, rfl, hz, rfl⟩) rfl rfl ?_
        refine fM rfl ?_
        refine Run.fin rfl (EndOk.go ?_); exact .tup2 (.t rfl) (.t rfl)
end Go.GB.C35


/-
  L37M: chapter 35: every sequence of calls.
-/
namespace Go.GB.C35
open Go.GB
set_option linter.unusedSimpArgs false
set_option linter.unusedVariables false
set_option maxRecDepth 100000
set_option maxHeartbeats 16000000
variable {P : Program}
def stS (σ : LS) (s : Sp) (sz : Int) : LS := if s.k = 0 then (addL σ s.f s.rep).2 else if s.k = 1 then (nextL σ s.f).2 else if s.k = 2 then (doneL σ s.f (resN s (sz + s.n).toNat)).2 else σ
def stR (ρ : RS) (s : Sp) (sz : Int) : RS := if s.k = 0 then (raddL ρ s.f s.rep).2 else if s.k = 1 then (rnextL ρ s.f).2 else if s.k = 2 then (rdoneL ρ s.f (resN s (sz + s.n).toNat)).2 else ρ
def stZ (σ : LS) (s : Sp) (sz : Int) : Int := if s.k = 1 then ((nextL σ s.f).1.1.length : Int) else sz
section
variable {B : Nat} {σ : LS} {ρ : RS}
theorem step_all (H : Pr P) (hL : LOk B σ) (hS : Sim σ ρ) (hR : RB B ρ) (s : Sp) (hv : s.rep.Ok) (sz : Int) (hsz : 0 ≤ sz ∧ sz ≤ 1000) (hn : -100 ≤ s.n ∧ s.n ≤ 100) : FnOk P 11 [.fpt 3 0 0, .ptr 0 0, s.v, .t (.int .i64 sz)] ⟨[(0, .cells [.t (.int .i64 ρ.m), .gsl 1 ρ.pl.length 0 ρ.pl.length 12, .own 2 2 (ρ.tk.map tE), .t (.int .i64 ρ.c), .t (.int .i64 ρ.s)]), (1, .gro ρ.pl.length (gE (gT RP.enc) ρ.pl)), (2, .arr ρ.tk.length), (3, .abs (JL σ))], 4⟩ { v := .tup [.t (.bool true), .t (.int .i64 (stZ σ s sz))], ob := [(0, .cells [.t (.int .i64 (stR ρ s sz).m), .gsl 1 (stR ρ s sz).pl.length 0 (stR ρ s sz).pl.length 12, .own 2 2 ((stR ρ s sz).tk.map tE), .t (.int .i64 (stR ρ s sz).c), .t (.int .i64 (stR ρ s sz).s)]), (1, .gro (stR ρ s sz).pl.length (gE (gT RP.enc) (stR ρ s sz).pl)), (2, .arr (stR ρ s sz).tk.length), (3, .abs (JL (stS σ s sz)))], rd := true } := by
  by_cases h0 : s.k = 0
  · have e1 : ¬ s.k = 1 := by omega
    simp only [stS, stR, stZ, h0, e1, if_true, if_false]
    exact step0 H hL hS hR s h0 hv sz
  · by_cases h1 : s.k = 1
    · simp only [stS, stR, stZ, h0, h1, if_true, if_false]
      exact step1 H hL hS hR s h1 sz
    · by_cases h2 : s.k = 2
      · simp only [stS, stR, stZ, h0, h1, h2, if_true, if_false]
        exact step2 H hL hS hR s h2 hv sz hsz hn
      · simp only [stS, stR, stZ, h0, h1, h2, if_false]
        exact step3 H hL hS hR s ⟨h0, h1, h2⟩ sz
theorem st_keeps (hL : LOk B σ) (hS : Sim σ ρ) (hR : RB B ρ) (hB : B < 1000) (s : Sp) (hv : s.rep.Ok) (sz : Int) (hsz : 0 ≤ sz ∧ sz ≤ 1000) : LOk (B + 1) (stS σ s sz) ∧ Sim (stS σ s sz) (stR ρ s sz) ∧ RB (B + 1) (stR ρ s sz) ∧ 0 ≤ stZ σ s sz ∧ stZ σ s sz ≤ 1000 := by
  have hm := hL.m
  by_cases h0 : s.k = 0
  · have e1 : ¬ s.k = 1 := by omega
    simp only [stS, stR, stZ, h0, e1, if_true, if_false]
    exact ⟨add_keeps hL hB s.f hv, (sim_add hS s.f s.rep hv).2, radd_keeps hR s.f s.rep, hsz⟩
  · by_cases h1 : s.k = 1
    · simp only [stS, stR, stZ, h0, h1, if_true, if_false]
      have := (next_small hL s.f).1
      exact ⟨next_keeps hL hB s.f, (sim_next hS hm.1 s.f).2, rnext_keeps hR s.f, by omega, by omega⟩
    · by_cases h2 : s.k = 2
      · simp only [stS, stR, stZ, h0, h1, h2, if_true, if_false]
        have hrk := resN_ok hv (sz + s.n).toNat
        exact ⟨done_keeps hL hB s.f hrk, (sim_done hS s.f _ hrk).2, rdone_keeps hR s.f _, hsz⟩
      · simp only [stS, stR, stZ, h0, h1, h2, if_false]
        exact ⟨hL.up hB, hS, hR.up, hsz⟩
theorem rcalls_r (H : Pr P) (hS : Sim σ ρ) : FnOk P 13 [.ptr 0 0] ⟨[(0, .cells [.t (.int .i64 ρ.m), .gsl 1 ρ.pl.length 0 ρ.pl.length 12, .own 2 2 (ρ.tk.map tE), .t (.int .i64 ρ.c), .t (.int .i64 ρ.s)]), (1, .gro ρ.pl.length (gE (gT RP.enc) ρ.pl)), (2, .arr ρ.tk.length)], 3⟩ { v := .t (.int .i64 σ.c), rd := true } := by
  rw [hS.c]; exact rcalls_ok H ρ.m ρ.c ρ.s ρ.pl ρ.tk
theorem rsaved_r (H : Pr P) (hS : Sim σ ρ) : FnOk P 15 [.ptr 0 0] ⟨[(0, .cells [.t (.int .i64 ρ.m), .gsl 1 ρ.pl.length 0 ρ.pl.length 12, .own 2 2 (ρ.tk.map tE), .t (.int .i64 ρ.c), .t (.int .i64 ρ.s)]), (1, .gro ρ.pl.length (gE (gT RP.enc) ρ.pl)), (2, .arr ρ.tk.length)], 3⟩ { v := .t (.int .i64 σ.s), rd := true } := by
  rw [hS.s]; exact rsaved_ok H ρ.m ρ.c ρ.s ρ.pl ρ.tk
end
theorem FnOk.noOb {f : FuncId} {vs : List V} {s : S} {x : V} {r r' : Bool} {ob : List (Nat × AObj)} (h : FnOk P f vs s { v := x, ob := ob, rd := r }) (he : asets s.sto ob = s.sto) : FnOk P f vs s { v := x, rd := r' } := by
  refine ⟨h.1, fun Λ args h1 h2 h3 h4 => (h.2 Λ args h1 h2 h3 h4).mono fun e w' hp => ?_⟩
  obtain ⟨v, Λ', a1, a2, a3, a4, a5, a6⟩ := hp
  refine ⟨v, Λ', a1, a2, a3, a4, ?_, a6⟩
  show RelS Λ' ⟨s.sto, 0⟩
  have a5' : RelS Λ' ⟨asets s.sto ob, 0⟩ := a5
  rw [he] at a5'; exact a5'
theorem sim0 (m : Int) : Sim ⟨m, 0, 0, []⟩ ⟨m, [], [], 0, 0⟩ := by
  refine ⟨rfl, rfl, rfl, fun f => ?_, by simp, by simp⟩
  refine ⟨Nat.le_refl _, fun h => absurd rfl h, Nat.le_refl _, rfl, fun i p hi => ?_, rfl⟩
  have hi' : ([] : List Pl)[i]? = some p := hi
  simp at hi'
theorem lok0 {m : Int} (hm : 1 ≤ m ∧ m ≤ 1024) : LOk 0 ⟨m, 0, 0, []⟩ := ⟨by omega, hm, by simp, by simp, fun j q h => by simp at h⟩
/-- an element that is looked at under guards -/
theorem law_runs (H : Pr P) (m : Int) (l : List Sp) (hl : l.length ≤ 140737488355328) (ho : ∀ s, s ∈ l → s.rep.Ok) (hi64 : ∀ s, s ∈ l → -9223372036854775808 ≤ s.n ∧ s.n ≤ 9223372036854775807) : FnOk P 3 [.t (.int .i64 m), .t (.lst (l.map Sp.enc))] ⟨[], 0⟩ { v := .t (.bool true) } := by
  have hkn := knows_ok H
  by_cases hm : 1 ≤ m ∧ m ≤ 1024
  · refine FnOk.run H.i3 H.mixed rfl rfl ?_
    refine fR rfl ?_
    refine Mid.callR [] (new_abs H m hm.1 hm.2) rfl rfl rfl rfl (by repeat' (first | exact (rfl : stoBd _ [] = true) | refine stoBd_cons (Nat.le_of_ble_eq_true rfl) ?_ ?_ | exact (by first | rfl | exact V.bds_gE (gT_bds RP.enc _) _))) (by repeat' (first | exact trivial | refine And.intro ?_ ?_ | exact rfl | (refine (congrArg some (AObj.ren_gE ?_ _ _)).symm; intro _; rfl))) rfl (v' := .tup [.fpt 0 0 0, .t (.int .i64 0)]) rfl (ob' := [(0, .abs (JL ⟨m, 0, 0, []⟩))]) (by repeat' (first | exact (rfl : renOb _ [] = []) | refine renOb_cons rfl ?_ ?_ | exact rfl | (refine AObj.ren_gE ?_ _ _; intro _; rfl))) rfl rfl ?_
    refine fM rfl ?_
    refine Mid.callR [] (rnew_ok H m hm.1 hm.2) rfl rfl rfl rfl (by repeat' (first | exact (rfl : stoBd _ [] = true) | refine stoBd_cons (Nat.le_of_ble_eq_true rfl) ?_ ?_ | exact (by first | rfl | exact V.bds_gE (gT_bds RP.enc _) _))) (by repeat' (first | exact trivial | refine And.intro ?_ ?_ | exact rfl | (refine (congrArg some (AObj.ren_gE ?_ _ _)).symm; intro _; rfl))) rfl (v' := .tup [.ptr 1 0, .t (.int .i64 0)]) rfl (ob' := [(1, .cells [.t (.int .i64 m), .nils, .nils, .t (.int .i64 0), .t (.int .i64 0)])]) (by repeat' (first | exact (rfl : renOb _ [] = []) | refine renOb_cons rfl ?_ ?_ | exact rfl | (refine AObj.ren_gE ?_ _ _; intro _; rfl))) rfl rfl ?_
    refine fM rfl ?_
    refine Run.condF rfl rfl rfl ?_
    refine fR rfl ?_
    refine rList l (fun i (x : LS × RS × Int) => { env := [(1, .t (.lst (l.map Sp.enc))), (5, .fpt 0 0 0), (7, .ptr 1 0), (9, .t (.int .i64 x.2.2)), (10, .t (.int .i64 (i : Int)))], s := ⟨[(0, .abs (JL x.1)), (1, .cells [.t (.int .i64 x.2.1.m), .gsl 2 x.2.1.pl.length 0 x.2.1.pl.length 12, .own 3 2 (x.2.1.tk.map tE), .t (.int .i64 x.2.1.c), .t (.int .i64 x.2.1.s)]), (2, .gro x.2.1.pl.length (gE (gT RP.enc) x.2.1.pl)), (3, .arr x.2.1.tk.length)], 4⟩ }) (fun (r : List Sp) (i : Nat) (x : LS × RS × Int) => i ≤ 100 → LOk i x.1 ∧ Sim x.1 x.2.1 ∧ RB i x.2.1 ∧ 0 ≤ x.2.2 ∧ x.2.2 ≤ 1000) 2 (⟨m, 0, 0, []⟩, ⟨m, [], [], 0, 0⟩, 0) rfl (show 0 ≤ 100 → LOk 0 _ ∧ Sim _ _ ∧ RB 0 _ ∧ (0 : Int) ≤ 0 ∧ (0 : Int) ≤ 1000 from fun _ => ⟨lok0 hm, sim0 m, ⟨Nat.le_refl _, Nat.le_refl _⟩, Int.le_refl _, by decide⟩) rfl rfl rfl ?_ ?_ (hs := (by repeat' (first | exact trivial | refine And.intro ?_ ?_ | exact Or.inl ⟨(Nat.le_of_ble_eq_true rfl), _, rfl, AObj.leSame (by first | rfl | exact V.bds_gE (gT_bds RP.enc _) _)⟩ | exact Or.inl ⟨(Nat.le_of_ble_eq_true rfl), _, rfl, .cells (.cons .t (.cons (.nilGsl (Nat.le_of_ble_eq_true rfl)) (.cons (.nilOwn (Nat.le_of_ble_eq_true rfl) (Nat.le_of_ble_eq_true rfl)) (.cons .t (.cons .t .nil)))))⟩ | exact Or.inr ⟨Nat.le_of_ble_eq_true rfl, Nat.le_of_ble_eq_true rfl, rfl⟩)))
    · intro _ _
      refine fR rfl ?_
      refine lM rfl rfl rfl ?_
      refine fM rfl ?_
      refine Run.condF rfl rfl (by simp) ?_
      refine fR rfl ?_
      refine Mid.call (hkn) rfl rfl rfl rfl ?_
      refine fM rfl ?_
      refine Run.fin rfl (EndOk.go ?_); exact .t rfl
    · rintro i s r ⟨σ, ρ, sz⟩ h1 hi hd hinv ih
      dsimp only at hinv
      have hsk := ho s (List.mem_of_getElem? h1)
      have hsn := hi64 s (List.mem_of_getElem? h1)
      refine fR rfl ?_
      refine lM rfl rfl rfl ?_
      refine fM rfl ?_
      by_cases hi100 : i < 100
      · obtain ⟨hL, hS, hR, hz⟩ := hinv (by omega)
        refine Run.condT rfl rfl (by simp; omega) ?_
        refine fR rfl ?_
        refine Mid.elemMap rfl rfl rfl h1 rfl rfl ?_
        refine fM rfl ?_
        refine Mid.call (size_ok H s.rep hsk) rfl rfl rfl rfl ?_
        refine fM rfl ?_
        refine elG rfl rfl rfl rfl h1 rfl rfl ?_
        refine fM rfl ?_
        refine elG rfl rfl rfl rfl h1 rfl rfl ?_
        refine fM rfl ?_
        by_cases hbig : szV s.rep > 50 ∨ s.n > 100 ∨ s.n < -100
        · refine Run.condT rfl rfl (by simp; omega) ?_
          refine fR rfl ?_
          refine Mid.call (hkn) rfl rfl rfl rfl ?_
          refine fM rfl ?_
          refine Run.fin rfl (EndOk.go ?_); exact .t rfl
        · refine Run.condF rfl rfl (by simp; omega) ?_
          refine fR rfl ?_
          refine Mid.elemMap rfl rfl rfl h1 rfl rfl ?_
          refine fM rfl ?_
          obtain ⟨k1, k2, k3, k4⟩ := st_keeps hL hS hR (by omega) s hsk sz hz
          refine Mid.callR [1, 2, 3, 0] (step_all H hL hS hR s hsk sz hz (by omega)) rfl rfl rfl rfl (by repeat' (first | exact (rfl : stoBd _ [] = true) | refine stoBd_cons (Nat.le_of_ble_eq_true rfl) ?_ ?_ | exact (by first | rfl | exact V.bds_gE (gT_bds RP.enc _) _))) (by repeat' (first | exact trivial | refine And.intro ?_ ?_ | exact rfl | (refine (congrArg some (AObj.ren_gE ?_ _ _)).symm; intro _; rfl))) rfl (v' := .tup [.t (.bool true), .t (.int .i64 (stZ σ s sz))]) rfl (ob' := [(1, .cells [.t (.int .i64 (stR ρ s sz).m), .gsl 2 (stR ρ s sz).pl.length 0 (stR ρ s sz).pl.length 12, .own 3 2 ((stR ρ s sz).tk.map tE), .t (.int .i64 (stR ρ s sz).c), .t (.int .i64 (stR ρ s sz).s)]), (2, .gro (stR ρ s sz).pl.length (gE (gT RP.enc) (stR ρ s sz).pl)), (3, .arr (stR ρ s sz).tk.length), (0, .abs (JL (stS σ s sz)))]) (by repeat' (first | exact (rfl : renOb _ [] = []) | refine renOb_cons rfl ?_ ?_ | exact rfl | (refine AObj.ren_gE ?_ _ _; intro _; rfl))) rfl rfl ?_
          refine fM rfl ?_
          refine Mid.ungd rfl rfl rfl ?_
          refine Mid.callR [0] (FnOk.noOb (r' := true) (calls_abs H (stS σ s sz)) rfl) rfl rfl rfl rfl (by repeat' (first | exact (rfl : stoBd _ [] = true) | refine stoBd_cons (Nat.le_of_ble_eq_true rfl) ?_ ?_ | exact (by first | rfl | exact V.bds_gE (gT_bds RP.enc _) _))) (by repeat' (first | exact trivial | refine And.intro ?_ ?_ | exact rfl | (refine (congrArg some (AObj.ren_gE ?_ _ _)).symm; intro _; rfl))) rfl (v' := .t (.int .i64 (stS σ s sz).c)) rfl (ob' := []) (by repeat' (first | exact (rfl : renOb _ [] = []) | refine renOb_cons rfl ?_ ?_ | exact rfl | (refine AObj.ren_gE ?_ _ _; intro _; rfl))) rfl rfl ?_
          refine fM rfl ?_
          refine Mid.ungd rfl rfl rfl ?_
          refine Mid.callR [1, 2, 3] (rcalls_r H k2) rfl rfl rfl rfl (by repeat' (first | exact (rfl : stoBd _ [] = true) | refine stoBd_cons (Nat.le_of_ble_eq_true rfl) ?_ ?_ | exact (by first | rfl | exact V.bds_gE (gT_bds RP.enc _) _))) (by repeat' (first | exact trivial | refine And.intro ?_ ?_ | exact rfl | (refine (congrArg some (AObj.ren_gE ?_ _ _)).symm; intro _; rfl))) rfl (v' := .t (.int .i64 (stS σ s sz).c)) rfl (ob' := []) (by repeat' (first | exact (rfl : renOb _ [] = []) | refine renOb_cons rfl ?_ ?_ | exact rfl | (refine AObj.ren_gE ?_ _ _; intro _; rfl))) rfl rfl ?_
          refine fM rfl ?_
          rw [show ((stS σ s sz).c != (stS σ s sz).c) = false by simp]
          skip
          refine Mid.ungd rfl rfl rfl ?_
          refine Mid.callR [0] (FnOk.noOb (r' := true) (saved_abs H (stS σ s sz)) rfl) rfl rfl rfl rfl (by repeat' (first | exact (rfl : stoBd _ [] = true) | refine stoBd_cons (Nat.le_of_ble_eq_true rfl) ?_ ?_ | exact (by first | rfl | exact V.bds_gE (gT_bds RP.enc _) _))) (by repeat' (first | exact trivial | refine And.intro ?_ ?_ | exact rfl | (refine (congrArg some (AObj.ren_gE ?_ _ _)).symm; intro _; rfl))) rfl (v' := .t (.int .i64 (stS σ s sz).s)) rfl (ob' := []) (by repeat' (first | exact (rfl : renOb _ [] = []) | refine renOb_cons rfl ?_ ?_ | exact rfl | (refine AObj.ren_gE ?_ _ _; intro _; rfl))) rfl rfl ?_
          refine fM rfl ?_
          refine Mid.ungd rfl rfl rfl ?_
          refine Mid.callR [1, 2, 3] (rsaved_r H k2) rfl rfl rfl rfl (by repeat' (first | exact (rfl : stoBd _ [] = true) | refine stoBd_cons (Nat.le_of_ble_eq_true rfl) ?_ ?_ | exact (by first | rfl | exact V.bds_gE (gT_bds RP.enc _) _))) (by repeat' (first | exact trivial | refine And.intro ?_ ?_ | exact rfl | (refine (congrArg some (AObj.ren_gE ?_ _ _)).symm; intro _; rfl))) rfl (v' := .t (.int .i64 (stS σ s sz).s)) rfl (ob' := []) (by repeat' (first | exact (rfl : renOb _ [] = []) | refine renOb_cons rfl ?_ ?_ | exact rfl | (refine AObj.ren_gE ?_ _ _; intro _; rfl))) rfl rfl ?_
          refine fM rfl ?_
          refine Run.condF rfl rfl (by simp) ?_
          refine fR rfl ?_
          refine aL rfl rfl rfl rfl rfl ?_
          refine fM rfl ?_
          exact rWeak 4 rfl (ih (stS σ s sz, stR ρ s sz, stZ σ s sz) (fun _ => ⟨k1, k2, k3, k4⟩)) rfl rfl rfl (he := (by repeat' (first | exact trivial | exact LeX.t | exact LeX.top | exact LeX.nilOwn (Nat.le_of_ble_eq_true rfl) (Nat.le_of_ble_eq_true rfl) | exact LeX.ownT | exact LeX.nilT | exact LeX.same rfl | exact LeX.tEq (by simp) | exact LeX.ownEq (by simp) (Nat.le_of_ble_eq_true rfl) | exact LeX.tEq (by congr 1 <;> omega) | exact Or.inr ⟨Nat.le_of_ble_eq_true rfl, Nat.le_of_ble_eq_true rfl, rfl⟩ | refine Or.inl ⟨Nat.le_of_ble_eq_true rfl, _, rfl, ?_⟩ | refine LeO.cells ?_ | exact LeO.arr rfl | exact LeO.arr (by simp) | exact LeO.mE (by first | rfl | simp) (by first | exact Or.inl rfl | exact Or.inr rfl) | exact LeO.cE (by first | rfl | simp) | exact LeXs.cE (by first | rfl | simp) | refine LeO.map (by first | rfl | simp) ?_ (by first | exact Or.inl rfl | exact Or.inr rfl) | exact LeO.iter (by first | rfl | simp) (Nat.le_of_ble_eq_true rfl) | refine LeXs.cons ?_ ?_ | exact LeXs.nil | refine And.intro ?_ ?_))) (hs := (by repeat' (first | exact trivial | refine And.intro ?_ ?_ | exact Or.inl ⟨(Nat.le_of_ble_eq_true rfl), _, rfl, AObj.leSame (by first | rfl | exact V.bds_gE (gT_bds RP.enc _) _)⟩ | exact Or.inr ⟨Nat.le_of_ble_eq_true rfl, Nat.le_of_ble_eq_true rfl, rfl⟩)))
      · refine Run.condF rfl rfl (by simp; omega) ?_
        refine fR rfl ?_
        refine Mid.call (hkn) rfl rfl rfl rfl ?_
        refine fM rfl ?_
        refine Run.fin rfl (EndOk.go ?_); exact .t rfl
  · have hb : m < 1 ∨ 1024 < m := by omega
    refine FnOk.run H.i3 H.mixed rfl rfl ?_
    refine fR rfl ?_
    refine Mid.call (new_bad H m hb) rfl rfl rfl rfl ?_
    refine fM rfl ?_
    refine Mid.call (rnew_bad H m hb) rfl rfl rfl rfl ?_
    refine fM rfl ?_
    refine Run.condF rfl rfl rfl ?_
    refine fR rfl ?_
    refine rList l (fun i (z : Int) => { env := [(1, .t (.lst (l.map Sp.enc))), (5, .t .nilp), (7, .t .nilp), (9, .t (.int .i64 z)), (10, .t (.int .i64 (i : Int)))], s := ⟨[], 0⟩ }) (fun r i z => 0 ≤ z ∧ z ≤ 1000) 0 0 rfl ⟨Int.le_refl _, by decide⟩ rfl rfl rfl ?_ ?_
    · intro _ _
      refine fR rfl ?_
      refine lM rfl rfl rfl ?_
      refine fM rfl ?_
      refine Run.condF rfl rfl (by simp) ?_
      refine fR rfl ?_
      refine Mid.call (hkn) rfl rfl rfl rfl ?_
      refine fM rfl ?_
      refine Run.fin rfl (EndOk.go ?_); exact .t rfl
    · rintro i s r z h1 hi hd hz ih
      have hsk := ho s (List.mem_of_getElem? h1)
      have hsn := hi64 s (List.mem_of_getElem? h1)
      refine fR rfl ?_
      refine lM rfl rfl rfl ?_
      refine fM rfl ?_
      by_cases hi100 : i < 100
      · refine Run.condT rfl rfl (by simp; omega) ?_
        refine fR rfl ?_
        refine Mid.elemMap rfl rfl rfl h1 rfl rfl ?_
        refine fM rfl ?_
        refine Mid.call (size_ok H s.rep hsk) rfl rfl rfl rfl ?_
        refine fM rfl ?_
        refine elG rfl rfl rfl rfl h1 rfl rfl ?_
        refine fM rfl ?_
        refine elG rfl rfl rfl rfl h1 rfl rfl ?_
        refine fM rfl ?_
        by_cases hbig : szV s.rep > 50 ∨ s.n > 100 ∨ s.n < -100
        · refine Run.condT rfl rfl (by simp; omega) ?_
          refine fR rfl ?_
          refine Mid.call (hkn) rfl rfl rfl rfl ?_
          refine fM rfl ?_
          refine Run.fin rfl (EndOk.go ?_); exact .t rfl
        · refine Run.condF rfl rfl (by simp; omega) ?_
          refine fR rfl ?_
          refine Mid.elemMap rfl rfl rfl h1 rfl rfl ?_
          refine fM rfl ?_
          refine Mid.call (stepN H s hsk z hz (by omega)) rfl rfl rfl rfl ?_
          refine fM rfl ?_
          refine caG rfl rfl (fun hg => ⟨_, rfl, calls_nil H, rfl⟩) rfl rfl ?_
          refine fM rfl ?_
          refine caG rfl rfl (fun hg => ⟨_, rfl, rcalls_nil H, rfl⟩) rfl rfl ?_
          refine fM rfl ?_
          refine caG rfl rfl (fun hg => ⟨_, rfl, saved_nil H, rfl⟩) rfl rfl ?_
          refine fM rfl ?_
          refine caG rfl rfl (fun hg => ⟨_, rfl, rsaved_nil H, rfl⟩) rfl rfl ?_
          refine fM rfl ?_
          refine Run.condF rfl rfl rfl ?_
          refine fR rfl ?_
          refine aL rfl rfl rfl rfl rfl ?_
          refine fM rfl ?_
          exact rWeak 0 rfl (ih (if s.k = 1 then 0 else z) (by split <;> omega)) rfl rfl rfl
      · refine Run.condF rfl rfl (by simp; omega) ?_
        refine fR rfl ?_
        refine Mid.call (hkn) rfl rfl rfl rfl ?_
        refine fM rfl ?_
        refine Run.fin rfl (EndOk.go ?_); exact .t rfl
end Go.GB.C35


/-
  L35N: chapter 35: shapes of the laws' arguments.
-/
namespace Go.GB.C35
open Go.GB
set_option linter.unusedSimpArgs false
set_option linter.unusedVariables false
theorem spV_ok {P : Program} {vt : TypeId} (hb : P.bytesOf vt = 80) (hs : shOf P (spV vt) 6 vt = some valSh) :
    ∀ e i n xs, spV vt e = some i → xs.length * P.bytesOf e ≤ reachBytes → xs.length ≤ maxLen → (∀ c ∈ xs, WT P n e c) → YA i (.lst xs) := by
  have hv := val_wt hb hs
  intro e i k xs he hr hl hc
  have := reach_le
  unfold spV at he
  split at he
  · rename_i e1; subst e1
    simp only [Option.some.injEq] at he; subst he
    obtain ⟨l, rfl, h3⟩ := choose_map (f := Val.enc) (Q := Val.Ok) xs fun c hcm => hv k c (hc c hcm)
    rw [hb] at hr
    exact ⟨l, rfl, by unfold B47; simp at hr; omega, h3⟩
  · cases he
theorem val_0 {c : List T} (h : Sh.oks YA valSh c) : ∃ v : Val, c = v.cs ∧ v.Ok := by
  obtain ⟨v, rfl, h1⟩ := val_sh0 h
  exact ⟨v, Val.enc_eq v, h1⟩
theorem int_0 {c : List T} (h : Sh.oks YA [.int .i64] c) : ∃ n : Int, c = [.int .i64 n] ∧ -9223372036854775808 ≤ n ∧ n ≤ 9223372036854775807 := by
  obtain ⟨x, c, rfl, ⟨n, rfl, hw⟩, g1⟩ := Sh.oks_cons h
  obtain rfl := Sh.oks_nil g1
  refine ⟨n, rfl, ?_⟩
  have h1 : IntKind.i64.min = -9223372036854775808 := by decide
  have h2 : IntKind.i64.max = 9223372036854775807 := by decide
  simp [Lit.wf, h1, h2] at hw
  omega
end Go.GB.C35


/-
  L37N: chapter 35: the shape of the law's calls.
-/
namespace Go.GB.C35
open Go.GB
set_option linter.unusedSimpArgs false
set_option linter.unusedVariables false
theorem steps_0 {c : List T} (h : Sh.oks YA [.lst 104 (.int .i64 :: .int .i64 :: .int .i64 :: valSh)] c) : ∃ l : List Sp, c = [.lst (l.map Sp.enc)] ∧ l.length ≤ 140737488355328 ∧ (∀ s, s ∈ l → s.rep.Ok) ∧ ∀ s, s ∈ l → -9223372036854775808 ≤ s.n ∧ s.n ≤ 9223372036854775807 := by
  obtain ⟨x, c, rfl, ⟨xs, rfl, h1, h2, h3⟩, g1⟩ := Sh.oks_cons h
  obtain rfl := Sh.oks_nil g1
  have hr := reach_le
  have h4 : IntKind.i64.min = -9223372036854775808 := by decide
  have h5 : IntKind.i64.max = 9223372036854775807 := by decide
  obtain ⟨l, rfl, hl⟩ := choose_map (f := Sp.enc) (Q := fun s => s.rep.Ok ∧ -9223372036854775808 ≤ s.n ∧ s.n ≤ 9223372036854775807) xs fun c hc => by
    obtain ⟨x1, c1, rfl, ⟨k, rfl, w1⟩, a1⟩ := Sh.oks_cons (h3 c hc)
    obtain ⟨x2, c2, rfl, ⟨f, rfl, w2⟩, a2⟩ := Sh.oks_cons a1
    obtain ⟨x3, c3, rfl, ⟨n, rfl, w3⟩, a3⟩ := Sh.oks_cons a2
    obtain ⟨v, rfl, hv⟩ := val_0 a3
    simp [Lit.wf, h4, h5] at w3
    exact ⟨⟨k, f, n, v⟩, rfl, hv, by simp only; omega, by simp only; omega⟩
  refine ⟨l, rfl, ?_, fun s hs => (hl s hs).1, fun s hs => (hl s hs).2⟩
  simp at h1
  have : reachBytes ≤ 140737488355328 := by unfold B47 at hr; exact hr
  omega
end Go.GB.C35


/-
  GbZH: a law's statement with the bound on its arguments' sizes.
-/
namespace Go.GB
open Go.RowKit Go.WideShapes Go.ChangeShapes
theorem handed {H : Type} {enc : TypeId × Value → H} {a : Assume} {C : Checked} {os : Os} {f : FuncId} {fn : Func} {s : ChangeSpec} {conds : List PathCond} {apart fresh handsOn again : Bool}
    (own : ownKnob C.prog.godebug = none) (started : os.Started) (noInit : C.prog.inits.idxOf? f = none) (hfn : C.prog.funcs[f]? = some fn)
    (witness : ∃ (w : World) (tape : Tape) (i : Go.Input), w.os = os ∧ (w.forCall tape i).Shaped C.prog ∧ i.vars = [] ∧ Go.Input.okWide C.prog (w.forCall tape i) .any w.heap.size f i ∧
      s.pre6 enc C.prog fn conds apart (w.forCall tape i).memory i.args ∧ a.holds C.prog (lone (Frame.enter C.prog f i.args .normal) [] (w.forCall tape i)))
    (contract : ∀ (W : World) (base : Nat) (args : Array Value) (ds gs : List (DataW H)) (before : List MemPlace),
      (∀ (j : Nat) t v, fn.params[j]? = some t → args[j]? = some v → Value.okWide C.prog W .any base t v) →
      DataW.Whole enc C.prog fn.params.toList s.vars apart W args.toList ds gs before →
      (DataW.weightsEach C.prog (fn.params.toList ++ s.plain.varTypes C.prog) (ds ++ gs)).all (· ≤ reachBytes) = true →
      Calls C.prog f args W fun e W' => ∃ v, e = .returned v ∧ s.post enc C.prog fn apart fresh handsOn again W args v W') :
    ReturnsInHanded a C os f .any (s.pre6 enc C.prog fn conds apart) (s.post enc C.prog fn apart fresh handsOn again) := by
  have e : (fun (w : World) (args : Array Value) => (s.pre enc C.prog fn conds apart w args ∧ True) ∧ sizedMet enc C.prog fn (OpenSpec.ofChange s) apart w args) = s.pre6 enc C.prog fn conds apart := by
    funext w args; simp only [and_true]; rfl
  rw [← e]
  obtain ⟨w, tape, i, h1, h2, h3, h4, h5, h6⟩ := witness
  exact returnsInHanded_of_change_and (X := fun _ _ => True) (fun _ _ _ _ _ => trivial) own started noInit hfn ⟨w, tape, i, h1, h2, h3, h4, ⟨⟨h5.1, trivial⟩, h5.2⟩, h6⟩ (fun W base args ds gs before a1 a2 _ a4 _ _ => contract W base args ds gs before a1 a2 a4)
end Go.GB

