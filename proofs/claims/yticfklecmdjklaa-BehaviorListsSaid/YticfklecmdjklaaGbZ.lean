/-
  GbZ: a driver for walks: code as a stack of items, operations one by one, each computed by unfolding.
-/
import Derived.Test.YticfklecmdjklaaGbY
namespace Go.GB
set_option linter.unusedVariables false

def forceN {ρ : Type} (n : Nat) (K : Nat → ρ) : ρ :=
  match n with
  | 0 => K 0 | 1 => K 1 | 2 => K 2 | 3 => K 3 | 4 => K 4 | 5 => K 5 | 6 => K 6 | 7 => K 7 | 8 => K 8 | 9 => K 9 | 10 => K 10 | 11 => K 11 | 12 => K 12 | 13 => K 13 | 14 => K 14 | 15 => K 15
  | 16 => K 16 | 17 => K 17 | 18 => K 18 | 19 => K 19 | 20 => K 20 | 21 => K 21 | 22 => K 22 | 23 => K 23 | 24 => K 24 | 25 => K 25 | 26 => K 26 | 27 => K 27 | 28 => K 28 | 29 => K 29 | 30 => K 30 | n => K n
theorem forceN_eq {ρ : Type} (n : Nat) (K : Nat → ρ) : forceN n K = K n := by
  unfold forceN; split <;> rfl

inductive It where
  | c (a : ACode)
  | blk (id : Nat)
  | lp (a : ACode)

section
variable {P : Program} {n m : Nat} {R : St → Prop}

def contQ (P : Program) (n m : Nat) (R : St → Prop) : List It → AExit → St → Prop
  | [], .exit _, _ => False
  | [], _, st => R st
  | .c a :: k, .normal, st => Sat P n m a st (contQ P n m R k)
  | .c _ :: k, e, st => contQ P n m R k e st
  | .blk id :: k, .exit id', st => if id' = id then contQ P n m R k .normal st else contQ P n m R k (.exit id') st
  | .blk _ :: k, e, st => contQ P n m R k e st
  | .lp a :: k, .normal, st => SatL P n m a st (contQ P n m R k)
  | .lp _ :: k, e, st => contQ P n m R k e st

/-- the items from here on, ending in R -/
def Run (P : Program) (n m : Nat) (R : St → Prop) (k : List It) (st : St) : Prop := contQ P n m R k .normal st

theorem contQ_ret : ∀ (k : List It) (st : St), contQ P n m R k .ret st = R st
  | [], st => rfl
  | .c a :: k, st => by simp only [contQ]; exact contQ_ret k st
  | .blk a :: k, st => by simp only [contQ]; exact contQ_ret k st
  | .lp a :: k, st => by simp only [contQ]; exact contQ_ret k st

/-- behind an exit -/
def popTo (id : Nat) : List It → Option (List It)
  | [] => none
  | .blk i :: k => bif Nat.beq id i then some k else popTo id k
  | .c _ :: k => popTo id k
  | .lp _ :: k => popTo id k

theorem popTo_ok {id : Nat} {st : St} : ∀ {k k' : List It}, popTo id k = some k' → Run P n m R k' st → contQ P n m R k (.exit id) st
  | .c _ :: k, k', h, hr => by simp only [contQ]; exact popTo_ok (by simpa [popTo] using h) hr
  | .lp _ :: k, k', h, hr => by simp only [contQ]; exact popTo_ok (by simpa [popTo] using h) hr
  | .blk i :: k, k', h, hr => by
    simp only [popTo] at h
    simp only [contQ]
    by_cases e : id = i
    · subst e
      simp at h; subst h
      simp only [if_true]; exact hr
    · have hb : Nat.beq id i = false := by
        cases hb : Nat.beq id i with
        | false => rfl
        | true => exact absurd (Nat.eq_of_beq_eq_true hb) e
      rw [hb] at h
      simp only [e, if_false]
      exact popTo_ok h hr

/-- control that needs no data -/
def advK : Nat → List It → List It
  | 0, k => k
  | f + 1, .c (.seq a b) :: k => advK f (.c a :: .c b :: k)
  | f + 1, .c (.block id a) :: k => advK f (.c a :: .blk id :: k)
  | f + 1, .c .skip :: k => advK f k
  | f + 1, .blk _ :: k => advK f k
  | _ + 1, .c .ret :: _ => []
  | f + 1, .c (.exit id) :: k => match popTo id k with | some k' => advK f k' | none => .c (.exit id) :: k
  | _ + 1, k => k

theorem Run.adv : ∀ (f : Nat) {k k' : List It} {st : St}, advK f k = k' → Run P n m R k' st → Run P n m R k st
  | 0, k, k', st, h, hr => by simp only [Go.GB.advK] at h; subst h; exact hr
  | f + 1, [], k', st, h, hr => by simp only [Go.GB.advK] at h; subst h; exact hr
  | f + 1, .lp a :: k, k', st, h, hr => by simp only [Go.GB.advK] at h; subst h; exact hr
  | f + 1, .blk id :: k, k', st, h, hr => by
    simp only [Go.GB.advK] at h
    have := Run.adv f h hr
    simpa only [Run, contQ] using this
  | f + 1, .c a :: k, k', st, h, hr => by
    cases a with
    | seq a b =>
      simp only [Go.GB.advK] at h
      have := Run.adv f h hr
      simp only [Run, contQ] at this ⊢
      refine Sat.seq (this.mono fun e st' he => ?_)
      cases e with
      | normal => simpa only [contQ, thenA] using he
      | exit id => simpa only [contQ, thenA] using he
      | ret => simpa only [contQ, thenA] using he
    | block id a =>
      simp only [Go.GB.advK] at h
      have := Run.adv f h hr
      simp only [Run, contQ] at this ⊢
      refine Sat.block (this.mono fun e st' he => ?_)
      cases e with
      | normal => simpa only [contQ, inBlk] using he
      | exit id => simpa only [contQ, inBlk] using he
      | ret => simpa only [contQ, inBlk] using he
    | skip =>
      simp only [Go.GB.advK] at h
      have := Run.adv f h hr
      exact Sat.skip this
    | ret =>
      simp only [Go.GB.advK] at h; subst h
      refine Sat.ret ?_
      rw [contQ_ret]; exact hr
    | exit id =>
      simp only [Go.GB.advK] at h
      cases hp : popTo id k with
      | none => rw [hp] at h; subst h; exact hr
      | some k2 =>
        rw [hp] at h
        exact Sat.exit (popTo_ok hp (Run.adv f h hr))
    | region d o a l => simp only [Go.GB.advK] at h; subst h; exact hr
    | cond z a b => simp only [Go.GB.advK] at h; subst h; exact hr
    | loop c => simp only [Go.GB.advK] at h; subst h; exact hr

/-- a region's rest: the operations that are left, the flags of those that are done (the last first) -/
def Mid (P : Program) (n m : Nat) (R : St → Prop) (draw : Bool) (all : List AO) (after : List (List Nat)) (live : List Nat) (k : List It) (b : Nat) (fl : List (Bool × Bool)) (ops : List AO) (st : St) : Prop :=
  evR P b st ops fl.reverse fun b st' fl => regOk draw all after fl ∧ Run P n m R k (regSt live b st')

theorem Run.region {b : Nat} {k k' : List It} {draw : Bool} {ops : List AO} {after : List (List Nat)} {live : List Nat} {st : St} (hk : advK 200 k = .c (.region draw ops after live) :: k') (hb : forceN st.s.nxt some = some b) (h : Mid P n m R draw ops after live k' b [] ops st) : Run P n m R k st :=
  Run.adv 200 hk (Sat.region (by rw [forceN_eq] at hb; simp at hb; subst hb; exact h))

theorem Run.cond {k k' : List It} {z : Ar} {a b : ACode} {st : St} {t : Bool} (hk : advK 200 k = .c (.cond z a b) :: k') (hz : z.v st = .t (.bool t)) (h1 : t = true → Run P n m R (.c a :: k') st) (h2 : t = false → Run P n m R (.c b :: k') st) : Run P n m R k st :=
  Run.adv 200 hk (Sat.ite hz h1 h2)
theorem Run.condT {k k' : List It} {z : Ar} {a b : ACode} {st : St} {t : Bool} (hk : advK 200 k = .c (.cond z a b) :: k') (hz : z.v st = .t (.bool t)) (ht : t = true) (h1 : Run P n m R (.c a :: k') st) : Run P n m R k st :=
  Run.adv 200 hk (Sat.ite hz (fun _ => h1) (fun h => by rw [ht] at h; cases h))
theorem Run.condF {k k' : List It} {z : Ar} {a b : ACode} {st : St} {t : Bool} (hk : advK 200 k = .c (.cond z a b) :: k') (hz : z.v st = .t (.bool t)) (ht : t = false) (h1 : Run P n m R (.c b :: k') st) : Run P n m R k st :=
  Run.adv 200 hk (Sat.ite hz (fun h => by rw [ht] at h; cases h) (fun _ => h1))
theorem Run.fin {k : List It} {st : St} (hk : advK 200 k = []) (h : R st) : Run P n m R k st := Run.adv 200 hk h

theorem Run.loop {k k' : List It} {c : ACode} {st : St} (hk : advK 200 k = .c (.loop c) :: k') (h : Run P n m R (.lp c :: k') st) : Run P n m R k st :=
  Run.adv 200 hk (Sat.loop h)
theorem Run.unroll {k : List It} {c : ACode} {st : St} (h : Run P n m R (.c c :: .lp c :: k) st) : Run P n m R (.lp c :: k) st := by
  simp only [Run, contQ] at h ⊢
  refine SatL.unroll (Sat.mono h fun e st' he => ?_)
  cases e with
  | normal => simpa only [contQ, thenA] using he
  | exit id => simpa only [contQ, thenA] using he
  | ret => simpa only [contQ, thenA] using he

/-- Knowing less at a loop's head; j names are kept. -/
theorem Run.weak {k k' : List It} {c : ACode} {st st' : St} (j : Nat) (hk : advK 200 k = .lp c :: k') (h : Run P n m R (.lp c :: k') st') (h1 : Nat.ble m j = true) (h2 : Nat.ble j st.s.nxt = true) (h3 : Nat.ble j st'.s.nxt = true) (he : LeE j st'.s.nxt st.env st'.env) (hs : LeS j st'.s.nxt st.s.sto st'.s.sto) : Run P n m R k st :=
  Run.adv 200 hk (SatL.weak j h (Nat.le_of_ble_eq_true h1) (Nat.le_of_ble_eq_true h2) (Nat.le_of_ble_eq_true h3) he hs)
/-- Knowing less ahead of code; j names are kept. -/
theorem Run.weakC {k k' : List It} {c : ACode} {st st' : St} (j : Nat) (hk : advK 200 k = .c c :: k') (h : Run P n m R (.c c :: k') st') (h1 : Nat.ble m j = true) (h2 : Nat.ble j st.s.nxt = true) (h3 : Nat.ble j st'.s.nxt = true) (he : LeE j st'.s.nxt st.env st'.env) (hs : LeS j st'.s.nxt st.s.sto st'.s.sto) : Run P n m R k st :=
  Run.adv 200 hk (Sat.weak j h (Nat.le_of_ble_eq_true h1) (Nat.le_of_ble_eq_true h2) (Nat.le_of_ble_eq_true h3) he hs)

def V.headK {ρ : Type} (v : V) (K : V → ρ) : ρ :=
  match v with
  | .agg cs => K (.agg cs)
  | .tup cs => K (.tup cs)
  | .t x => K (.t x)
  | .nils => K .nils
  | .own k sz xs => K (.own k sz xs)
  | .slc k o l s => K (.slc k o l s)
  | .ptr k o => K (.ptr k o)
  | .mp k => K (.mp k)
  | .fn f cs => K (.fn f cs)
  | .gd c x => K (.gd c x)
  | .top => K .top
theorem V.headK_eq {ρ : Type} (v : V) (K : V → ρ) : v.headK K = K v := by
  cases v <;> rfl
def forceL {ρ : Type} : List V → (List V → ρ) → ρ
  | [], K => K []
  | x :: r, K => x.headK fun x' => forceL r fun r' => K (x' :: r')
theorem forceL_eq {ρ : Type} : ∀ (l : List V) (K : List V → ρ), forceL l K = K l
  | [], K => rfl
  | x :: r, K => by simp only [forceL, V.headK_eq]; exact forceL_eq r _

def V.force {ρ : Type} (v : V) (K : V → ρ) : ρ :=
  match v with
  | .agg cs => forceL cs fun cs' => K (.agg cs')
  | .tup cs => forceL cs fun cs' => K (.tup cs')
  | .t x => K (.t x)
  | .nils => K .nils
  | .own k sz xs => K (.own k sz xs)
  | .slc k o l s => K (.slc k o l s)
  | .ptr k o => K (.ptr k o)
  | .mp k => K (.mp k)
  | .fn f cs => K (.fn f cs)
  | .gd c x => K (.gd c x)
  | .top => K .top
theorem V.force_eq {ρ : Type} (v : V) (K : V → ρ) : v.force K = K v := by
  cases v <;> simp only [V.force, forceL_eq]

def entryF {ρ : Type} : Nat → List V → (List (Nat × V) → ρ) → ρ
  | _, [], K => K []
  | i, x :: r, K => x.force fun x' => forceN (i + 1) fun j => entryF j r fun e => K ((i, x') :: e)
theorem entryF_eq {ρ : Type} : ∀ (vs : List V) (i : Nat) (K : List (Nat × V) → ρ), entryF i vs K = K (entryE i vs)
  | [], i, K => rfl
  | x :: r, i, K => by simp only [entryF, V.force_eq, forceN_eq, entryF_eq r, entryE]
/-- A function by a walk. -/
theorem FnOk.run {f : FuncId} {n : Nat} {ac : ACode} {rs : List ARes} {vs : List V} {s : S} {out : Out} (hi : fnInfo P f = some (n, ac.bare, rs)) (hm : P.follows .mixedOrders = true) (hn : Nat.ble vs.length n = true)
    {e : List (Nat × V)} (he : entryF 0 vs some = some e) (h : Run P n s.nxt (EndOk s out rs .ret) [.c ac] { env := e, s := s }) : FnOk P f vs s out := by
  rw [entryF_eq] at he
  simp at he; subst he
  refine FnOk.of_sat hi hm (Nat.le_of_ble_eq_true hn) (Sat.mono h fun e st he => ?_)
  cases e with
  | normal => exact he
  | exit id => exact he.elim
  | ret => exact he

/- ---------- operations ---------- -/

def asetK {α ρ : Type} : List (Nat × α) → Nat → α → (List (Nat × α) → ρ) → ρ
  | [], d, v, K => K [(d, v)]
  | (k, x) :: r, d, v, K => bif Nat.beq k d then K ((k, v) :: r) else asetK r d v fun r' => K ((k, x) :: r')

theorem asetK_eq {α ρ : Type} : ∀ (e : List (Nat × α)) (d : Nat) (v : α) (K : List (Nat × α) → ρ), asetK e d v K = K (aset e d v)
  | [], d, v, K => rfl
  | (k, x) :: r, d, v, K => by
    simp only [asetK, aset]
    by_cases e : k = d
    · subst e; simp
    · have hb : Nat.beq k d = false := by
        cases hb : Nat.beq k d with
        | false => rfl
        | true => exact absurd (Nat.eq_of_beq_eq_true hb) e
      simp only [hb, cond_false, e, if_false]
      exact asetK_eq r d v _

def keepK {ρ : Type} (live : List Nat) : List (Nat × V) → (List (Nat × V) → ρ) → ρ
  | [], K => K []
  | (t, x) :: r, K => bif live.any (Nat.beq t) then keepK live r fun r' => K ((t, x) :: r') else keepK live r K

theorem any_beq (live : List Nat) (t : Nat) : live.any (Nat.beq t) = live.contains t := by
  induction live with
  | nil => rfl
  | cons a r ih =>
    simp only [List.any_cons, List.contains_cons, ih]
    congr 1
    by_cases e : t = a
    · subst e; simp
    · have hb : Nat.beq t a = false := by
        cases hb : Nat.beq t a with
        | false => rfl
        | true => exact absurd (Nat.eq_of_beq_eq_true hb) e
      simp [hb, e]

theorem keepK_eq {ρ : Type} (live : List Nat) : ∀ (e : List (Nat × V)) (K : List (Nat × V) → ρ), keepK live e K = K (keepE live e)
  | [], K => rfl
  | (t, x) :: r, K => by
    simp only [keepK, keepE, any_beq]
    cases h : live.contains t <;> simp [keepK_eq live r]

def setEnv {ρ : Type} (st : St) (d : Option Nat) (v : V) (K : List (Nat × V) → ρ) : ρ :=
  match d with
  | some d => asetK st.env d v K
  | none => K st.env
theorem setEnv_eq {ρ : Type} (st : St) (d : Option Nat) (v : V) (K : List (Nat × V) → ρ) : setEnv st d v K = K (match d with | some d => aset st.env d v | none => st.env) := by
  cases d <;> simp only [setEnv, asetK_eq]

def forceB {ρ : Type} (b : Bool) (K : Bool → ρ) : ρ := match b with | true => K true | false => K false
theorem forceB_eq {ρ : Type} (b : Bool) (K : Bool → ρ) : forceB b K = K b := by cases b <;> rfl

/-- a state of that store -/
def St.forceS {ρ : Type} (st : St) (e : List (Nat × V)) (K : St → ρ) : ρ := match st with | ⟨_, ⟨sto, nx⟩⟩ => K ⟨e, ⟨sto, nx⟩⟩
theorem St.forceS_eq {ρ : Type} (st : St) (e : List (Nat × V)) (K : St → ρ) : st.forceS e K = K ⟨e, st.s⟩ := rfl

/-- 'a && b', 'a || b' by their names -/
def evalP (gc : Bool) (st : St) (op : AOp) : Option (V × List Bool) :=
  match op with
  | .pick c (.c (.t (.bool true))) b =>
    match rd gc st c with
    | (.t (.bool cb), p1) =>
      match rd (gc && !cb) st b with
      | (.t (.bool xb), p3) => some (.t (.bool (cb || xb)), p1 ++ ([] ++ p3))
      | _ => evalE gc st op
    | _ => evalE gc st op
  | .pick c a (.c (.t (.bool false))) =>
    match rd gc st c with
    | (.t (.bool cb), p1) =>
      match rd (gc && cb) st a with
      | (.t (.bool xa), p2) => some (.t (.bool (cb && xa)), p1 ++ (p2 ++ []))
      | _ => evalE gc st op
    | _ => evalE gc st op
  | .eqb true x y =>
    match rd gc st x with
    | (.t (.bool a), p1) =>
      match rd gc st y with
      | (.t (.bool b), p2) => some (.t (.bool (!(a == b))), p1 ++ p2)
      | _ => evalE gc st op
    | _ => evalE gc st op
  | .eqb false x y =>
    match rd gc st x with
    | (.t (.bool a), p1) =>
      match rd gc st y with
      | (.t (.bool b), p2) => some (.t (.bool (a == b)), p1 ++ p2)
      | _ => evalE gc st op
    | _ => evalE gc st op
  | op => evalE gc st op

theorem evalP_eq (gc : Bool) (st : St) (op : AOp) : evalP gc st op = evalE gc st op := by
  unfold evalP
  split
  · rename_i c b
    split
    · rename_i cb p1 hc
      split
      · rename_i xb p3 hb
        simp only [evalE, hc, hb]
        simp only [rd, Ar.v, V.un]
        cases cb <;> rfl
      · rfl
    · rfl
  · rename_i c a _
    split
    · rename_i cb p1 hc
      split
      · rename_i xa p2 ha
        simp only [evalE, hc, ha]
        simp only [rd, Ar.v, V.un]
        cases cb <;> rfl
      · rfl
    · rfl
  · split
    · rename_i h1
      split
      · rename_i h2
        simp [evalE, h1, h2]
      · rfl
    · rfl
  · split
    · rename_i h1
      split
      · rename_i h2
        simp [evalE, h1, h2]
      · rfl
    · rfl
  · rfl

theorem grd1 (a : Bool) : (!a || (!a || a)) = true := by cases a <;> rfl
theorem grd2 (a : Bool) : (!a || true) = true := by cases a <;> rfl
theorem grd3 (a b : Bool) : (!a || (!(a && b) || b)) = true := by cases a <;> cases b <;> rfl
theorem grd4 (a b : Bool) : (!a || (!(a && b) || (a && b))) = true := by cases a <;> cases b <;> rfl

def stepP (st : St) (d : Option Nat) (op : AOp) : Option (List Bool × St × Bool) :=
  match evalP true st op with
  | some (v, ps) => v.force fun v' => setEnv st d v' fun e => forceB (looksE st op) fun l => st.forceS e fun st' => some (ps, st', l)
  | none => none

theorem stepP_eq {st st' : St} {d : Option Nat} {op : AOp} {ps : List Bool} {l : Bool} (h : stepP st d op = some (ps, st', l)) :
    ∃ v, evalE true st op = some (v, ps) ∧ st' = st.app d { v := v, rd := l } ∧ looksE st op = l := by
  unfold stepP at h
  rw [evalP_eq] at h
  split at h
  · rename_i v ps' hv
    simp only [V.force_eq, setEnv_eq, forceB_eq, St.forceS_eq, Option.some.injEq, Prod.mk.injEq] at h
    obtain ⟨rfl, h2, h3⟩ := h
    refine ⟨v, hv, ?_, h3⟩
    rw [← h2]; cases d <;> rfl
  · cases h

variable {draw : Bool} {all : List AO} {after : List (List Nat)} {live : List Nat} {k : List It} {b : Nat} {fl : List (Bool × Bool)} {ops : List AO} {st st' : St} {d : Option Nat}

theorem Mid.pure {op : AOp} {ps : List Bool} {l : Bool} (h : stepP st d op = some (ps, st', l)) (hp : pall ps) (h' : Mid P n m R draw all after live k b ((l, false) :: fl) ops st') : Mid P n m R draw all after live k b fl (⟨d, none, op⟩ :: ops) st := by
  obtain ⟨v, h1, rfl, h3⟩ := stepP_eq h
  unfold Mid at h' ⊢
  simp only [evR, evO, evU, h1, h3]
  refine ⟨hp, ?_⟩
  simpa using h'

theorem Mid.pure0 {op : AOp} {l : Bool} (h : stepP st d op = some ([], st', l)) (h' : Mid P n m R draw all after live k b ((l, false) :: fl) ops st') : Mid P n m R draw all after live k b fl (⟨d, none, op⟩ :: ops) st :=
  Mid.pure h trivial h'

def gcondF (want : Bool) : V → Option Bool
  | .t (.bool b) => match want with | true => some b | false => some (!b)
  | .gd c (.t (.bool b)) => match want with | true => some (c && b) | false => some (c && !b)
  | .gd false .top => some false
  | _ => none
theorem gcondF_eq (want : Bool) (v : V) : gcondF want v = gcond want v := by
  unfold gcondF gcond
  cases want <;> split <;> simp_all

def stepG (st : St) (d : Option Nat) (s : Nat) (want : Bool) (op : AOp) : Option (List Bool × St × Bool) :=
  match gcondF want (look st.env s) with
  | none => none
  | some gc =>
    match evalP gc st op with
    | some (v, ps) => v.force fun v' => setEnv st d (.gd gc v') fun e => forceB (looksE st op) fun l => st.forceS e fun st' => some (ps.map (fun p => !gc || p), st', l)
    | none => none

theorem Mid.grd {op : AOp} {s : Nat} {want : Bool} {ps : List Bool} {l : Bool} (h : stepG st d s want op = some (ps, st', l)) (hp : pall ps) (h' : Mid P n m R draw all after live k b ((l, false) :: fl) ops st') : Mid P n m R draw all after live k b fl (⟨d, some (s, want), op⟩ :: ops) st := by
  unfold stepG at h
  rw [gcondF_eq] at h
  split at h
  · cases h
  · rename_i gc hgc
    rw [evalP_eq] at h
    split at h
    · rename_i v ps' hv
      simp only [V.force_eq, setEnv_eq, forceB_eq, St.forceS_eq, Option.some.injEq, Prod.mk.injEq] at h
      obtain ⟨rfl, h2, h3⟩ := h
      unfold Mid at h' ⊢
      simp only [evR, evO, hgc, hv, h3]
      refine ⟨hp, ?_⟩
      have : st' = st.app d { v := .gd gc v, rd := l } := by rw [← h2]; cases d <;> rfl
      rw [this] at h'
      simpa using h'
    · cases h

/-- an operation that does more, by its rule -/
theorem Mid.opX {op : AOp} (hn : evalE true st op = none) (h : evX P b st (fun o => Mid P n m R draw all after live k (b + o.n) ((o.rd, !o.ob.isEmpty || decide (0 < o.n)) :: fl) ops (st.app d o)) op) : Mid P n m R draw all after live k b fl (⟨d, none, op⟩ :: ops) st := by
  unfold Mid at h ⊢
  simp only [evR, evO, evU, hn]
  simpa using h

/-- a slice of one's own, handed on as what it reads -/
def V.pure1 : V → V
  | .own _ _ xs => .t (.lst xs)
  | .nils => .t (.lst [])
  | v => v
def pureL {ρ : Type} : List V → (List V → ρ) → ρ
  | [], K => K []
  | x :: r, K => x.pure1.headK fun x' => pureL r fun r' => K (x' :: r')
theorem pureL_eq {ρ : Type} : ∀ (l : List V) (K : List V → ρ), pureL l K = K (l.map V.pure1)
  | [], K => rfl
  | x :: r, K => by simp only [pureL, V.headK_eq, pureL_eq r, List.map_cons]
def V.pureV : V → V
  | .agg cs => .agg (cs.map V.pure1)
  | v => v.pure1
def V.pureK {ρ : Type} (v : V) (K : V → ρ) : ρ :=
  match v with
  | .agg cs => pureL cs fun cs' => K (.agg cs')
  | .own _ _ xs => K (.t (.lst xs))
  | .nils => K (.t (.lst []))
  | .tup cs => forceL cs fun cs' => K (.tup cs')
  | .t x => K (.t x)
  | .slc k o l s => K (.slc k o l s)
  | .ptr k o => K (.ptr k o)
  | .mp k => K (.mp k)
  | .fn f cs => K (.fn f cs)
  | .gd c x => K (.gd c x)
  | .top => K .top
theorem V.pureK_eq {ρ : Type} (v : V) (K : V → ρ) : v.pureK K = K v.pureV := by
  cases v <;> simp only [V.pureK, V.pureV, V.pure1, pureL_eq, forceL_eq]

theorem RelV.pure1 {Λ : L} {u : Value} {x : V} (h : RelV Λ u x) : RelV Λ u x.pure1 := by
  cases h with
  | own h _ _ _ _ => exact .t h
  | nils => exact .t .nil
  | t h => exact .t h
  | slc a b c => exact .slc a b c
  | agg a b => exact .agg a b
  | tup a b => exact .tup a b
  | ptr a b => exact .ptr a b
  | mp a b => exact .mp a b
  | fn a b => exact .fn a b
  | gd a b => exact .gd a b
  | top => exact .top
theorem RelV.pureV {Λ : L} {u : Value} {x : V} (h : RelV Λ u x) : RelV Λ u x.pureV := by
  cases x with
  | agg cs =>
    cases h with
    | agg hs hv =>
      refine .agg (by simpa using hs) fun j v c h1 h2 => ?_
      rw [List.getElem?_map, Option.map_eq_some_iff] at h2
      obtain ⟨c', h3, rfl⟩ := h2
      exact (hv j v c' h1 h3).pure1
  | _ => exact h.pure1

/-- what is known of operands, one by one -/
def VsLe (vs vs' : List V) : Prop := vs.length = vs'.length ∧ ∀ (Λ : L) (j : Nat) (u : Value) (x y : V), vs[j]? = some x → vs'[j]? = some y → RelV Λ u x → RelV Λ u y
theorem VsLe.pure (vs : List V) : VsLe vs (vs.map V.pureV) := by
  refine ⟨by simp, fun Λ j u x y h1 h2 h => ?_⟩
  rw [List.getElem?_map, h1] at h2
  simp at h2; subst h2
  exact h.pureV
theorem VsLe.rfl {vs : List V} : VsLe vs vs := ⟨Eq.refl _, fun Λ j u x y h1 h2 h => by rw [h1] at h2; simp at h2; subst h2; exact h⟩
theorem VsLe.app {a b c d : List V} (h : VsLe a b) (k : VsLe c d) : VsLe (a ++ c) (b ++ d) := by
  refine ⟨by simp [h.1, k.1], fun Λ j u x y h1 h2 hr => ?_⟩
  by_cases hj : j < a.length
  · rw [List.getElem?_append_left hj] at h1
    rw [List.getElem?_append_left (by rw [← h.1]; exact hj)] at h2
    exact h.2 Λ j u x y h1 h2 hr
  · rw [List.getElem?_append_right (by omega)] at h1
    rw [List.getElem?_append_right (by rw [← h.1]; omega), ← h.1] at h2
    exact k.2 Λ _ u x y h1 h2 hr
theorem FnAt.le {f : FuncId} {vs vs' : List V} {base : Nat} {sto : List (Nat × AObj)} {out : Out} (hl : VsLe vs vs') (h : FnAt P f vs' base sto out) : FnAt P f vs base sto out :=
  ⟨h.1, h.2.1, fun Λ args h1 h2 h3 h4 h5 => h.2.2 Λ args h1 h2 h3 (h4.trans hl.1) fun j v x hj hx => by
    have hlt : j < vs.length := by rw [hl.1]; exact (List.getElem?_eq_some_iff.1 hx).1
    have hv := List.getElem?_eq_getElem hlt
    exact hl.2 Λ j v _ x hv hx (h5 j v _ hj hv)⟩
theorem FnEv.le {f : FuncId} {vs vs' : List V} {base : Nat} {sto : List (Nat × AObj)} {K : Out → Prop} (hl : VsLe vs vs') (h : FnEv P f vs' base sto K) : FnEv P f vs base sto K := by
  obtain ⟨out, h1, h2⟩ := h
  refine ⟨out, ?_, h2⟩
  split
  · rename_i e; rw [e] at h1; exact FnAt.le hl h1
  · rename_i e
    have h1' : ∀ s, FnAt P f vs' base s out := by simpa [e] using h1
    exact fun s => FnAt.le hl (h1' s)

def argsF {α : Type} (st : St) : List Ar → (List V → α) → α
  | [], K => K []
  | x :: r, K => V.pureK (x.u st) fun v => argsF st r fun vs => K (v :: vs)

theorem argsF_eq {α : Type} (st : St) : ∀ (l : List Ar) (K : List V → α), argsF st l K = K ((argsV st l).map V.pureV)
  | [], K => rfl
  | x :: r, K => by simp only [argsF, V.pureK_eq, argsF_eq st r, argsV, List.map_cons]

/-- what an operation leaves -/
def stepV {α : Type} (st : St) (d : Option Nat) (v : V) (K : St → α) : α := v.force fun v' => setEnv st d v' fun e => st.forceS e K

theorem Mid.call {f : FuncId} {args : List Ar} {vs : List V} {x : V} (h : FnOk P f vs ⟨[], 0⟩ { v := x }) (hv : argsF st args some = some vs) (hb : V.bds 0 vs = true) (hx : x.bd 0 = true) (hs : stepV st d x some = some st')
    (h' : Mid P n m R draw all after live k b ((false, false) :: fl) ops st') : Mid P n m R draw all after live k b fl (⟨d, none, .call f args⟩ :: ops) st := by
  rw [argsF_eq] at hv
  simp at hv
  refine Mid.opX rfl ?_
  simp only [evX]
  refine FnEv.le (VsLe.pure _) ?_
  rw [hv]
  refine callPure h hb hx ?_
  simp only [stepV, V.force_eq, setEnv_eq, St.forceS_eq, Option.some.injEq] at hs
  have : st' = st.app d { v := x } := by rw [← hs]; cases d <;> rfl
  rw [this] at h'
  exact h'

/-- a call of a function that reads the caller's objects -/
theorem Mid.callS {f : FuncId} {args : List Ar} {vs : List V} {x : V} (h : FnOk P f vs ⟨st.s.sto, b⟩ { v := x, rd := true }) (hv : argsF st args some = some vs) (hb : V.bds b vs = true) (hsb : stoBd b st.s.sto = true) (hs : stepV st d x some = some st')
    (h' : Mid P n m R draw all after live k b ((true, false) :: fl) ops st') : Mid P n m R draw all after live k b fl (⟨d, none, .call f args⟩ :: ops) st := by
  rw [argsF_eq] at hv
  simp at hv
  refine Mid.opX rfl ?_
  simp only [evX]
  refine FnEv.le (VsLe.pure _) ?_
  rw [hv]
  refine callSame h hb hsb ?_
  simp only [stepV, V.force_eq, setEnv_eq, St.forceS_eq, Option.some.injEq] at hs
  have : st' = st.app d { v := x, rd := true } := by rw [← hs]; cases d <;> rfl
  rw [this] at h'
  exact h'

/-- a call of a closure that reads the caller's objects -/
theorem Mid.callvS {f : FuncId} {caps : List (Nat × Nat)} {y : Ar} {args : List Ar} {vs : List V} {x : V} (hf : y.u st = .fn f caps) (h : FnOk P f (vs ++ capsV caps) ⟨st.s.sto, b⟩ { v := x, rd := true }) (hv : argsF st args some = some vs) (hb : V.bds b (vs ++ capsV caps) = true) (hsb : stoBd b st.s.sto = true) (hs : stepV st d x some = some st')
    (h' : Mid P n m R draw all after live k b ((true, false) :: fl) ops st') : Mid P n m R draw all after live k b fl (⟨d, none, .callv y args⟩ :: ops) st := by
  rw [argsF_eq] at hv
  simp at hv
  refine Mid.opX rfl ?_
  simp only [evX, hf]
  refine FnEv.le ((VsLe.pure _).app .rfl) ?_
  rw [hv]
  refine callSame h hb hsb ?_
  simp only [stepV, V.force_eq, setEnv_eq, St.forceS_eq, Option.some.injEq] at hs
  have : st' = st.app d { v := x, rd := true } := by rw [← hs]; cases d <;> rfl
  rw [this] at h'
  exact h'

/-- a call of a function value without captures -/
theorem Mid.callv0 {f : FuncId} {y : Ar} {args : List Ar} {vs : List V} {x : V} (hf : y.u st = .t (.fn f)) (h : FnOk P f vs ⟨[], 0⟩ { v := x }) (hv : argsF st args some = some vs) (hb : V.bds 0 vs = true) (hx : x.bd 0 = true) (hs : stepV st d x some = some st')
    (h' : Mid P n m R draw all after live k b ((false, false) :: fl) ops st') : Mid P n m R draw all after live k b fl (⟨d, none, .callv y args⟩ :: ops) st := by
  rw [argsF_eq] at hv
  simp at hv
  refine Mid.opX rfl ?_
  simp only [evX, hf]
  refine FnEv.le (VsLe.pure _) ?_
  rw [hv]
  refine callPure h hb hx ?_
  simp only [stepV, V.force_eq, setEnv_eq, St.forceS_eq, Option.some.injEq] at hs
  have : st' = st.app d { v := x } := by rw [← hs]; cases d <;> rfl
  rw [this] at h'
  exact h'

/-- operands under a guard -/
def unK {α : Type} (gc : Bool) (v : V) (K : V → List Bool → α) : α :=
  match v with
  | .gd c x => x.pureK fun x' => K x' [!gc || c]
  | .agg cs => pureL cs fun cs' => K (.agg cs') []
  | .tup cs => forceL cs fun cs' => K (.tup cs') []
  | .t x => K (.t x) []
  | .nils => K (.t (.lst [])) []
  | .own _ _ xs => K (.t (.lst xs)) []
  | .slc k o l s => K (.slc k o l s) []
  | .ptr k o => K (.ptr k o) []
  | .mp k => K (.mp k) []
  | .fn f cs => K (.fn f cs) []
  | .top => K .top []
theorem unK_eq {α : Type} (gc : Bool) (v : V) (K : V → List Bool → α) : unK gc v K = K (v.un gc).1.pureV (v.un gc).2 := by
  cases v <;> simp only [unK, pureL_eq, forceL_eq, V.pureK_eq, V.un, V.pureV, V.pure1]
def argsG {α : Type} (gc : Bool) (st : St) : List Ar → (List V → List Bool → α) → α
  | [], K => K [] []
  | x :: r, K => unK gc (x.v st) fun v p => argsG gc st r fun vs ps => K (v :: vs) (p ++ ps)
theorem pall_app {a b : List Bool} : pall (a ++ b) ↔ pall a ∧ pall b := by
  induction a with
  | nil => simp [pall]
  | cons x r ih => simp [pall, ih, and_assoc]
set_option linter.unusedSimpArgs false in
theorem argsG_ok {st : St} : ∀ {l : List Ar} {vs : List V} {ps : List Bool}, argsG true st l (fun vs ps => some (vs, ps)) = some (vs, ps) → pall ps → (argsV st l).map V.pureV = vs := by
  have key : ∀ (l : List Ar) {ρ : Type} (K : List V → List Bool → ρ), ∃ vs ps, argsG true st l K = K vs ps ∧ (pall ps → (argsV st l).map V.pureV = vs) := by
    intro l
    induction l with
    | nil => intro ρ K; exact ⟨[], [], rfl, fun _ => rfl⟩
    | cons x r ih =>
      intro ρ K
      simp only [argsG, unK_eq]
      obtain ⟨vs, ps, h1, h2⟩ := ih fun vs ps => K (((x.v st).un true).1.pureV :: vs) (((x.v st).un true).2 ++ ps)
      refine ⟨_, _, h1, fun hp => ?_⟩
      rw [pall_app] at hp
      simp only [argsV, List.map_cons, h2 hp.2, Ar.u]
      congr 1
      congr 1
      cases hv : x.v st <;> simp only [V.un, V.ug] at *
      rename_i c y
      have := hp.1
      rw [hv] at this
      simp [V.un, pall] at this
      simp [this]
  intro l vs ps h hp
  obtain ⟨vs', ps', h1, h2⟩ := key l fun vs ps => some (vs, ps)
  rw [h1] at h
  simp at h
  obtain ⟨rfl, rfl⟩ := h
  exact h2 hp

/-- a call under a guard, of a function that is handed no objects -/
theorem Mid.callG {f : FuncId} {s : Nat} {want gc : Bool} {args : List Ar} {vs : List V} {ps : List Bool} {x : V} (hg : gcondF want (look st.env s) = some gc) (hv : argsG gc st args (fun vs ps => some (vs, ps)) = some (vs, ps)) (hp : pall (ps.map fun p => !gc || p)) (h : gc = true → ∃ vs', vs = vs' ∧ FnOk P f vs' ⟨[], 0⟩ { v := x } ∧ V.bds 0 vs' = true) (hx : x.bd 0 = true) (hs : stepV st d (.gd gc x) some = some st')
    (h' : Mid P n m R draw all after live k b ((false, false) :: fl) ops st') : Mid P n m R draw all after live k b fl (⟨d, some (s, want), .call f args⟩ :: ops) st := by
  rw [gcondF_eq] at hg
  simp only [stepV, V.force_eq, setEnv_eq, St.forceS_eq, Option.some.injEq] at hs
  have : st' = st.app d { v := .gd gc x } := by rw [← hs]; cases d <;> rfl
  rw [this] at h'
  unfold Mid at h' ⊢
  simp only [evR, evO, hg, evalE]
  refine .inl ⟨{ v := x }, ?_, ⟨rfl, rfl⟩, ?_⟩
  · intro hgc
    simp only [Bool.false_eq_true, if_false]
    intro s
    obtain ⟨vs', e1, e2, e3⟩ := h hgc
    subst hgc
    have hpp : pall ps := by
      have : ∀ l : List Bool, pall (l.map fun p => !true || p) → pall l := by
        intro l
        induction l with
        | nil => exact fun h => h
        | cons a r ih => intro h; exact ⟨by simpa using h.1, ih h.2⟩
      exact this ps hp
    refine FnAt.le (VsLe.pure _) ?_
    rw [argsG_ok hv hpp, e1]; exact e2.pure e3 hx
  · simpa using h'

def regF {α : Type} (live : List Nat) (b : Nat) (st : St) (K : St → α) : α := match st with | ⟨env, ⟨sto, _⟩⟩ => keepK live env fun e => K ⟨e, ⟨sto, b⟩⟩

/-- the end of a region -/
theorem Mid.done (h : regF live b st some = some st') (hr : regOk draw all after fl.reverse) (h' : Run P n m R k st') : Mid P n m R draw all after live k b fl [] st := by
  obtain ⟨env, ⟨sto, nx⟩⟩ := st
  simp only [regF, keepK_eq, Option.some.injEq] at h
  subst h
  exact ⟨hr, h'⟩
theorem Mid.done0 (h : regF live b st some = some st') (h' : Run P n m R k st') : Mid P n m R false all after live k b fl [] st :=
  Mid.done h (fun h => by cases h) h'


/- ---------- operations that make or change objects ---------- -/

def AObj.force {ρ : Type} (o : AObj) (K : AObj → ρ) : ρ :=
  match o with
  | .cells cs => forceL cs fun cs' => K (.cells cs')
  | .map a b es => K (.map a b es)
  | .arr n => K (.arr n)
theorem AObj.force_eq {ρ : Type} (o : AObj) (K : AObj → ρ) : o.force K = K o := by
  cases o <;> simp only [AObj.force, forceL_eq]

def asetsK {ρ : Type} : List (Nat × AObj) → List (Nat × AObj) → (List (Nat × AObj) → ρ) → ρ
  | s, [], K => K s
  | s, (k, o) :: r, K => o.force fun o' => asetK s k o' fun s' => asetsK s' r K
theorem asetsK_eq {ρ : Type} : ∀ (r s : List (Nat × AObj)) (K : List (Nat × AObj) → ρ), asetsK s r K = K (asets s r)
  | [], s, K => rfl
  | (k, o) :: r, s, K => by simp only [asetsK, AObj.force_eq, asetK_eq, asetsK_eq r, asets]

def forceG {α ρ : Type} : List α → (List α → ρ) → ρ
  | [], K => K []
  | x :: r, K => forceG r fun r' => K (x :: r')
theorem forceG_eq {α ρ : Type} : ∀ (l : List α) (K : List α → ρ), forceG l K = K l
  | [], K => rfl
  | x :: r, K => forceG_eq r _
def forceGG {α ρ : Type} : List (List α) → (List (List α) → ρ) → ρ
  | [], K => K []
  | x :: r, K => forceG x fun x' => forceGG r fun r' => K (x' :: r')
theorem forceGG_eq {α ρ : Type} : ∀ (l : List (List α)) (K : List (List α) → ρ), forceGG l K = K l
  | [], K => rfl
  | x :: r, K => by simp only [forceGG, forceG_eq]; exact forceGG_eq r _

/-- the state behind an operation -/
def stepS {ρ : Type} (b : Nat) (st : St) (d : Option Nat) (o : Out) (K : Nat → St → ρ) : ρ :=
  forceN (b + o.n) fun b' => o.v.force fun v' => setEnv st d v' fun e => asetsK st.s.sto o.ob fun sto => match st with | ⟨_, ⟨_, nx⟩⟩ => K b' ⟨e, ⟨sto, nx⟩⟩
theorem stepS_eq {ρ : Type} (b : Nat) (st : St) (d : Option Nat) (o : Out) (K : Nat → St → ρ) : stepS b st d o K = K (b + o.n) (st.app d o) := by
  obtain ⟨env, ⟨sto, nx⟩⟩ := st
  simp only [stepS, forceN_eq, V.force_eq, setEnv_eq, asetsK_eq]
  cases d <;> rfl

/-- an operation whose obligations are closed -/
def stepX (b : Nat) (st : St) : AOp → Option Out
  | .st n x v =>
    match x.u st with
    | .ptr k o =>
      match aget st.s.sto k with
      | some (.cells cs) =>
        match (v.u st).parts with
        | some vs => bif Nat.beq vs.length n && Nat.ble (o + n) cs.length && vs.all V.cellOk then some { v := .top, ob := [(k, .cells (setAt cs o vs))], rd := true } else none
        | none => none
      | _ => none
    | _ => none
  | .box n x =>
    match (x.u st).parts with
    | some vs => bif Nat.beq vs.length n && vs.all V.cellOk then some { v := .ptr b 0, ob := [(b, .cells vs)], n := 1 } else none
    | none => none
  | .alloc zs => some { v := .ptr b 0, ob := [(b, .cells zs)], n := 1 }
  | .bsl ow sz zs ps =>
    match pureParts st sz zs ps with
    | some xs => forceGG xs fun xs => bif allLen sz xs then (match ow with | true => some { v := .own b sz xs, ob := [(b, .arr xs.length)], n := 1 } | false => some { v := .t (.lst xs) }) else none
    | none => none
  | _ => none

theorem stepX_ok {P : Program} {b : Nat} {st : St} {op : AOp} {o : Out} {K : Out → Prop} (h : stepX b st op = some o) (hk : K o) : evX P b st K op := by
  unfold stepX at h
  split at h
  · rename_i nn x v
    simp only [evX]
    split at h
    · rename_i k oo hx
      rw [hx]
      simp only
      split at h
      · rename_i cs hc
        rw [hc]
        simp only
        split at h
        · rename_i vs hv
          rw [hv]
          simp only
          cases hh : (Nat.beq vs.length nn && Nat.ble (oo + nn) cs.length && vs.all V.cellOk) with
          | false => rw [hh] at h; simp at h
          | true =>
            rw [hh] at h
            simp at h; subst h
            simp only [Bool.and_eq_true] at hh
            refine ⟨⟨?_, hh.2⟩, hk⟩
            have h1 := Nat.eq_of_beq_eq_true hh.1.1
            have h2 := Nat.le_of_ble_eq_true hh.1.2
            simp [h1, h2]
        · cases h
      · cases h
    · cases h
  · rename_i nn x
    simp only [evX]
    split at h
    · rename_i vs hv
      rw [hv]
      simp only
      cases hh : (Nat.beq vs.length nn && vs.all V.cellOk) with
      | false => rw [hh] at h; simp at h
      | true =>
        rw [hh] at h
        simp at h; subst h
        simp only [Bool.and_eq_true] at hh
        refine ⟨⟨?_, hh.2⟩, hk⟩
        have h1 := Nat.eq_of_beq_eq_true hh.1
        simp [h1]
    · cases h
  · simp at h; subst h; exact hk
  · rename_i ow sz zs ps
    simp only [evX]
    split at h
    · rename_i xs hv
      rw [hv]
      simp only [forceGG_eq] at h ⊢
      cases hh : allLen sz xs with
      | false => rw [hh] at h; simp at h
      | true =>
        rw [hh] at h
        refine ⟨rfl, ?_⟩
        cases ow <;> simp at h <;> subst h <;> exact hk
    · cases h
  · cases h

def stepE (b : Nat) (st : St) (d : Option Nat) (op : AOp) : Option (Nat × St × Bool × Bool) :=
  match stepX b st op with
  | some o => forceB o.rd fun r => forceB (!o.ob.isEmpty || decide (0 < o.n)) fun c => stepS b st d o fun b' st' => some (b', st', r, c)
  | none => none

theorem evalE_none {st : St} {op : AOp} {b : Nat} {o : Out} (h : stepX b st op = some o) : evalE true st op = none := by
  cases op <;> first | rfl | (simp [stepX] at h)

variable {b' : Nat}
theorem Mid.eff {op : AOp} {r c : Bool} (h : stepE b st d op = some (b', st', r, c)) (h' : Mid P n m R draw all after live k b' ((r, c) :: fl) ops st') : Mid P n m R draw all after live k b fl (⟨d, none, op⟩ :: ops) st := by
  unfold stepE at h
  split at h
  · rename_i o ho
    simp only [forceB_eq, stepS_eq, Option.some.injEq, Prod.mk.injEq] at h
    obtain ⟨rfl, rfl, rfl, rfl⟩ := h
    exact Mid.opX (evalE_none ho) (stepX_ok ho h')
  · cases h

/-- append to a slice of one's own -/
theorem Mid.appOwn {sz by_ j s nn : Nat} {x y : Ar} {xs ys : List (List T)} (hx : x.u st = .own j s xs) (hy : (y.u st).cell1 = some (.lst ys)) (hn : aget st.s.sto j = some (.arr nn)) (he : nn = xs.length) (hs : Nat.beq s sz = true) (hl : allLen sz ys = true)
    (h1 : (xs.length + ys.length) * by_ ≤ 140737488355328) (h2 : xs.length + ys.length ≤ 9223372036854775807)
    (hst : stepS b st d { v := .own j sz (xs ++ ys), ob := [(j, .arr (xs.length + ys.length))], rd := true } (fun b' st' => some (b', st')) = some (b', st'))
    (h' : Mid P n m R draw all after live k b' ((true, true) :: fl) ops st') : Mid P n m R draw all after live k b fl (⟨d, none, .app sz by_ x y⟩ :: ops) st := by
  refine Mid.opX rfl ?_
  have hs' := Nat.eq_of_beq_eq_true hs
  simp only [stepS_eq, Option.some.injEq, Prod.mk.injEq] at hst
  obtain ⟨rfl, rfl⟩ := hst
  simp only [evX, hx, hy, hn]
  exact ⟨hs', he, hl, h1, h2, h'⟩

/-- append along an encoding -/
theorem Mid.appMap {α : Type} (f : α → List T) (l1 l2 : List α) {sz by_ j s nn : Nat} {x y : Ar} (hx : x.u st = .own j s (l1.map f)) (hy : (y.u st).cell1 = some (.lst (l2.map f))) (hn : aget st.s.sto j = some (.arr nn)) (he : nn = l1.length) (hs : Nat.beq s sz = true) (hl : ∀ x, (f x).length = sz)
    (h1 : (l1.length + l2.length) * by_ ≤ 140737488355328) (h2 : l1.length + l2.length ≤ 9223372036854775807)
    (hst : stepS b st d { v := .own j sz ((l1 ++ l2).map f), ob := [(j, .arr (l1 ++ l2).length)], rd := true } (fun b' st' => some (b', st')) = some (b', st'))
    (h' : Mid P n m R draw all after live k b' ((true, true) :: fl) ops st') : Mid P n m R draw all after live k b fl (⟨d, none, .app sz by_ x y⟩ :: ops) st :=
  Mid.appOwn hx hy hn (by simpa using he) hs (by simp [allLen, hl]) (by simpa using h1) (by simpa using h2) (by rw [← hst]; simp) h'
theorem Mid.appNilMap {α : Type} (f : α → List T) (l2 : List α) {sz by_ : Nat} {x y : Ar} (hx : x.u st = .nils) (hy : (y.u st).cell1 = some (.lst (l2.map f))) (hl : ∀ x, (f x).length = sz)
    (h1 : l2.length * by_ ≤ 140737488355328) (h2 : l2.length ≤ 9223372036854775807)
    (hst : stepS b st d { v := .own b sz (l2.map f), ob := [(b, .arr l2.length)], n := 1 } (fun b' st' => some (b', st')) = some (b', st'))
    (h' : Mid P n m R draw all after live k b' ((false, true) :: fl) ops st') : Mid P n m R draw all after live k b fl (⟨d, none, .app sz by_ x y⟩ :: ops) st := by
  refine Mid.opX rfl ?_
  simp only [stepS_eq, Option.some.injEq, Prod.mk.injEq] at hst
  obtain ⟨rfl, rfl⟩ := hst
  simp only [evX, hx, hy]
  exact ⟨by simp [allLen, hl], by simpa using h1, by simpa using h2, by simpa using h'⟩

/-- append to nil -/
theorem Mid.appNil {sz by_ : Nat} {x y : Ar} {ys : List (List T)} (hx : x.u st = .nils) (hy : (y.u st).cell1 = some (.lst ys)) (hl : allLen sz ys = true) (h1 : ys.length * by_ ≤ 140737488355328) (h2 : ys.length ≤ 9223372036854775807)
    (hst : stepS b st d { v := .own b sz ys, ob := [(b, .arr ys.length)], n := 1 } (fun b' st' => some (b', st')) = some (b', st'))
    (h' : Mid P n m R draw all after live k b' ((false, true) :: fl) ops st') : Mid P n m R draw all after live k b fl (⟨d, none, .app sz by_ x y⟩ :: ops) st := by
  refine Mid.opX rfl ?_
  simp only [stepS_eq, Option.some.injEq, Prod.mk.injEq] at hst
  obtain ⟨rfl, rfl⟩ := hst
  simp only [evX, hx, hy]
  exact ⟨hl, h1, h2, h'⟩

/-- make -/
theorem Mid.mksl {sz by_ : Nat} {z : List V} {x : Ar} {kd : IntKind} {i : Int} (hx : x.u st = .t (.int kd i)) (h0 : 0 ≤ i) (h1 : i * by_ ≤ 281474976710656) (h2 : i ≤ 9223372036854775807) (hz : Nat.beq z.length sz = true)
    (hst : stepS b st d { v := .slc b 0 i.toNat sz, ob := [(b, .cells (List.replicate i.toNat z).flatten)], n := 1 } (fun b' st' => some (b', st')) = some (b', st'))
    (h' : Mid P n m R draw all after live k b' ((false, true) :: fl) ops st') : Mid P n m R draw all after live k b fl (⟨d, none, .mksl sz by_ z x⟩ :: ops) st := by
  refine Mid.opX rfl ?_
  simp only [stepS_eq, Option.some.injEq, Prod.mk.injEq] at hst
  obtain ⟨rfl, rfl⟩ := hst
  simp only [evX, hx]
  exact ⟨⟨h0, h1, h2, Nat.eq_of_beq_eq_true hz⟩, h'⟩

/-- reading a list's element's address -/
theorem Mid.elem {sz : Nat} {x i : Ar} {v : V} {p1 p2 : List Bool} {kd : IntKind} {z : Int} {xs : List (List T)} {c : List T} (hx : rd true st x = (v, p1)) (hv : v.cell1 = some (.lst xs)) (hi : rd true st i = (.t (.int kd z), p2)) (hc : xs[z.toNat]? = some c) (hl : (Nat.beq c.length sz && !(Nat.beq sz 0)) = true) (h0 : 0 ≤ z) (hp : pall (p1 ++ p2))
    (hs : stepV st d (.t (.ptr c)) some = some st') (h' : Mid P n m R draw all after live k b ((false, false) :: fl) ops st') : Mid P n m R draw all after live k b fl (⟨d, none, .ia sz x i⟩ :: ops) st := by
  have hl1 : c.length = sz ∧ sz ≠ 0 := by
    simp only [Bool.and_eq_true] at hl
    refine ⟨Nat.eq_of_beq_eq_true hl.1, ?_⟩
    rintro rfl
    simp at hl
  have hev : evalE true st (.ia sz x i) = some (.t (.ptr c), p1 ++ (p2 ++ [decide (0 ≤ z)])) := by
    simp only [evalE, hx, hi]
    cases v <;> simp_all [V.cell1]
  simp only [stepV, V.force_eq, setEnv_eq, St.forceS_eq, Option.some.injEq] at hs
  have e : st' = st.app d { v := .t (.ptr c) } := by rw [← hs]; cases d <;> rfl
  rw [e] at h'
  unfold Mid at h' ⊢
  simp only [evR, evO, evU, hev, looksE]
  refine ⟨?_, by simpa using h'⟩
  have hpa : ∀ (a b : List Bool), pall (a ++ b) ↔ pall a ∧ pall b := by
    intro a b
    induction a with
    | nil => simp [pall]
    | cons x r ih => simp [pall, ih, and_assoc]
  rw [hpa] at hp
  simp [hpa, hp.1, hp.2, pall, h0]

/-- a value put in place of an operation's -/
theorem Mid.val {op : AOp} {v : V} {ps : List Bool} (hev : evalE true st op = some (v, ps)) (hl : looksE st op = false) (hp : pall ps) (hs : stepV st d v some = some st')
    (h' : Mid P n m R draw all after live k b ((false, false) :: fl) ops st') : Mid P n m R draw all after live k b fl (⟨d, none, op⟩ :: ops) st := by
  simp only [stepV, V.force_eq, setEnv_eq, St.forceS_eq, Option.some.injEq] at hs
  have e : st' = st.app d { v := v } := by rw [← hs]; cases d <;> rfl
  rw [e] at h'
  unfold Mid at h' ⊢
  simp only [evR, evO, evU, hev, hl]
  exact ⟨hp, by simpa using h'⟩

/-- a sum with a small number -/
theorem Mid.addL {x y : Ar} {i jn : Nat} {j : Int} (hx : rd true st x = (.t (.int .i64 i), [])) (hy : rd true st y = (.t (.int .i64 j), [])) (hj : forceN j.toNat some = some jn) (hjn : j = (jn : Int)) (h2 : i + jn ≤ 9223372036854775807) (hs : stepV st d (.t (.int .i64 ((i + jn : Nat) : Int))) some = some st')
    (h' : Mid P n m R draw all after live k b ((false, false) :: fl) ops st') : Mid P n m R draw all after live k b fl (⟨d, none, .bin .add x y⟩ :: ops) st :=
  Mid.val (v := .t (.int .i64 ((i + jn : Nat) : Int))) (ps := []) (by subst hjn; simp only [evalE, hx, hy, binT]; simp; exact wrap64 (by omega) (by omega)) rfl trivial hs h'
theorem Mid.add64 {x y : Ar} {i j : Int} (hx : rd true st x = (.t (.int .i64 i), [])) (hy : rd true st y = (.t (.int .i64 j), [])) (h1 : -9223372036854775808 ≤ i + j) (h2 : i + j ≤ 9223372036854775807) (hs : stepV st d (.t (.int .i64 (i + j))) some = some st')
    (h' : Mid P n m R draw all after live k b ((false, false) :: fl) ops st') : Mid P n m R draw all after live k b fl (⟨d, none, .bin .add x y⟩ :: ops) st :=
  Mid.val (v := .t (.int .i64 (i + j))) (ps := []) (by simp only [evalE, hx, hy, binT]; simp [wrap64 h1 h2]) rfl trivial hs h'
theorem Mid.sub64 {x y : Ar} {i j : Int} (hx : rd true st x = (.t (.int .i64 i), [])) (hy : rd true st y = (.t (.int .i64 j), [])) (h1 : -9223372036854775808 ≤ i - j) (h2 : i - j ≤ 9223372036854775807) (hs : stepV st d (.t (.int .i64 (i - j))) some = some st')
    (h' : Mid P n m R draw all after live k b ((false, false) :: fl) ops st') : Mid P n m R draw all after live k b fl (⟨d, none, .bin .sub x y⟩ :: ops) st :=
  Mid.val (v := .t (.int .i64 (i - j))) (ps := []) (by simp only [evalE, hx, hy, binT]; simp [wrap64 h1 h2]) rfl trivial hs h'
theorem Mid.mul64 {x y : Ar} {i j : Int} (hx : rd true st x = (.t (.int .i64 i), [])) (hy : rd true st y = (.t (.int .i64 j), [])) (h1 : -9223372036854775808 ≤ i * j) (h2 : i * j ≤ 9223372036854775807) (hs : stepV st d (.t (.int .i64 (i * j))) some = some st')
    (h' : Mid P n m R draw all after live k b ((false, false) :: fl) ops st') : Mid P n m R draw all after live k b fl (⟨d, none, .bin .mul x y⟩ :: ops) st :=
  Mid.val (v := .t (.int .i64 (i * j))) (ps := []) (by simp only [evalE, hx, hy, binT]; simp [wrap64 h1 h2]) rfl trivial hs h'

theorem Mid.lenMap {α : Type} {f : α → List T} {l : List α} {x : Ar} {v : V} (hx : rd true st x = (v, [])) (hv : v.cell1 = some (.lst (l.map f))) (hs : stepV st d (.t (.int .i64 l.length)) some = some st')
    (h' : Mid P n m R draw all after live k b ((false, false) :: fl) ops st') : Mid P n m R draw all after live k b fl (⟨d, none, .len x⟩ :: ops) st := by
  refine Mid.val (v := .t (.int .i64 l.length)) (ps := []) ?_ rfl trivial hs h'
  simp only [evalE, hx]
  cases v <;> simp_all [V.cell1]

theorem Mid.elemMap {α : Type} {f : α → List T} {l : List α} {e : α} {sz j : Nat} {x i : Ar} {v : V} {kd : IntKind} (hx : rd true st x = (v, [])) (hv : v.cell1 = some (.lst (l.map f))) (hi : rd true st i = (.t (.int kd j), [])) (hc : l[j]? = some e) (hl : (Nat.beq (f e).length sz && !(Nat.beq sz 0)) = true)
    (hs : stepV st d (.t (.ptr (f e))) some = some st') (h' : Mid P n m R draw all after live k b ((false, false) :: fl) ops st') : Mid P n m R draw all after live k b fl (⟨d, none, .ia sz x i⟩ :: ops) st :=
  Mid.elem hx hv hi (by simp [hc]) hl (by simp) trivial hs h'

/-- a byte of a string -/
theorem Mid.byte {x i : Ar} {kd : IntKind} {j : Nat} {s : List UInt8} {c : UInt8} (hx : rd true st x = (.t (.str s), [])) (hi : rd true st i = (.t (.int kd j), [])) (hc : s[j]? = some c)
    (hs : stepV st d (.t (.int .u8 c.toNat)) some = some st') (h' : Mid P n m R draw all after live k b ((false, false) :: fl) ops st') : Mid P n m R draw all after live k b fl (⟨d, none, .ixs x i⟩ :: ops) st :=
  Mid.val (v := .t (.int .u8 c.toNat)) (ps := [true]) (by simp only [evalE, hx, hi]; simp [hc]) rfl ⟨rfl, trivial⟩ hs h'

/-- the same under a guard -/
theorem Mid.valG {op : AOp} {s : Nat} {want gc : Bool} {v : V} {ps : List Bool} (hg : gcondF want (look st.env s) = some gc) (hev : evalE gc st op = some (v, ps)) (hl : looksE st op = false) (hp : pall (ps.map fun p => !gc || p)) (hs : stepV st d (.gd gc v) some = some st')
    (h' : Mid P n m R draw all after live k b ((false, false) :: fl) ops st') : Mid P n m R draw all after live k b fl (⟨d, some (s, want), op⟩ :: ops) st := by
  rw [gcondF_eq] at hg
  simp only [stepV, V.force_eq, setEnv_eq, St.forceS_eq, Option.some.injEq] at hs
  have e : st' = st.app d { v := .gd gc v } := by rw [← hs]; cases d <;> rfl
  rw [e] at h'
  unfold Mid at h' ⊢
  simp only [evR, evO, hg, hev, hl]
  exact ⟨hp, by simpa using h'⟩

theorem Mid.byteG {s : Nat} {want gc : Bool} {x i : Ar} {kd : IntKind} {j : Nat} {str : List UInt8} {c : UInt8} {p1 p2 : List Bool} (hg : gcondF want (look st.env s) = some gc) (hx : rd gc st x = (.t (.str str), p1)) (hi : rd gc st i = (.t (.int kd j), p2)) (hc : str[j]? = some c)
    (hp1 : pall (p1.map fun p => !gc || p)) (hp2 : pall (p2.map fun p => !gc || p))
    (hs : stepV st d (.gd gc (.t (.int .u8 c.toNat))) some = some st') (h' : Mid P n m R draw all after live k b ((false, false) :: fl) ops st') : Mid P n m R draw all after live k b fl (⟨d, some (s, want), .ixs x i⟩ :: ops) st :=
  Mid.valG (v := .t (.int .u8 c.toNat)) (ps := p1 ++ (p2 ++ [true])) hg (by simp only [evalE, hx, hi]; simp [hc]) rfl (by simp only [List.map_append, pall_app]; exact ⟨hp1, hp2, by simp [pall]⟩) hs h'

theorem Mid.lenMapG {α : Type} {f : α → List T} {l : List α} {s : Nat} {want gc : Bool} {x : Ar} {v : V} {p1 : List Bool} (hg : gcondF want (look st.env s) = some gc) (hx : rd gc st x = (v, p1)) (hv : v.cell1 = some (.lst (l.map f))) (hp1 : pall (p1.map fun p => !gc || p)) (hs : stepV st d (.gd gc (.t (.int .i64 l.length))) some = some st')
    (h' : Mid P n m R draw all after live k b ((false, false) :: fl) ops st') : Mid P n m R draw all after live k b fl (⟨d, some (s, want), .len x⟩ :: ops) st := by
  refine Mid.valG (v := .t (.int .i64 l.length)) (ps := p1) hg ?_ rfl hp1 hs h'
  simp only [evalE, hx]
  cases v <;> simp_all [V.cell1]

theorem Mid.elemMapG {α : Type} {f : α → List T} {l : List α} {e : α} {sz j : Nat} {s : Nat} {want gc : Bool} {x i : Ar} {v : V} {kd : IntKind} {p1 p2 : List Bool} (hg : gcondF want (look st.env s) = some gc) (hx : rd gc st x = (v, p1)) (hv : v.cell1 = some (.lst (l.map f))) (hi : rd gc st i = (.t (.int kd j), p2)) (hc : l[j]? = some e) (hl : (Nat.beq (f e).length sz && !(Nat.beq sz 0)) = true)
    (hp1 : pall (p1.map fun p => !gc || p)) (hp2 : pall (p2.map fun p => !gc || p)) (hs : stepV st d (.gd gc (.t (.ptr (f e)))) some = some st') (h' : Mid P n m R draw all after live k b ((false, false) :: fl) ops st') : Mid P n m R draw all after live k b fl (⟨d, some (s, want), .ia sz x i⟩ :: ops) st := by
  have hl1 : (f e).length = sz ∧ sz ≠ 0 := by
    simp only [Bool.and_eq_true] at hl
    refine ⟨Nat.eq_of_beq_eq_true hl.1, ?_⟩
    rintro rfl
    simp at hl
  refine Mid.valG (v := .t (.ptr (f e))) (ps := p1 ++ (p2 ++ [true])) hg ?_ rfl (by simp only [List.map_append, pall_app]; exact ⟨hp1, hp2, by simp [pall]⟩) hs h'
  simp only [evalE, hx, hi]
  cases v <;> simp_all [V.cell1]

/-- sums of what is no less than 0 -/
theorem Mid.addN {x y : Ar} {i j : Nat} (hx : rd true st x = (.t (.int .i64 i), [])) (hy : rd true st y = (.t (.int .i64 j), [])) (h2 : i + j ≤ 9223372036854775807) (hs : stepV st d (.t (.int .i64 ((i + j : Nat) : Int))) some = some st')
    (h' : Mid P n m R draw all after live k b ((false, false) :: fl) ops st') : Mid P n m R draw all after live k b fl (⟨d, none, .bin .add x y⟩ :: ops) st :=
  Mid.val (v := .t (.int .i64 ((i + j : Nat) : Int))) (ps := []) (by simp only [evalE, hx, hy, binT]; simp; exact wrap64 (by omega) (by omega)) rfl trivial hs h'
theorem Mid.addNG {s : Nat} {want gc : Bool} {x y : Ar} {i j : Nat} {p1 p2 : List Bool} (hg : gcondF want (look st.env s) = some gc) (hx : rd gc st x = (.t (.int .i64 i), p1)) (hy : rd gc st y = (.t (.int .i64 j), p2)) (h2 : i + j ≤ 9223372036854775807)
    (hp1 : pall (p1.map fun p => !gc || p)) (hp2 : pall (p2.map fun p => !gc || p)) (hs : stepV st d (.gd gc (.t (.int .i64 ((i + j : Nat) : Int)))) some = some st')
    (h' : Mid P n m R draw all after live k b ((false, false) :: fl) ops st') : Mid P n m R draw all after live k b fl (⟨d, some (s, want), .bin .add x y⟩ :: ops) st :=
  Mid.valG (v := .t (.int .i64 ((i + j : Nat) : Int))) (ps := p1 ++ (p2 ++ [])) hg (by simp only [evalE, hx, hy, binT]; simp; exact wrap64 (by omega) (by omega)) rfl (by simp only [List.map_append, pall_app]; exact ⟨hp1, hp2, trivial⟩) hs h'
theorem Mid.addLG {s : Nat} {want gc : Bool} {x y : Ar} {i jn : Nat} {j : Int} {p1 p2 : List Bool} (hg : gcondF want (look st.env s) = some gc) (hx : rd gc st x = (.t (.int .i64 i), p1)) (hy : rd gc st y = (.t (.int .i64 j), p2)) (hj : forceN j.toNat some = some jn) (hjn : j = (jn : Int)) (h2 : i + jn ≤ 9223372036854775807)
    (hp1 : pall (p1.map fun p => !gc || p)) (hp2 : pall (p2.map fun p => !gc || p)) (hs : stepV st d (.gd gc (.t (.int .i64 ((i + jn : Nat) : Int)))) some = some st')
    (h' : Mid P n m R draw all after live k b ((false, false) :: fl) ops st') : Mid P n m R draw all after live k b fl (⟨d, some (s, want), .bin .add x y⟩ :: ops) st :=
  Mid.valG (v := .t (.int .i64 ((i + jn : Nat) : Int))) (ps := p1 ++ (p2 ++ [])) hg (by subst hjn; simp only [evalE, hx, hy, binT]; simp; exact wrap64 (by omega) (by omega)) rfl (by simp only [List.map_append, pall_app]; exact ⟨hp1, hp2, trivial⟩) hs h'
theorem Mid.add64G {s : Nat} {want gc : Bool} {x y : Ar} {i j : Int} {p1 p2 : List Bool} (hg : gcondF want (look st.env s) = some gc) (hx : rd gc st x = (.t (.int .i64 i), p1)) (hy : rd gc st y = (.t (.int .i64 j), p2)) (h1 : -9223372036854775808 ≤ i + j) (h2 : i + j ≤ 9223372036854775807)
    (hp1 : pall (p1.map fun p => !gc || p)) (hp2 : pall (p2.map fun p => !gc || p)) (hs : stepV st d (.gd gc (.t (.int .i64 (i + j)))) some = some st')
    (h' : Mid P n m R draw all after live k b ((false, false) :: fl) ops st') : Mid P n m R draw all after live k b fl (⟨d, some (s, want), .bin .add x y⟩ :: ops) st :=
  Mid.valG (v := .t (.int .i64 (i + j))) (ps := p1 ++ (p2 ++ [])) hg (by simp only [evalE, hx, hy, binT]; simp [wrap64 h1 h2]) rfl (by simp only [List.map_append, pall_app]; exact ⟨hp1, hp2, trivial⟩) hs h'
theorem Mid.sub64G {s : Nat} {want gc : Bool} {x y : Ar} {i j : Int} {p1 p2 : List Bool} (hg : gcondF want (look st.env s) = some gc) (hx : rd gc st x = (.t (.int .i64 i), p1)) (hy : rd gc st y = (.t (.int .i64 j), p2)) (h1 : -9223372036854775808 ≤ i - j) (h2 : i - j ≤ 9223372036854775807)
    (hp1 : pall (p1.map fun p => !gc || p)) (hp2 : pall (p2.map fun p => !gc || p)) (hs : stepV st d (.gd gc (.t (.int .i64 (i - j)))) some = some st')
    (h' : Mid P n m R draw all after live k b ((false, false) :: fl) ops st') : Mid P n m R draw all after live k b fl (⟨d, some (s, want), .bin .sub x y⟩ :: ops) st :=
  Mid.valG (v := .t (.int .i64 (i - j))) (ps := p1 ++ (p2 ++ [])) hg (by simp only [evalE, hx, hy, binT]; simp [wrap64 h1 h2]) rfl (by simp only [List.map_append, pall_app]; exact ⟨hp1, hp2, trivial⟩) hs h'

/-- parts of strings -/
theorem Mid.strTo {x hi : Ar} {kd : IntKind} {s : List UInt8} {j : Nat} (hx : rd true st x = (.t (.str s), [])) (hh : rd true st hi = (.t (.int kd j), [])) (hj : j ≤ s.length) (hs : stepV st d (.t (.str (s.take j))) some = some st')
    (h' : Mid P n m R draw all after live k b ((false, false) :: fl) ops st') : Mid P n m R draw all after live k b fl (⟨d, none, .sls x none (some hi)⟩ :: ops) st :=
  Mid.val (v := .t (.str (s.take j))) (ps := [true, true, true]) (by simp only [evalE, hx, bnd, hh]; simp [hj]) rfl ⟨rfl, rfl, rfl, trivial⟩ hs h'
theorem Mid.strFrom {x lo : Ar} {kd : IntKind} {s : List UInt8} {j : Nat} (hx : rd true st x = (.t (.str s), [])) (hh : rd true st lo = (.t (.int kd j), [])) (hj : j ≤ s.length) (hs : stepV st d (.t (.str (s.drop j))) some = some st')
    (h' : Mid P n m R draw all after live k b ((false, false) :: fl) ops st') : Mid P n m R draw all after live k b fl (⟨d, none, .sls x (some lo) none⟩ :: ops) st :=
  Mid.val (v := .t (.str (s.drop j))) (ps := [true, true, true]) (by simp only [evalE, hx, bnd, hh]; simp [hj]) rfl ⟨rfl, rfl, rfl, trivial⟩ hs h'
theorem Mid.strSub {x lo hi : Ar} {kd kd' : IntKind} {s : List UInt8} {i j : Nat} (hx : rd true st x = (.t (.str s), [])) (hl : rd true st lo = (.t (.int kd i), [])) (hh : rd true st hi = (.t (.int kd' j), [])) (hi' : i ≤ j) (hj : j ≤ s.length) (hs : stepV st d (.t (.str ((s.take j).drop i))) some = some st')
    (h' : Mid P n m R draw all after live k b ((false, false) :: fl) ops st') : Mid P n m R draw all after live k b fl (⟨d, none, .sls x (some lo) (some hi)⟩ :: ops) st :=
  Mid.val (v := .t (.str ((s.take j).drop i))) (ps := [true, true, true]) (by simp only [evalE, hx, bnd, hl, hh]; simp [hj, hi']) rfl ⟨rfl, rfl, rfl, trivial⟩ hs h'
theorem Mid.strToG {sl : Nat} {want gc : Bool} {x hi : Ar} {kd : IntKind} {s : List UInt8} {j : Nat} {p1 p2 : List Bool} (hg : gcondF want (look st.env sl) = some gc) (hx : rd gc st x = (.t (.str s), p1)) (hh : rd gc st hi = (.t (.int kd j), p2)) (hj : j ≤ s.length) (hp1 : pall (p1.map fun p => !gc || p)) (hp2 : pall (p2.map fun p => !gc || p)) (hs : stepV st d (.gd gc (.t (.str (s.take j)))) some = some st')
    (h' : Mid P n m R draw all after live k b ((false, false) :: fl) ops st') : Mid P n m R draw all after live k b fl (⟨d, some (sl, want), .sls x none (some hi)⟩ :: ops) st :=
  Mid.valG (v := .t (.str (s.take j))) (ps := p1 ++ ([] ++ (p2 ++ [true, true, true]))) hg (by simp only [evalE, hx, bnd, hh]; simp [hj]) rfl (by simp only [List.map_append, pall_app]; exact ⟨hp1, trivial, hp2, by simp [pall]⟩) hs h'
theorem Mid.strFromG {sl : Nat} {want gc : Bool} {x lo : Ar} {kd : IntKind} {s : List UInt8} {j : Nat} {p1 p2 : List Bool} (hg : gcondF want (look st.env sl) = some gc) (hx : rd gc st x = (.t (.str s), p1)) (hh : rd gc st lo = (.t (.int kd j), p2)) (hj : j ≤ s.length) (hp1 : pall (p1.map fun p => !gc || p)) (hp2 : pall (p2.map fun p => !gc || p)) (hs : stepV st d (.gd gc (.t (.str (s.drop j)))) some = some st')
    (h' : Mid P n m R draw all after live k b ((false, false) :: fl) ops st') : Mid P n m R draw all after live k b fl (⟨d, some (sl, want), .sls x (some lo) none⟩ :: ops) st :=
  Mid.valG (v := .t (.str (s.drop j))) (ps := p1 ++ (p2 ++ ([] ++ [true, true, true]))) hg (by simp only [evalE, hx, bnd, hh]; simp [hj]) rfl (by simp only [List.map_append, pall_app]; exact ⟨hp1, hp2, trivial, by simp [pall]⟩) hs h'

/-- parts of lists -/
theorem Mid.lstTo {α : Type} {f : α → List T} {l : List α} {sz : Nat} {x hi : Ar} {v : V} {kd : IntKind} {j : Nat} (hx : rd true st x = (v, [])) (hv : v.cell1 = some (.lst (l.map f))) (hh : rd true st hi = (.t (.int kd j), [])) (hj : j ≤ l.length) (hsz : ∀ x, (f x).length = sz) (hs : stepV st d (.t (.lst ((l.take j).map f))) some = some st')
    (h' : Mid P n m R draw all after live k b ((false, false) :: fl) ops st') : Mid P n m R draw all after live k b fl (⟨d, none, .sll sz x none (some hi)⟩ :: ops) st :=
  Mid.val (v := .t (.lst ((l.take j).map f))) (ps := [true, true, true, true]) (by simp only [evalE, hx, hv, bnd, hh]; simp [hj, allLen, hsz]) rfl ⟨rfl, rfl, rfl, rfl, trivial⟩ hs h'
theorem Mid.lstFrom {α : Type} {f : α → List T} {l : List α} {sz : Nat} {x lo : Ar} {v : V} {kd : IntKind} {j : Nat} (hx : rd true st x = (v, [])) (hv : v.cell1 = some (.lst (l.map f))) (hh : rd true st lo = (.t (.int kd j), [])) (hj : j ≤ l.length) (hsz : ∀ x, (f x).length = sz) (hs : stepV st d (.t (.lst ((l.drop j).map f))) some = some st')
    (h' : Mid P n m R draw all after live k b ((false, false) :: fl) ops st') : Mid P n m R draw all after live k b fl (⟨d, none, .sll sz x (some lo) none⟩ :: ops) st :=
  Mid.val (v := .t (.lst ((l.drop j).map f))) (ps := [true, true, true, true]) (by simp only [evalE, hx, hv, bnd, hh]; simp [hj, allLen, hsz, List.take_of_length_le]) rfl ⟨rfl, rfl, rfl, rfl, trivial⟩ hs h'

/-- an operation that is guarded away -/
theorem Mid.grdF {op : AOp} {s : Nat} {want gc : Bool} {l : Bool} (hg : gcondF want (look st.env s) = some gc) (hf : gc = false) (hn : evalE gc st op = none) (hl : looksE st op = l) (hs : stepV st d (.gd false .top) some = some st')
    (h' : Mid P n m R draw all after live k b ((l, false) :: fl) ops st') : Mid P n m R draw all after live k b fl (⟨d, some (s, want), op⟩ :: ops) st := by
  rw [gcondF_eq] at hg
  subst hl
  simp only [stepV, V.force_eq, setEnv_eq, St.forceS_eq, Option.some.injEq] at hs
  have e : st' = st.app d { v := .gd false .top, rd := looksE st op } := by rw [← hs]; cases d <;> rfl
  rw [e] at h'
  unfold Mid at h' ⊢
  simp only [evR, evO, hg, hn]
  refine guardSplit (fun h => by rw [hf] at h; cases h) (fun _ => ?_)
  simpa using h'

theorem aget_append {α : Type} {k : Nat} {o : α} : ∀ {a b : List (Nat × α)}, aget a k = some o → aget (a ++ b) k = some o
  | [], b, h => by simp [aget] at h
  | (j, x) :: r, b, h => by
    simp only [List.cons_append, aget] at h ⊢
    split
    · rename_i e; simpa [e] using h
    · rename_i e; simp only [e, if_false] at h; exact aget_append h

/-- the end of a function that has changed nothing that it was handed: all that it made is forgotten -/
theorem EndOk.sameX {s : S} {st : St} {rs : List ARes} {x r : V} {rd : Bool} {ex : List (Nat × AObj)} (hr : ressV st rs = some r) (he : st.s.sto = s.sto ++ ex) (hn : Nat.ble s.nxt st.s.nxt = true) (hs : stoBd s.nxt s.sto = true) (h : LeR s.nxt st.s r x) : EndOk s { v := x, rd := rd } rs .ret st := by
  refine ⟨r, hr, Nat.le_of_ble_eq_true hn, h, .same fun k o hk => ⟨?_, stoBd_at hs k o hk⟩⟩
  rw [he]; exact aget_append hk

/-- A loop along a list. -/
theorem Run.list {α β : Type} {k k' : List It} {c : ACode} {st : St} (l : List α) (stf : Nat → β → St) (Inv : List α → Nat → β → Prop) (j : Nat) (b0 : β) (hk : advK 200 k = .c (.loop c) :: k') (h0 : Inv l 0 b0)
    (h1 : Nat.ble m j = true) (h2 : Nat.ble j st.s.nxt = true) (h3 : Nat.ble j (stf 0 b0).s.nxt = true) (he : LeE j (stf 0 b0).s.nxt st.env (stf 0 b0).env) (hs : LeS j (stf 0 b0).s.nxt st.s.sto (stf 0 b0).s.sto)
    (hend : ∀ b, Inv [] l.length b → Run P n m R (.c c :: .lp c :: k') (stf l.length b))
    (hstep : ∀ (i : Nat) (x : α) (r : List α) (b : β), l[i]? = some x → i < l.length → l.drop (i + 1) = r → Inv (x :: r) i b → (∀ b', Inv r (i + 1) b' → Run P n m R (.lp c :: k') (stf (i + 1) b')) → Run P n m R (.c c :: .lp c :: k') (stf i b)) :
    Run P n m R k st := by
  refine Run.loop hk (Run.weak j rfl ?_ h1 h2 h3 he hs)
  have key : ∀ (r : List α) (i : Nat) (b : β), l.drop i = r → i ≤ l.length → Inv r i b → Run P n m R (.lp c :: k') (stf i b) := by
    intro r
    induction r with
    | nil =>
      intro i b hd hi hb
      have := drop_end hd
      have e : i = l.length := by omega
      subst e
      exact Run.unroll (hend b hb)
    | cons x r ih =>
      intro i b hd hi hb
      obtain ⟨e1, e2, e3⟩ := drop_at hd
      exact Run.unroll (hstep i x r b e1 e3 e2 hb fun b' hb' => ih (i + 1) b' e2 (by omega) hb')
  exact key l 0 b0 rfl (Nat.zero_le _) h0

/-- A loop with a measure. -/
theorem Run.loopM {β : Type} {k k' : List It} {c : ACode} {st : St} (stf : β → St) (Inv : β → Prop) (μ : β → Nat) (j : Nat) (b0 : β) (hk : advK 200 k = .c (.loop c) :: k') (h0 : Inv b0)
    (h1 : Nat.ble m j = true) (h2 : Nat.ble j st.s.nxt = true) (h3 : Nat.ble j (stf b0).s.nxt = true) (he : LeE j (stf b0).s.nxt st.env (stf b0).env) (hs : LeS j (stf b0).s.nxt st.s.sto (stf b0).s.sto)
    (hstep : ∀ (b : β), Inv b → (∀ b', μ b' < μ b → Inv b' → Run P n m R (.lp c :: k') (stf b')) → Run P n m R (.c c :: .lp c :: k') (stf b)) : Run P n m R k st := by
  refine Run.loop hk (Run.weak j rfl ?_ h1 h2 h3 he hs)
  have key : ∀ (f : Nat) (b : β), μ b < f → Inv b → Run P n m R (.lp c :: k') (stf b) := by
    intro f
    induction f with
    | zero => intro b h; omega
    | succ f ih => intro b h hb; exact Run.unroll (hstep b hb fun b' hlt hb' => ih b' (by omega) hb')
  exact key (μ b0 + 1) b0 (by omega) h0

theorem allLen_map {α : Type} {f : α → List T} {sz : Nat} (h : ∀ x, (f x).length = sz) (l : List α) : allLen sz (l.map f) = true := by
  simp [allLen, h]

/- ---------- many steps at once ---------- -/

inductive Cfg where
  | run (k : List It) (st : St)
  | mid (draw : Bool) (all : List AO) (after : List (List Nat)) (live : List Nat) (k : List It) (b : Nat) (fl : List (Bool × Bool)) (ops : List AO) (st : St)

def Go (P : Program) (n m : Nat) (R : St → Prop) : Cfg → Prop
  | .run k st => Run P n m R k st
  | .mid draw all after live k b fl ops st => Mid P n m R draw all after live k b fl ops st

/-- operations that may need a fact -/
def AOp.slow : AOp → Bool
  | .ia _ _ _ => true
  | .iarr _ _ _ _ => true
  | .ixs _ _ => true
  | .ixa _ _ _ _ _ => true
  | .len _ => true
  | .bin .add _ _ => true
  | .bin .sub _ _ => true
  | .bin .mul _ _ => true
  | .bin .quo _ _ => true
  | .bin .rem _ _ => true
  | .sls _ _ _ => true
  | .sll _ _ _ _ => true
  | .lookup _ _ _ _ _ _ => true
  | .lenm _ => true
  | .app _ _ _ _ => true
  | .mksl _ _ _ _ => true
  | .mupd _ _ _ => true
  | .mdel _ _ => true
  | .call _ _ => true
  | .callv _ _ => true
  | _ => false

/-- runs as long as no fact is needed; what must hold is gathered -/
def fastK {ρ : Type} : Nat → Cfg → List (List Bool) → (Cfg → List (List Bool) → ρ) → ρ
  | 0, c, ps, K => K c ps
  | f + 1, .run k st, ps, K =>
    match advK 200 k with
    | .c (.region draw ops after live) :: k' => forceN st.s.nxt fun b => fastK f (.mid draw ops after live k' b [] ops st) ps K
    | k' => K (.run k' st) ps
  | f + 1, .mid draw all after live k b fl [] st, ps, K =>
    match draw with
    | false => regF live b st fun st' => fastK f (.run k st') ps K
    | true => regF live b st fun st' => fastK f (.run k st') ([indep all after fl.reverse] :: ps) K
  | f + 1, .mid draw all after live k b fl (⟨d, g, op⟩ :: ops) st, ps, K =>
    match op.slow with
    | true => K (.mid draw all after live k b fl (⟨d, g, op⟩ :: ops) st) ps
    | false =>
      match g with
      | none =>
        match stepE b st d op with
        | some (b', st', r, c) => fastK f (.mid draw all after live k b' ((r, c) :: fl) ops st') ps K
        | none =>
          match stepP st d op with
          | some ([], st', l) => fastK f (.mid draw all after live k b ((l, false) :: fl) ops st') ps K
          | some (p :: q, st', l) => fastK f (.mid draw all after live k b ((l, false) :: fl) ops st') ((p :: q) :: ps) K
          | none => K (.mid draw all after live k b fl (⟨d, none, op⟩ :: ops) st) ps
      | some (s, want) =>
        match stepG st d s want op with
        | some ([], st', l) => fastK f (.mid draw all after live k b ((l, false) :: fl) ops st') ps K
        | some (p :: q, st', l) => fastK f (.mid draw all after live k b ((l, false) :: fl) ops st') ((p :: q) :: ps) K
        | none => K (.mid draw all after live k b fl (⟨d, some (s, want), op⟩ :: ops) st) ps

def palls : List (List Bool) → Prop
  | [] => True
  | p :: r => pall p ∧ palls r

theorem fastK_ok {ρ : Type} : ∀ (f : Nat) (c : Cfg) (ps : List (List Bool)) (K : Cfg → List (List Bool) → ρ), ∃ c' ps', fastK f c ps K = K c' ps' ∧ (palls ps' → palls ps ∧ (Go P n m R c' → Go P n m R c))
  | 0, c, ps, K => ⟨c, ps, rfl, fun h => ⟨h, fun h => h⟩⟩
  | f + 1, .run k st, ps, K => by
    simp only [fastK]
    split
    · rename_i draw ops after live k' hk
      simp only [forceN_eq]
      obtain ⟨c', ps', h1, h2⟩ := fastK_ok f (.mid draw ops after live k' st.s.nxt [] ops st) ps K
      refine ⟨c', ps', h1, fun h => ⟨(h2 h).1, fun hg => Run.region hk (forceN_eq _ _) ((h2 h).2 hg)⟩⟩
    · exact ⟨_, _, rfl, fun h => ⟨h, fun hg => Run.adv 200 rfl hg⟩⟩
  | f + 1, .mid draw all after live k b fl [] st, ps, K => by
    cases draw with
    | false =>
      simp only [fastK]
      obtain ⟨env, ⟨sto, nx⟩⟩ := st
      simp only [regF, keepK_eq]
      obtain ⟨c', ps', h1, h2⟩ := fastK_ok f (.run k ⟨keepE live env, ⟨sto, b⟩⟩) ps K
      exact ⟨c', ps', h1, fun h => ⟨(h2 h).1, fun hg => Mid.done0 (st' := ⟨keepE live env, ⟨sto, b⟩⟩) (by simp only [regF, keepK_eq]) ((h2 h).2 hg)⟩⟩
    | true =>
      simp only [fastK]
      obtain ⟨env, ⟨sto, nx⟩⟩ := st
      simp only [regF, keepK_eq]
      obtain ⟨c', ps', h1, h2⟩ := fastK_ok f (.run k ⟨keepE live env, ⟨sto, b⟩⟩) ([indep all after fl.reverse] :: ps) K
      refine ⟨c', ps', h1, fun h => ?_⟩
      obtain ⟨⟨g1, g2⟩, g3⟩ := h2 h
      exact ⟨g2, fun hg => Mid.done (st' := ⟨keepE live env, ⟨sto, b⟩⟩) (by simp only [regF, keepK_eq]) (fun _ => g1.1) (g3 hg)⟩
  | f + 1, .mid draw all after live k b fl (⟨d, g, op⟩ :: ops) st, ps, K => by
    simp only [fastK]
    split
    · exact ⟨_, _, rfl, fun h => ⟨h, fun h => h⟩⟩
    · split
      · split
        · rename_i b' st' r c he
          obtain ⟨c', ps', h1, h2⟩ := fastK_ok f (.mid draw all after live k b' ((r, c) :: fl) ops st') ps K
          exact ⟨c', ps', h1, fun h => ⟨(h2 h).1, fun hg => Mid.eff he ((h2 h).2 hg)⟩⟩
        · split
          · rename_i st' l hs
            obtain ⟨c', ps', h1, h2⟩ := fastK_ok f (.mid draw all after live k b ((l, false) :: fl) ops st') ps K
            exact ⟨c', ps', h1, fun h => ⟨(h2 h).1, fun hg => Mid.pure0 hs ((h2 h).2 hg)⟩⟩
          · rename_i p q st' l hs
            obtain ⟨c', ps', h1, h2⟩ := fastK_ok f (.mid draw all after live k b ((l, false) :: fl) ops st') ((p :: q) :: ps) K
            exact ⟨c', ps', h1, fun h => ⟨(h2 h).1.2, fun hg => Mid.pure hs (h2 h).1.1 ((h2 h).2 hg)⟩⟩
          · exact ⟨_, _, rfl, fun h => ⟨h, fun h => h⟩⟩
      · split
        · rename_i st' l hs
          obtain ⟨c', ps', h1, h2⟩ := fastK_ok f (.mid draw all after live k b ((l, false) :: fl) ops st') ps K
          exact ⟨c', ps', h1, fun h => ⟨(h2 h).1, fun hg => Mid.grd hs trivial ((h2 h).2 hg)⟩⟩
        · rename_i p q st' l hs
          obtain ⟨c', ps', h1, h2⟩ := fastK_ok f (.mid draw all after live k b ((l, false) :: fl) ops st') ((p :: q) :: ps) K
          exact ⟨c', ps', h1, fun h => ⟨(h2 h).1.2, fun hg => Mid.grd hs (h2 h).1.1 ((h2 h).2 hg)⟩⟩
        · exact ⟨_, _, rfl, fun h => ⟨h, fun h => h⟩⟩

/-- is there a step to take? -/
def Cfg.canGo : Cfg → Bool
  | .run k _ => match advK 200 k with | .c (.region _ _ _ _) :: _ => true | _ => false
  | .mid _ _ _ _ _ _ _ [] _ => true
  | .mid _ _ _ _ _ b _ (⟨d, g, op⟩ :: _) st =>
    match op.slow with
    | true => false
    | false =>
      match g with
      | none => match stepE b st d op with | some _ => true | none => match stepP st d op with | some _ => true | none => false
      | some (s, want) => match stepG st d s want op with | some _ => true | none => false

def fast (f : Nat) (c : Cfg) : Option (Cfg × List (List Bool)) :=
  match c.canGo with
  | true => fastK f c [] fun c' ps => some (c', ps)
  | false => none

theorem Go.fast {f : Nat} {c c' : Cfg} {ps : List (List Bool)} (h : fast f c = some (c', ps)) (hp : palls ps) (h' : Go P n m R c') : Go P n m R c := by
  unfold Go.GB.fast at h
  split at h
  · obtain ⟨c2, ps2, h1, h2⟩ := fastK_ok (P := P) (n := n) (m := m) (R := R) f c [] fun c' ps => some (c', ps)
    rw [h1] at h
    simp at h
    obtain ⟨rfl, rfl⟩ := h
    exact (h2 hp).2 h'
  · cases h

theorem Run.fast {f : Nat} {k : List It} {st : St} {c' : Cfg} {ps : List (List Bool)} (h : fast f (.run k st) = some (c', ps)) (hp : palls ps) (h' : Go P n m R c') : Run P n m R k st := Go.fast (c := .run k st) h hp h'
theorem Mid.fast {f : Nat} {c' : Cfg} {ps : List (List Bool)} (h : fast f (.mid draw all after live k b fl ops st) = some (c', ps)) (hp : palls ps) (h' : Go P n m R c') : Mid P n m R draw all after live k b fl ops st := Go.fast (c := .mid draw all after live k b fl ops st) h hp h'

attribute [irreducible] Run Mid

end
end Go.GB
