/-
  YtilonlfmalfofaaP6: lemmas of this proof (part 6). No conditions.
-/
import Derived.Test.YtilonlfmalfofaaP5
import Derived.Test.YtilonlfmalfofaaP2
import Derived.Carry
import Derived.Handed
import Derived.ChangeSame
import Derived.ProofKit
import Derived.OpenShut

/-
  A43P: contracts of chapter 43's functions: left, known.
-/
namespace Go.GB.C43
open Go.GB
set_option linter.unusedSimpArgs false
set_option linter.unusedVariables false
set_option maxRecDepth 100000
set_option maxHeartbeats 2000000
variable {P : Program}

mutual
def leftP (m : Str → Str → Bool) : Pick → Nat
  | .mk _ o n _ _ _ _ ps => if m o n = true then ps.length + leftS m ps else 0
def leftS (m : Str → Str → Bool) : List Pick → Nat
  | [] => 0
  | p :: r => leftP m p + leftS m r
end
def lefts (m : Str → Str → Bool) (l : List Pick) : Nat := l.length + leftS m l
theorem leftP_eq (m : Str → Str → Bool) (p : Pick) : leftP m p = if m p.on p.name = true then lefts m p.picks else 0 := by cases p; simp only [leftP, lefts, Pick.on, Pick.name, Pick.picks]; rfl
theorem left_le (m : Str → Str → Bool) : ∀ (k : Nat) (l : List Pick), Pick.cnts l ≤ k → lefts m l ≤ Pick.cnts l
  | _, [], _ => by simp [lefts, leftS]
  | 0, p :: r, h => by have := Pick.cnt_eq p; simp [Pick.cnts] at h; omega
  | k + 1, p :: r, h => by
    have hc := Pick.cnt_eq p
    simp only [Pick.cnts] at h
    have h1 := left_le m k p.picks (by omega)
    have h2 := left_le m k r (by omega)
    have h3 := leftP_eq m p
    simp only [lefts, leftS, List.length_cons, Pick.cnts] at *
    split at h3 <;> omega
def LeftC (P : Program) (ds : List Def) (u : User) (l : List Pick) : Prop := FnOk P 31 [docV ds, .t (.lst (l.map Pick.enc)), u.v] ⟨[], 0⟩ { v := .t (.int .i64 (lefts (mayP ds u) l : Nat)) }
theorem left_step (H : Pr P) (ds : List Def) (ho : DocOk ds) (u : User) (hu : u.scopes.length ≤ 140737488355328) (l : List Pick) (hO : ∀ p, p ∈ l → p.Ok) (hn : Pick.cnts l ≤ 10000)
    (hrec : ∀ p, p ∈ l → LeftC P ds u p.picks) : LeftC P ds u l := by
  have hll := Pick.cnts_len l
  have hle := left_le (mayP ds u) _ l (Nat.le_refl _)
  unfold LeftC
  refine FnOk.run H.i31 H.mixed rfl rfl ?_
  refine fR rfl ?_
  refine lM rfl rfl rfl ?_
  refine fM rfl ?_
  refine rList l (fun i (t : Nat) => { env := [(1, .t (.lst (l.map Pick.enc))), (3, .ptr 0 0), (5, .ptr 1 0), (7, .t (.int .i64 (t : Nat))), (8, .t (.int .i64 i))], s := ⟨[(0, .cells [.t (.lst (ds.map Def.enc))]), (1, .cells [.t (.bool u.known), .t (.lst (u.scopes.map sE))])], 2⟩ }) (fun r i t => t + leftS (mayP ds u) r = lefts (mayP ds u) l) 2 l.length rfl (by simp [lefts]) rfl rfl rfl ?_ ?_
  · intro t hh
    refine fR rfl ?_
    refine lM rfl rfl rfl ?_
    refine fM rfl ?_
    refine Run.condF rfl rfl (by simp) ?_
    refine fR rfl ?_
    refine Run.fin rfl (EndOk.go ?_); exact .t (by simp [← hh, leftS])
  · intro i x r t h1 hi hd hinv ih
    have hxm := List.mem_of_getElem? h1
    have hx := hO x hxm
    have hc := hrec x hxm
    unfold LeftC at hc
    have hpe := leftP_eq (mayP ds u) x
    have hinv' : t + (leftP (mayP ds u) x + leftS (mayP ds u) r) = lefts (mayP ds u) l := hinv
    refine fR rfl ?_
    refine lM rfl rfl rfl ?_
    refine fM rfl ?_
    refine Run.condT rfl rfl (by simp; omega) ?_
    refine fR rfl ?_
    refine Mid.elemMapC (Pick.enc_eq x) rfl rfl rfl h1 rfl rfl ?_
    refine fM rfl ?_
    refine Mid.elemMapC (Pick.enc_eq x) rfl rfl rfl h1 rfl rfl ?_
    refine fM rfl ?_
    refine Mid.call (may_ok H ds ho x.on x.name u hu) rfl rfl rfl rfl ?_
    refine fM rfl ?_
    refine Run.cond rfl rfl (fun hm => ?_) (fun hm => ?_)
    · have hm' : mayP ds u x.on x.name = true := by simpa using hm
      rw [hm', if_pos rfl] at hpe
      refine fR rfl ?_
      refine Mid.elemMapC (Pick.enc_eq x) rfl rfl rfl h1 rfl rfl ?_
      refine fM rfl ?_
      refine Mid.call (hc) rfl rfl rfl rfl ?_
      refine aN rfl rfl rfl ?_
      refine fM rfl ?_
      refine aL rfl rfl rfl rfl rfl ?_
      refine fM rfl ?_
      exact rWeak 2 rfl (ih (t + lefts (mayP ds u) x.picks) (by omega)) rfl rfl rfl
    · have hm' : mayP ds u x.on x.name = false := by simpa using hm
      rw [hm', if_neg (by simp)] at hpe
      refine fR rfl ?_
      refine aL rfl rfl rfl rfl rfl ?_
      refine fM rfl ?_
      exact rWeak 2 rfl (ih t (by omega)) rfl rfl rfl
theorem left_ok (H : Pr P) (ds : List Def) (ho : DocOk ds) (u : User) (hu : u.scopes.length ≤ 140737488355328) : ∀ (k : Nat) (l : List Pick), SizeOf.sizeOf l ≤ k → Pick.cnts l ≤ 10000 → (∀ p, p ∈ l → p.Ok) → LeftC P ds u l
  | 0, l, h, _, _ => by cases l <;> simp at h
  | k + 1, l, h, hl, hO => left_step H ds ho u hu l hO hl fun p hp => left_ok H ds ho u hu k p.picks (by
      have h1 := List.sizeOf_lt_of_mem hp
      have h2 : SizeOf.sizeOf p.picks < SizeOf.sizeOf p := by cases p; simp [Pick.picks]; omega
      omega) (by have := cnt_le hp; have := Pick.cnt_eq p; omega) (hO p hp).p

/- known: every scope is a text that is a, b or c -/
def okScope (x : Val) : Bool := x.kind == 3 && (x.text == [97] || x.text == [98] || x.text == [99])
def okArg (a : Arg) : Bool := a.val.items.all okScope
def scopeArgs (d : Dir) : List Arg := if d.name = scopesS then d.args else []
def knownP (l : List Dir) : Bool := l.all fun d => (scopeArgs d).all okArg
theorem scopeArgs_at {d : Dir} {j : Nat} {a : Arg} (h : (scopeArgs d)[j]? = some a) : d.args[j]? = some a ∧ j < d.args.length ∧ d.name = scopesS := by
  unfold scopeArgs at h
  split at h
  · rename_i hn
    refine ⟨h, ?_, hn⟩
    obtain ⟨hj, _⟩ := List.getElem?_eq_some_iff.1 h; exact hj
  · simp at h
theorem scopeArgs_end (d : Dir) : ¬ ((scopeArgs d).length < d.args.length ∧ d.name = scopesS) := by
  rintro ⟨h1, h2⟩
  unfold scopeArgs at h1
  rw [if_pos h2] at h1; omega
theorem known_ok (H : Pr P) (l : List Dir) (hl : l.length ≤ 140737488355328) (hO : ∀ d, d ∈ l → d.Ok) : FnOk P 29 [.t (.lst (l.map Dir.enc))] ⟨[], 0⟩ { v := .t (.bool (knownP l)) } := by
  refine FnOk.run H.i29 H.mixed rfl rfl ?_
  refine fR rfl ?_
  refine rList l (fun i (_ : Unit) => { env := [(0, .t (.lst (l.map Dir.enc))), (3, .t (.int .i64 i))], s := ⟨[], 0⟩ }) (fun r i _ => knownP l = knownP r) 0 () rfl rfl rfl rfl rfl ?_ ?_
  · intro _ hh
    refine fR rfl ?_
    refine lM rfl rfl rfl ?_
    refine fM rfl ?_
    refine Run.condF rfl rfl (by simp) ?_
    refine fR rfl ?_
    refine Run.fin rfl (EndOk.go ?_); exact .t (by rw [hh]; simp [knownP])
  · intro i d r _ h1 hi hd hinv ih
    have hdo := hO d (List.mem_of_getElem? h1)
    have hal := hdo.l
    have hend := scopeArgs_end d
    have hinv' : knownP l = ((scopeArgs d).all okArg && knownP r) := by rw [hinv]; simp [knownP]
    refine fR rfl ?_
    refine lM rfl rfl rfl ?_
    refine fM rfl ?_
    refine Run.condT rfl rfl (by simp; omega) ?_
    refine fR rfl ?_
    refine rList (scopeArgs d) (fun j (_ : Unit) => { env := [(0, .t (.lst (l.map Dir.enc))), (3, .t (.int .i64 i)), (4, .t (.int .i64 j))], s := ⟨[], 0⟩ }) (fun r' j _ => knownP l = (r'.all okArg && knownP r)) 0 () rfl hinv' rfl rfl rfl ?_ ?_
    · intro _ hh
      refine fR rfl ?_
      refine Mid.elemMap rfl rfl rfl h1 rfl rfl ?_
      refine fM rfl ?_
      refine lM rfl rfl rfl ?_
      refine fM rfl ?_
      refine elG rfl rfl rfl rfl h1 rfl rfl ?_
      refine fM rfl ?_
      refine Run.condF rfl rfl (by simp at hend ⊢; exact hend) ?_
      refine fR rfl ?_
      refine aL rfl rfl rfl rfl rfl ?_
      refine fM rfl ?_
      exact rWeak 0 rfl (ih () (by simpa using hh)) rfl rfl rfl
    · intro j a r' _ ha' hj hjd hh ihj
      obtain ⟨ha, hj', hna⟩ := scopeArgs_at ha'
      have hao : a.val.Ok := hdo.a a (List.mem_of_getElem? ha)
      have hil := hao.il
      have hh' : knownP l = (a.val.items.all okScope && (r'.all okArg && knownP r)) := by rw [hh]; simp [okArg, Bool.and_assoc]
      refine fR rfl ?_
      refine Mid.elemMap rfl rfl rfl h1 rfl rfl ?_
      refine fM rfl ?_
      refine lM rfl rfl rfl ?_
      refine fM rfl ?_
      refine elG rfl rfl rfl rfl h1 rfl rfl ?_
      refine fM rfl ?_
      refine Run.condT rfl rfl (by simp [hna, scopesS]; omega) ?_
      refine fR rfl ?_
      refine Mid.elemMap rfl rfl rfl h1 rfl rfl ?_
      refine fM rfl ?_
      refine Mid.elemMap rfl rfl rfl ha rfl rfl ?_
      refine fM rfl ?_
      refine rList a.val.items (fun k (_ : Unit) => { env := [(0, .t (.lst (l.map Dir.enc))), (3, .t (.int .i64 i)), (4, .t (.int .i64 j)), (5, .ptr 0 0), (6, .t (.int .i64 k))], s := ⟨[(0, .cells [.t (.int .i64 a.val.kind), .t (.int .i64 a.val.int), .t (.str a.val.text), .t (.lst (a.val.items.map Val.enc)), .t (.lst (a.val.keys.map sE))])], 1⟩ }) (fun r'' k _ => knownP l = (r''.all okScope && (r'.all okArg && knownP r))) 1 () rfl hh' rfl rfl rfl ?_ ?_
      · intro _ hhh
        refine fR rfl ?_
        refine lM rfl rfl rfl ?_
        refine fM rfl ?_
        refine Run.condF rfl rfl (by simp) ?_
        refine fR rfl ?_
        refine aL rfl rfl rfl rfl rfl ?_
        refine fM rfl ?_
        exact rWeak 0 rfl (ihj () (by simpa using hhh)) rfl rfl rfl
      · intro k x r'' _ hx hk hkd hhh ihk
        have hhh' : knownP l = (okScope x && (r''.all okScope && (r'.all okArg && knownP r))) := by rw [hhh]; simp [Bool.and_assoc]
        refine fR rfl ?_
        refine lM rfl rfl rfl ?_
        refine fM rfl ?_
        refine Run.condT rfl rfl (by simp; omega) ?_
        refine fR rfl ?_
        refine Mid.elemMapC (Val.enc_eq x) rfl rfl rfl hx rfl rfl ?_
        refine fM rfl ?_
        refine Mid.elemMapC (Val.enc_eq x) rfl rfl rfl hx rfl rfl ?_
        refine fM rfl ?_
        refine Run.cond rfl rfl (fun hb => ?_) (fun hb => ?_)
        · have : okScope x = false := by
            unfold okScope
            revert hb; simp only [bne]; cases (x.kind == 3) <;> cases (x.text == [97]) <;> cases (x.text == [98]) <;> cases (x.text == [99]) <;> simp
          refine fR rfl ?_
          refine Run.fin rfl (EndOk.go ?_); exact .t (by simp [hhh', this])
        · have : okScope x = true := by
            unfold okScope
            revert hb; simp only [bne]; cases (x.kind == 3) <;> cases (x.text == [97]) <;> cases (x.text == [98]) <;> cases (x.text == [99]) <;> simp
          refine fR rfl ?_
          refine aL rfl rfl rfl rfl rfl ?_
          refine fM rfl ?_
          exact rWeak 1 rfl (ihk () (by rw [hhh', this]; simp)) rfl rfl rfl
end Go.GB.C43

/-
  A43Q: contracts of chapter 43's functions: text, exact.
-/
namespace Go.GB.C43
open Go.GB
set_option linter.unusedSimpArgs false
set_option linter.unusedVariables false
set_option maxRecDepth 100000
set_option maxHeartbeats 2000000
variable {P : Program}

theorem text2_ok (H : Pr P) (s : Str) : FnOk P 48 [.t (.str s)] ⟨[], 0⟩ { v := (textV s).v } := by
  refine FnOk.run H.i48 H.mixed rfl rfl ?_
  refine fR rfl ?_
  refine Run.fin rfl (EndOk.go ?_); exact .agg (.cons (.t rfl) (.cons (.t rfl) (.cons (.t rfl) (.cons (.nil rfl) (.cons (.nil rfl) .nil)))))

/- exact: the response is just what the selections ask for -/
def tn (v : Val) : Str := (v.items.head?.getD Val.zero).text
def exPicks (f : List Pick → Val → Bool) (v : Val) : Nat → List Pick → Bool
  | n, [] => decide (n = v.keys.length)
  | n, p :: r => if p.on = tn v then
      (match v.keys[n]?, v.items[n]? with
        | some key, some x => decide (key = p.key) && f p.picks x && !(decide (key ∈ v.keys.take n)) && exPicks f v (n + 1) r
        | _, _ => false)
      else exPicks f v n r
def hdOk (v : Val) : Bool := decide (v.keys.length = v.items.length) && decide (v.keys.head? = some tS) && decide (v.items.head? = some (textV (tn v))) && decide (v.int = 0) && decide (v.text = [])
def exF : Nat → List Pick → Val → Bool
  | 0, _, _ => false
  | k + 1, l, v =>
    if v.kind = 5 then v.items.all (exF k l) && decide (v.keys = []) && decide (v.int = 0) && decide (v.text = [])
    else if v.kind = 6 then hdOk v && exPicks (exF k) v 1 l
    else true
def ExC (P : Program) (k : Nat) (l : List Pick) (v : Val) : Prop := FnOk P 30 [.t (.lst (l.map Pick.enc)), v.v] ⟨[], 0⟩ { v := .t (.bool (exF k l v)) }
def items5 (v : Val) : List Val := if v.kind = 5 then v.items else []
theorem items5_at {v : Val} {j : Nat} {a : Val} (h : (items5 v)[j]? = some a) : v.items[j]? = some a ∧ j < v.items.length ∧ v.kind = 5 := by
  unfold items5 at h
  split at h
  · rename_i hn
    obtain ⟨hj, _⟩ := List.getElem?_eq_some_iff.1 h; exact ⟨h, hj, hn⟩
  · simp at h
theorem items5_end (v : Val) : ¬ ((items5 v).length < v.items.length ∧ v.kind = 5) := by
  rintro ⟨h1, h2⟩
  unfold items5 at h1
  rw [if_pos h2] at h1; omega
section
variable {n m : Nat} {R : St → Prop} {draw : Bool} {all : List AO} {after : List (List Nat)} {live : List Nat} {k : List It} {b : Nat} {fl : List (Bool × Bool)} {ops : List AO} {st st' : St} {d : Option Nat}
/-- an index past the end, guarded away -/
theorem elemOffG {α : Type} {f : α → List T} {l : List α} {sz j : Nat} {s : Nat} {want gc : Bool} {x i : Ar} {v : V} {kd : IntKind} {p1 p2 : List Bool} (hg : gcondF want (look st.env s) = some gc) (hx : rd gc st x = (v, p1)) (hv : v.cell1 = some (.lst (l.map f))) (hi : rd gc st i = (.t (.int kd j), p2)) (hc : l.length ≤ j) (hf : gc = false)
    (hl : looksE st (.ia sz x i) = false) (hs : stepV st d (.gd false .top) some = some st') (h' : Mid P n m R draw all after live k b ((false, false) :: fl) ops st') : Mid P n m R draw all after live k b fl (⟨d, some (s, want), .ia sz x i⟩ :: ops) st := by
  have hc' : (l.map f)[j]? = none := List.getElem?_eq_none (by simpa using hc)
  refine Mid.grdF hg hf ?_ hl hs h'
  simp only [evalE, hx, hi]
  cases v <;> simp_all [V.cell1]
end
theorem exact_step (H : Pr P) (k : Nat) (l : List Pick) (v : Val) (hl : l.length ≤ 140737488355328) (hO : ∀ p, p ∈ l → p.Ok) (hv : v.Ok)
    (hrec : ∀ x, x ∈ v.items → ∀ l' : List Pick, l'.length ≤ 140737488355328 → (∀ p, p ∈ l' → p.Ok) → ExC P k l' x) : ExC P (k + 1) l v := by
  have hil := hv.il
  have hkl := hv.kl
  have hend := items5_end v
  have hE : exF (k + 1) l v = if v.kind = 5 then v.items.all (exF k l) && decide (v.keys = []) && decide (v.int = 0) && decide (v.text = [])
    else if v.kind = 6 then hdOk v && exPicks (exF k) v 1 l else true := rfl
  unfold ExC
  generalize exF (k + 1) l v = E at hE ⊢
  have hE5 : v.kind = 5 → E = ((items5 v).all (exF k l) && (decide (v.keys = []) && decide (v.int = 0) && decide (v.text = []))) := by
    intro h5; rw [hE, if_pos h5]; simp [items5, h5, Bool.and_assoc]
  refine FnOk.run H.i30 H.mixed rfl rfl ?_
  refine fR rfl ?_
  refine rList (items5 v) (fun i (_ : Unit) => { env := [(0, .t (.lst (l.map Pick.enc))), (3, .ptr 0 0), (5, .t (.int .i64 i))], s := ⟨[(0, .cells [.t (.int .i64 v.kind), .t (.int .i64 v.int), .t (.str v.text), .t (.lst (v.items.map Val.enc)), .t (.lst (v.keys.map sE))])], 1⟩ }) (fun r i _ => v.kind = 5 → E = (r.all (exF k l) && (decide (v.keys = []) && decide (v.int = 0) && decide (v.text = [])))) 1 () rfl hE5 rfl rfl rfl ?_ ?_
  · intro _ hh
    refine fR rfl ?_
    refine lM rfl rfl rfl ?_
    refine fM rfl ?_
    refine Run.condF rfl rfl (by simp at hend ⊢; exact hend) ?_
    refine fR rfl ?_
    refine lMG rfl rfl rfl rfl ?_
    refine fM rfl ?_
    refine Run.cond rfl rfl (fun h5 => ?_) (fun h5 => ?_)
    · have : E = false := by
        simp only [Bool.and_eq_true, Bool.or_eq_true, beq_iff_eq] at h5
        rw [hE5 h5.1]
        have h5' := h5.2
        simp at h5' ⊢
        intro _ h7 h8 h9
        simp [h7, h8, h9] at h5'
      refine fR rfl ?_
      refine Run.fin rfl (EndOk.go ?_); exact .t (by rw [this])
    · have h5' : v.kind = 5 → E = true := by
        intro hk
        rw [hh hk]
        simp [hk] at h5
        simp [h5]
      refine fR rfl ?_
      refine Run.cond rfl rfl (fun h6 => ?_) (fun h6 => ?_)
      · have : E = true := by
          by_cases hk : v.kind = 5
          · exact h5' hk
          · rw [hE, if_neg hk, if_neg (by simpa using h6)]
        refine fR rfl ?_
        refine Run.fin rfl (EndOk.go ?_); exact .t (by rw [this])
      · have h6' : v.kind = 6 := by simpa using h6
        have hE6 : E = (hdOk v && exPicks (exF k) v 1 l) := by rw [hE, if_neg (by omega), if_pos h6']
        refine fR rfl ?_
        refine lM rfl rfl rfl ?_
        refine fM rfl ?_
        refine lM rfl rfl rfl ?_
        refine fM rfl ?_
        refine lMG rfl rfl rfl rfl ?_
        refine fM rfl ?_
        by_cases hks : v.keys = []
        · have hdf : hdOk v = false := by simp [hdOk, hks]
          rw [hdf, Bool.false_and] at hE6
          generalize hb : ((((v.keys.length : Nat) : Int) != (v.items.length : Nat)) || (((v.keys.length : Nat) : Int) == 0)) = b
          obtain rfl : b = true := by rw [← hb, hks]; simp
          rw [hks]
          by_cases his : v.items = []
          · rw [his]
            refine Mid.grdF rfl rfl rfl rfl rfl ?_
            refine Mid.grdF rfl rfl rfl rfl rfl ?_
            refine Mid.grdF rfl rfl rfl rfl rfl ?_
            refine fM rfl ?_
            refine Mid.grdF rfl rfl rfl rfl rfl ?_
            refine Mid.grdF rfl rfl rfl rfl rfl ?_
            refine Mid.grdF rfl rfl rfl rfl rfl ?_
            refine Mid.grdF rfl rfl rfl rfl rfl ?_
            refine fM rfl ?_
            refine Mid.grdF rfl rfl rfl rfl rfl ?_
            refine Mid.grdF rfl rfl rfl rfl rfl ?_
            refine fM rfl ?_
            refine Mid.grdF rfl rfl rfl rfl rfl ?_
            refine Mid.grdF rfl rfl rfl rfl rfl ?_
            refine Mid.grdF rfl rfl rfl rfl rfl ?_
            refine Mid.grdF rfl rfl rfl rfl rfl ?_
            refine Mid.grdF rfl rfl rfl rfl rfl ?_
            refine Mid.grdF rfl rfl rfl rfl rfl ?_
            refine fM rfl ?_
            refine Run.condT rfl rfl rfl ?_
            refine fR rfl ?_
            refine Run.fin rfl (EndOk.go ?_); exact .t (by simp [hE6])
          · obtain ⟨x0, hx0⟩ : ∃ x0, v.items[0]? = some x0 := ⟨v.items[0]'(List.length_pos_iff.2 his), by simp⟩
            refine Mid.grdF rfl rfl rfl rfl rfl ?_
            refine Mid.grdF rfl rfl rfl rfl rfl ?_
            refine Mid.grdF rfl rfl rfl rfl rfl ?_
            refine fM rfl ?_
            refine Mid.elemMapCG (Val.enc_eq x0) rfl rfl rfl rfl hx0 rfl (by (repeat' (first | exact trivial | exact Bool.not_or_self _ | exact grd1 _ | exact grd2 _ | exact grd3 _ _ | exact grd4 _ _ | refine And.intro ?_ ?_ | exact rfl | (simp; done) | (simp <;> omega))); done) (by (repeat' (first | exact trivial | exact Bool.not_or_self _ | exact grd1 _ | exact grd2 _ | exact grd3 _ _ | exact grd4 _ _ | refine And.intro ?_ ?_ | exact rfl | (simp; done) | (simp <;> omega))); done) rfl ?_
            refine fM rfl ?_
            skip
            refine Mid.elemMapCG (Val.enc_eq x0) rfl rfl rfl rfl hx0 rfl (by (repeat' (first | exact trivial | exact Bool.not_or_self _ | exact grd1 _ | exact grd2 _ | exact grd3 _ _ | exact grd4 _ _ | refine And.intro ?_ ?_ | exact rfl | (simp; done) | (simp <;> omega))); done) (by (repeat' (first | exact trivial | exact Bool.not_or_self _ | exact grd1 _ | exact grd2 _ | exact grd3 _ _ | exact grd4 _ _ | refine And.intro ?_ ?_ | exact rfl | (simp; done) | (simp <;> omega))); done) rfl ?_
            refine fM rfl ?_
            skip
            refine Mid.elemMapCG (Val.enc_eq x0) rfl rfl rfl rfl hx0 rfl (by (repeat' (first | exact trivial | exact Bool.not_or_self _ | exact grd1 _ | exact grd2 _ | exact grd3 _ _ | exact grd4 _ _ | refine And.intro ?_ ?_ | exact rfl | (simp; done) | (simp <;> omega))); done) (by (repeat' (first | exact trivial | exact Bool.not_or_self _ | exact grd1 _ | exact grd2 _ | exact grd3 _ _ | exact grd4 _ _ | refine And.intro ?_ ?_ | exact rfl | (simp; done) | (simp <;> omega))); done) rfl ?_
            refine fM rfl ?_
            refine Mid.grdF rfl rfl rfl rfl rfl ?_
            refine Mid.grdF rfl rfl rfl rfl rfl ?_
            refine Mid.grdF rfl rfl rfl rfl rfl ?_
            refine fM rfl ?_
            refine Run.condT rfl rfl rfl ?_
            refine fR rfl ?_
            refine Run.fin rfl (EndOk.go ?_); exact .t (by simp [hE6])
        · obtain ⟨k0, hk0⟩ : ∃ k0, v.keys[0]? = some k0 := ⟨v.keys[0]'(List.length_pos_iff.2 hks), by simp⟩
          by_cases his : v.items = []
          · have hdf : hdOk v = false := by simp [hdOk, his]
            rw [hdf, Bool.false_and] at hE6
            generalize hb : ((((v.keys.length : Nat) : Int) != (v.items.length : Nat)) || (((v.keys.length : Nat) : Int) == 0)) = b
            obtain rfl : b = true := by rw [← hb, his]; simp [hks]
            rw [his]
            refine elG rfl rfl rfl rfl hk0 rfl rfl ?_
            refine fM rfl ?_
            refine Mid.grdF rfl rfl rfl rfl rfl ?_
            refine Mid.grdF rfl rfl rfl rfl rfl ?_
            refine Mid.grdF rfl rfl rfl rfl rfl ?_
            refine Mid.grdF rfl rfl rfl rfl rfl ?_
            refine fM rfl ?_
            refine Mid.grdF rfl rfl rfl rfl rfl ?_
            refine Mid.grdF rfl rfl rfl rfl rfl ?_
            refine fM rfl ?_
            refine Mid.grdF rfl rfl rfl rfl rfl ?_
            refine Mid.grdF rfl rfl rfl rfl rfl ?_
            refine Mid.grdF rfl rfl rfl rfl rfl ?_
            refine Mid.grdF rfl rfl rfl rfl rfl ?_
            refine Mid.grdF rfl rfl rfl rfl rfl ?_
            refine Mid.grdF rfl rfl rfl rfl rfl ?_
            refine fM rfl ?_
            refine Run.condT rfl rfl rfl ?_
            refine fR rfl ?_
            refine Run.fin rfl (EndOk.go ?_); exact .t (by simp [hE6])
          obtain ⟨x0, hx0⟩ : ∃ x0, v.items[0]? = some x0 := ⟨v.items[0]'(List.length_pos_iff.2 his), by simp⟩
          have hx0o := hv.it x0 (List.mem_of_getElem? hx0)
          have htn : tn v = x0.text := by unfold tn; rw [List.head?_eq_getElem?, hx0]; rfl
          have hhd : hdOk v = (decide (v.keys.length = v.items.length) && decide (k0 = tS) && decide (x0 = textV x0.text) && decide (v.int = 0) && decide (v.text = [])) := by
            unfold hdOk; rw [List.head?_eq_getElem?, hk0, List.head?_eq_getElem?, hx0, htn]; simp
          refine elG rfl rfl rfl rfl hk0 rfl rfl ?_
          refine fM rfl ?_
          refine Mid.elemMapCG (Val.enc_eq x0) rfl rfl rfl rfl hx0 rfl (by (repeat' (first | exact trivial | exact Bool.not_or_self _ | exact grd1 _ | exact grd2 _ | exact grd3 _ _ | exact grd4 _ _ | refine And.intro ?_ ?_ | exact rfl | (simp; done) | (simp <;> omega))); done) (by (repeat' (first | exact trivial | exact Bool.not_or_self _ | exact grd1 _ | exact grd2 _ | exact grd3 _ _ | exact grd4 _ _ | refine And.intro ?_ ?_ | exact rfl | (simp; done) | (simp <;> omega))); done) rfl ?_
          refine fM rfl ?_
          refine Mid.elemMapCG (Val.enc_eq x0) rfl rfl rfl rfl hx0 rfl (by (repeat' (first | exact trivial | exact Bool.not_or_self _ | exact grd1 _ | exact grd2 _ | exact grd3 _ _ | exact grd4 _ _ | refine And.intro ?_ ?_ | exact rfl | (simp; done) | (simp <;> omega))); done) (by (repeat' (first | exact trivial | exact Bool.not_or_self _ | exact grd1 _ | exact grd2 _ | exact grd3 _ _ | exact grd4 _ _ | refine And.intro ?_ ?_ | exact rfl | (simp; done) | (simp <;> omega))); done) rfl ?_
          refine fM rfl ?_
          refine Mid.elemMapCG (Val.enc_eq x0) rfl rfl rfl rfl hx0 rfl (by (repeat' (first | exact trivial | exact Bool.not_or_self _ | exact grd1 _ | exact grd2 _ | exact grd3 _ _ | exact grd4 _ _ | refine And.intro ?_ ?_ | exact rfl | (simp; done) | (simp <;> omega))); done) (by (repeat' (first | exact trivial | exact Bool.not_or_self _ | exact grd1 _ | exact grd2 _ | exact grd3 _ _ | exact grd4 _ _ | refine And.intro ?_ ?_ | exact rfl | (simp; done) | (simp <;> omega))); done) rfl ?_
          refine fM rfl ?_
          refine caG rfl rfl (fun hg => ⟨_, rfl, text2_ok H x0.text, rfl⟩) rfl rfl ?_
          skip
          refine caG rfl rfl (fun hg => ⟨_, rfl, equal_ok H x0 (textV x0.text) hx0o, rfl⟩) rfl rfl ?_
          refine fM rfl ?_
          have hK : decide (x0 = textV x0.text) = true → x0.kind = 3 := by
            intro h; have h := of_decide_eq_true h; rw [h]; rfl
          generalize decide (x0 = textV x0.text) = dT at hhd hK ⊢
          refine Run.cond rfl rfl (fun h7 => ?_) (fun h7 => ?_)
          · have : hdOk v = false := by
              rw [hhd]
              cases dT with
              | false => simp
              | true =>
                have hK := hK rfl
                simp [hK] at h7
                simp [tS]
                intro q0 q1 q2 q3
                have q4 := List.length_pos_iff.2 hks
                simp [q0, q1, q2, q3, his, hks] at h7
                exact h7 (of_decide_eq_true q1)
            refine fR rfl ?_
            refine Run.fin rfl (EndOk.go ?_); exact .t (by simp [hE6, this])
          · have : hdOk v = true := by
              rw [hhd]
              simp at h7
              simp [tS, h7]
              omega
            have hlen : v.keys.length = v.items.length := by
              rw [hhd] at this; simp only [Bool.and_eq_true] at this; exact of_decide_eq_true this.1.1.1.1
            have hkp := List.length_pos_iff.2 hks
            rw [this, Bool.true_and] at hE6
            refine fR rfl ?_
            refine rList l (fun i (n : Nat) => { env := [(0, .t (.lst (l.map Pick.enc))), (3, .ptr 0 0), (6, .t (.int .i64 n)), (7, .t (.int .i64 i))], s := ⟨[(0, .cells [.t (.int .i64 v.kind), .t (.int .i64 v.int), .t (.str v.text), .t (.lst (v.items.map Val.enc)), .t (.lst (v.keys.map sE))])], 1⟩ }) (fun r i n => n ≤ v.keys.length ∧ E = exPicks (exF k) v n r) 1 1 rfl ⟨hkp, hE6⟩ rfl rfl rfl ?_ ?_
            · rintro n ⟨hn, hh⟩
              refine fR rfl ?_
              refine lM rfl rfl rfl ?_
              refine fM rfl ?_
              refine Run.condF rfl rfl (by simp) ?_
              refine fR rfl ?_
              refine lM rfl rfl rfl ?_
              refine fM rfl ?_
              refine Run.fin rfl (EndOk.go ?_); exact .t (by rw [hh]; simp only [exPicks]; congr 1; rw [Bool.eq_iff_iff]; simp; omega)
            · rintro i p r n hp hi hd ⟨hn, hinv⟩ ih
              have hpo := hO p (List.mem_of_getElem? hp)
              refine fR rfl ?_
              refine lM rfl rfl rfl ?_
              refine fM rfl ?_
              refine Run.condT rfl rfl (by simp; omega) ?_
              refine fR rfl ?_
              refine Mid.elemMapC (Pick.enc_eq p) rfl rfl rfl hp rfl rfl ?_
              refine fM rfl ?_
              refine Mid.elemMapC (Val.enc_eq x0) rfl rfl rfl hx0 rfl rfl ?_
              refine fM rfl ?_
              refine Run.cond rfl rfl (fun h8 => ?_) (fun h8 => ?_)
              · have h8' : ¬ p.on = tn v := by rw [htn]; simpa using h8
                have hinv' : E = exPicks (exF k) v n r := by rw [hinv]; simp only [exPicks]; rw [if_neg h8']
                refine fR rfl ?_
                refine aL rfl rfl rfl rfl rfl ?_
                refine fM rfl ?_
                exact rWeak 1 rfl (ih n ⟨hn, hinv'⟩) rfl rfl rfl
              · have h8' : p.on = tn v := by rw [htn]; simpa using h8
                refine fR rfl ?_
                refine lM rfl rfl rfl ?_
                refine fM rfl ?_
                by_cases hnk : n < v.keys.length
                · obtain ⟨key, hkey⟩ : ∃ key, v.keys[n]? = some key := ⟨v.keys[n]'hnk, by simp⟩
                  obtain ⟨x, hx⟩ : ∃ x, v.items[n]? = some x := ⟨v.items[n]'(by omega), by simp⟩
                  have hinv' : E = (decide (key = p.key) && exF k p.picks x && !(decide (key ∈ v.keys.take n)) && exPicks (exF k) v (n + 1) r) := by
                    rw [hinv]; simp only [exPicks]; rw [if_pos h8', hkey, hx]
                  have hc := hrec x (List.mem_of_getElem? hx) p.picks (by have := hpo.pl; omega) hpo.p
                  unfold ExC at hc
                  refine elG rfl rfl rfl rfl hkey rfl rfl ?_
                  refine fM rfl ?_
                  refine Mid.elemMapCG (Pick.enc_eq p) rfl rfl rfl rfl hp rfl (by (repeat' (first | exact trivial | exact Bool.not_or_self _ | exact grd1 _ | exact grd2 _ | exact grd3 _ _ | exact grd4 _ _ | refine And.intro ?_ ?_ | exact rfl | (simp; done) | (simp <;> omega))); done) (by (repeat' (first | exact trivial | exact Bool.not_or_self _ | exact grd1 _ | exact grd2 _ | exact grd3 _ _ | exact grd4 _ _ | refine And.intro ?_ ?_ | exact rfl | (simp; done) | (simp <;> omega))); done) rfl ?_
                  refine fM rfl ?_
                  refine Mid.elemMapCG (Pick.enc_eq p) rfl rfl rfl rfl hp rfl (by (repeat' (first | exact trivial | exact Bool.not_or_self _ | exact grd1 _ | exact grd2 _ | exact grd3 _ _ | exact grd4 _ _ | refine And.intro ?_ ?_ | exact rfl | (simp; done) | (simp <;> omega))); done) (by (repeat' (first | exact trivial | exact Bool.not_or_self _ | exact grd1 _ | exact grd2 _ | exact grd3 _ _ | exact grd4 _ _ | refine And.intro ?_ ?_ | exact rfl | (simp; done) | (simp <;> omega))); done) rfl ?_
                  refine fM rfl ?_
                  refine Mid.elemMapCG (Val.enc_eq x) rfl rfl rfl rfl hx rfl (by (repeat' (first | exact trivial | exact Bool.not_or_self _ | exact grd1 _ | exact grd2 _ | exact grd3 _ _ | exact grd4 _ _ | refine And.intro ?_ ?_ | exact rfl | (simp; done) | (simp <;> omega))); done) (by (repeat' (first | exact trivial | exact Bool.not_or_self _ | exact grd1 _ | exact grd2 _ | exact grd3 _ _ | exact grd4 _ _ | refine And.intro ?_ ?_ | exact rfl | (simp; done) | (simp <;> omega))); done) rfl ?_
                  refine fM rfl ?_
                  refine caG rfl rfl (fun hg => ⟨_, rfl, hc, rfl⟩) rfl rfl ?_
                  refine fM rfl ?_
                  refine Run.cond rfl rfl (fun h9 => ?_) (fun h9 => ?_)
                  · have : (decide (key = p.key) && exF k p.picks x) = false := by
                      have : ¬ ((v.keys.length : Nat) : Int) ≤ n := by omega
                      simp [this] at h9
                      revert h9
                      cases exF k p.picks x <;> simp
                    refine fR rfl ?_
                    refine Run.fin rfl (EndOk.go ?_); exact .t (by rw [hinv', this]; simp)
                  · have : (decide (key = p.key) && exF k p.picks x) = true := by
                      simp at h9
                      simp [h9]
                    rw [this, Bool.true_and] at hinv'
                    refine fR rfl ?_
                    refine rList (v.keys.take n) (fun j (_ : Unit) => { env := [(0, .t (.lst (l.map Pick.enc))), (3, .ptr 0 0), (6, .t (.int .i64 n)), (7, .t (.int .i64 i)), (8, .t (.int .i64 j))], s := ⟨[(0, .cells [.t (.int .i64 v.kind), .t (.int .i64 v.int), .t (.str v.text), .t (.lst (v.items.map Val.enc)), .t (.lst (v.keys.map sE))])], 1⟩ }) (fun r' j _ => E = (!(decide (key ∈ r')) && exPicks (exF k) v (n + 1) r)) 1 () rfl hinv' rfl rfl rfl ?_ ?_
                    · intro _ hh
                      refine fR rfl ?_
                      refine Run.condF rfl rfl (by simp; omega) ?_
                      refine fR rfl ?_
                      refine aL rfl rfl rfl rfl rfl ?_
                      refine fM rfl ?_
                      refine aL rfl rfl rfl rfl rfl ?_
                      refine fM rfl ?_
                      exact rWeak 1 rfl (ih (n + 1) ⟨by omega, by simpa using hh⟩) rfl rfl rfl
                    · intro j y r' _ hy hj hjd hh ihj
                      have hjn : j < n := by rw [List.length_take] at hj; omega
                      have hy' : v.keys[j]? = some y := by rw [← hy, List.getElem?_take, if_pos hjn]
                      refine fR rfl ?_
                      refine Run.condT rfl rfl (by simp; omega) ?_
                      refine fR rfl ?_
                      refine Mid.elemMap rfl rfl rfl hy' rfl rfl ?_
                      refine fM rfl ?_
                      refine Mid.elemMap rfl rfl rfl hkey rfl rfl ?_
                      refine fM rfl ?_
                      refine Run.cond rfl rfl (fun h10 => ?_) (fun h10 => ?_)
                      · have : key = y := by have : y = key := by simpa using h10
                                             exact this.symm
                        refine fR rfl ?_
                        refine Run.fin rfl (EndOk.go ?_); exact .t (by rw [hh]; simp [this])
                      · have : ¬ key = y := by have : ¬ y = key := by simpa using h10
                                               exact fun e => this e.symm
                        refine fR rfl ?_
                        refine aL rfl rfl rfl rfl rfl ?_
                        refine fM rfl ?_
                        exact rWeak 1 rfl (ihj () (by rw [hh]; simp [this])) rfl rfl rfl
                · have hEf : E = false := by
                    rw [hinv]; simp only [exPicks]; rw [if_pos h8', List.getElem?_eq_none (by omega)]
                  subst hEf
                  have hn' : n = v.keys.length := by omega
                  generalize hb : (decide ((n : Int) ≥ (v.keys.length : Nat))) = b
                  obtain rfl : b = true := by rw [← hb]; simp; omega
                  refine elemOffG rfl rfl rfl rfl (by omega) rfl rfl rfl ?_
                  refine Mid.grdF rfl rfl rfl rfl rfl ?_
                  refine fM rfl ?_
                  refine Mid.elemMapCG (Pick.enc_eq p) rfl rfl rfl rfl hp rfl (by (repeat' (first | exact trivial | exact Bool.not_or_self _ | exact grd1 _ | exact grd2 _ | exact grd3 _ _ | exact grd4 _ _ | refine And.intro ?_ ?_ | exact rfl | (simp; done) | (simp <;> omega))); done) (by (repeat' (first | exact trivial | exact Bool.not_or_self _ | exact grd1 _ | exact grd2 _ | exact grd3 _ _ | exact grd4 _ _ | refine And.intro ?_ ?_ | exact rfl | (simp; done) | (simp <;> omega))); done) rfl ?_
                  refine fM rfl ?_
                  refine Mid.grdF rfl rfl rfl rfl rfl ?_
                  refine fM rfl ?_
                  refine Mid.elemMapCG (Pick.enc_eq p) rfl rfl rfl rfl hp rfl (by (repeat' (first | exact trivial | exact Bool.not_or_self _ | exact grd1 _ | exact grd2 _ | exact grd3 _ _ | exact grd4 _ _ | refine And.intro ?_ ?_ | exact rfl | (simp; done) | (simp <;> omega))); done) (by (repeat' (first | exact trivial | exact Bool.not_or_self _ | exact grd1 _ | exact grd2 _ | exact grd3 _ _ | exact grd4 _ _ | refine And.intro ?_ ?_ | exact rfl | (simp; done) | (simp <;> omega))); done) rfl ?_
                  refine fM rfl ?_
                  skip
                  refine elemOffG rfl rfl rfl rfl (by omega) rfl rfl rfl ?_
                  refine Mid.grdF rfl rfl rfl rfl rfl ?_
                  refine Mid.grdF rfl rfl rfl rfl rfl ?_
                  refine Mid.grdF rfl rfl rfl rfl rfl ?_
                  refine fM rfl ?_
                  refine Run.condT rfl rfl rfl ?_
                  refine fR rfl ?_
                  refine Run.fin rfl (EndOk.go ?_); exact .t rfl
  · intro i x r _ h1' hi hd hinv ih
    obtain ⟨h1, hi', h5⟩ := items5_at h1'
    have hc := hrec x (List.mem_of_getElem? h1) l hl hO
    unfold ExC at hc
    have hinv' := hinv h5
    refine fR rfl ?_
    refine lM rfl rfl rfl ?_
    refine fM rfl ?_
    refine Run.condT rfl rfl (by simp [h5]; omega) ?_
    refine fR rfl ?_
    refine Mid.elemMapC (Val.enc_eq x) rfl rfl rfl h1 rfl rfl ?_
    refine fM rfl ?_
    refine Mid.call (hc) rfl rfl rfl rfl ?_
    refine fM rfl ?_
    refine Run.cond rfl rfl (fun hx => ?_) (fun hx => ?_)
    · have hx' : exF k l x = false := by simpa using hx
      refine fR rfl ?_
      refine Run.fin rfl (EndOk.go ?_); exact .t (by simp [hinv', hx'])
    · have hx' : exF k l x = true := by simpa using hx
      refine fR rfl ?_
      refine aL rfl rfl rfl rfl rfl ?_
      refine fM rfl ?_
      exact rWeak 1 rfl (ih () (by intro _; simp [hinv', hx'])) rfl rfl rfl
end Go.GB.C43


/-
  A43R: contracts of chapter 43's functions: large.
-/
namespace Go.GB.C43
open Go.GB
set_option linter.unusedSimpArgs false
set_option linter.unusedVariables false
set_option maxRecDepth 100000
set_option maxHeartbeats 2000000
variable {P : Program}

def largeP (ds : List Def) (l : List Pick) (u : User) : Bool := decide (((l.length : Nat) : Int) > 200) || decide (wDoc 600 ds > 600) || decide (((u.scopes.length : Nat) : Int) > 50) || decide (deepF 31 l > 200)
theorem large_ok (H : Pr P) (ds : List Def) (hD : DocOk ds) (l : List Pick) (hl : l.length ≤ 140737488355328) (hO : ∀ p, p ∈ l → p.Ok) (u : User) :
    FnOk P 13 [docV ds, .t (.lst (l.map Pick.enc)), u.v] ⟨[], 0⟩ { v := .t (.bool (largeP ds l u)) } := by
  refine FnOk.run H.i13 H.mixed rfl rfl ?_
  refine fR rfl ?_
  refine lM rfl rfl rfl ?_
  refine fM rfl ?_
  refine caG rfl rfl (fun hg => ⟨_, rfl, weightDoc_ok H 600 ds hD, rfl⟩) rfl rfl ?_
  refine fM rfl ?_
  refine lMG rfl rfl rfl rfl ?_
  refine fM rfl ?_
  refine caG rfl rfl (fun hg => ⟨_, rfl, deep_ok H 31 l 0 hl hO (by omega) (by omega), rfl⟩) rfl rfl ?_
  refine fM rfl ?_
  refine Run.fin rfl (EndOk.go ?_); exact .t rfl
theorem large_nil (H : Pr P) (ds : List Def) (hD : DocOk ds) (u : User) :
    FnOk P 13 [docV ds, .nils, u.v] ⟨[], 0⟩ { v := .t (.bool (largeP ds [] u)) } := by
  refine FnOk.run H.i13 H.mixed rfl rfl ?_
  refine fR rfl ?_
  refine p0 rfl ?_
  refine fM rfl ?_
  refine caG rfl rfl (fun hg => ⟨_, rfl, weightDoc_ok H 600 ds hD, rfl⟩) rfl rfl ?_
  refine fM rfl ?_
  refine lMG rfl rfl rfl rfl ?_
  refine fM rfl ?_
  refine caG rfl rfl (fun hg => ⟨_, rfl, deep_ok H 31 [] 0 (by simp) (by simp) (by omega) (by omega), rfl⟩) rfl rfl ?_
  refine fM rfl ?_
  refine Run.fin rfl (EndOk.go ?_); exact .t rfl

/- what the guard gives -/
theorem tot_ge {α : Type} {n : Int} {f : Int → α → Int} (hf : ∀ t x, t ≤ n → t ≤ f t x) : ∀ (l : List α) (t : Int), t ≤ tot n f t l
  | [], t => by simp [tot]
  | x :: r, t => by
    simp only [tot]
    split
    · rename_i h
      have := tot_ge hf r (f t x)
      have := hf t x h
      omega
    · omega
theorem deepF_le : ∀ (k : Nat) (l : List Pick), k ≤ 31 → l.length ≤ 140737488355328 → (∀ p, p ∈ l → p.Ok) → 0 ≤ deepF k l ∧ deepF k l ≤ 140737488355328 + 201 * ((k : Nat) + 1) ∧ (deepF k l ≤ 200 → deepF k l = (Pick.cnts l : Nat))
  | 0, l, _, _, _ => by simp [deepF]
  | k + 1, l, hk, hl, hO => by
    have key : ∀ (r : List Pick) (t : Int), (∀ p, p ∈ r → p.Ok) → 0 ≤ t → t ≤ 140737488355328 + 201 * ((k : Nat) + 2) → (r : List Pick).length ≤ t →
        0 ≤ tot 200 (fDeep k) t r ∧ tot 200 (fDeep k) t r ≤ 140737488355328 + 201 * ((k : Nat) + 2) ∧ (tot 200 (fDeep k) t r ≤ 200 → tot 200 (fDeep k) t r = t + (Pick.cnts r : Nat) - (r.length : Nat)) := by
      intro r
      induction r with
      | nil => intro t _ h0 h1 _; simp [tot, Pick.cnts]; omega
      | cons p r ih =>
        intro t hr h0 h1 h2
        simp only [tot]
        split
        · rename_i ht
          have hp := hr p (List.mem_cons_self ..)
          have hd := deepF_le k p.picks (by omega) (by have := hp.pl; omega) hp.p
          have hce := Pick.cnt_eq p
          have e : fDeep k t p = t + deepF k p.picks := by unfold fDeep; rw [wrap64 (by omega) (by omega)]
          have hlen : ((p :: r).length : Int) = (r.length : Nat) + 1 := by simp
          obtain ⟨a1, a2, a3⟩ := ih (fDeep k t p) (fun q hq => hr q (List.mem_cons_of_mem _ hq)) (by omega) (by omega) (by omega)
          refine ⟨a1, a2, fun h => ?_⟩
          have := a3 h
          have hge : deepF k p.picks ≤ 200 := by
            by_cases hq : fDeep k t p ≤ 200
            · omega
            · have : tot 200 (fDeep k) (fDeep k t p) r = fDeep k t p := by cases r <;> simp [tot, hq]
              omega
          have := hd.2.2 hge
          simp only [Pick.cnts]
          omega
        · rename_i ht
          exact ⟨h0, h1, fun h => absurd h ht⟩
    have := key l (l.length : Nat) hO (by omega) (by omega) (by omega)
    rw [deepF_succ]
    refine ⟨this.1, by have := this.2.1; simp; omega, fun h => ?_⟩
    have := this.2.2 h; omega
theorem large_cnts {ds : List Def} {l : List Pick} {u : User} (hl : l.length ≤ 140737488355328) (hO : ∀ p, p ∈ l → p.Ok) (h : largeP ds l u = false) : Pick.cnts l ≤ 200 := by
  unfold largeP at h
  simp only [Bool.or_eq_false_iff, decide_eq_false_iff_not] at h
  have := (deepF_le 31 l (by omega) hl hO).2.2 (by omega)
  omega
end Go.GB.C43

/-
  A43T: contracts of chapter 43's functions: a list of selections is the same as itself.
-/
namespace Go.GB.C43
open Go.GB
set_option linter.unusedSimpArgs false
set_option linter.unusedVariables false
set_option maxRecDepth 100000
set_option maxHeartbeats 2000000
variable {P : Program}

def SameC (P : Program) (l : List Pick) : Prop := FnOk P 21 [.t (.lst (l.map Pick.enc)), .t (.lst (l.map Pick.enc))] ⟨[], 0⟩ { v := .t (.bool true) }
theorem same_step (H : Pr P) (l : List Pick) (hl : l.length ≤ 140737488355328) (hO : ∀ p, p ∈ l → p.Ok) (hrec : ∀ p, p ∈ l → SameC P p.picks) : SameC P l := by
  unfold SameC
  refine FnOk.run H.i21 H.mixed rfl rfl ?_
  refine fR rfl ?_
  refine lM rfl rfl rfl ?_
  refine fM rfl ?_
  refine lM rfl rfl rfl ?_
  refine fM rfl ?_
  refine Run.condF rfl rfl (by simp) ?_
  refine fR rfl ?_
  refine rList l (fun i (_ : Unit) => { env := [(0, .t (.lst (l.map Pick.enc))), (1, .t (.lst (l.map Pick.enc))), (5, .t (.int .i64 i))], s := ⟨[], 0⟩ }) (fun r i _ => True) 0 () rfl trivial rfl rfl rfl ?_ ?_
  · intro _ _
    refine fR rfl ?_
    refine lM rfl rfl rfl ?_
    refine fM rfl ?_
    refine Run.condF rfl rfl (by simp) ?_
    refine fR rfl ?_
    refine Run.fin rfl (EndOk.go ?_); exact .t rfl
  · intro i x r _ h1 hi hd _ ih
    have hxm := List.mem_of_getElem? h1
    have hx := hO x hxm
    have hal := hx.al
    have hpl := hx.pl
    have hc := hrec x hxm
    unfold SameC at hc
    refine fR rfl ?_
    refine lM rfl rfl rfl ?_
    refine fM rfl ?_
    refine Run.condT rfl rfl (by simp; omega) ?_
    refine fR rfl ?_
    refine Mid.elemMapC (Pick.enc_eq x) rfl rfl rfl h1 rfl rfl ?_
    refine fM rfl ?_
    refine Mid.elemMapC (Pick.enc_eq x) rfl rfl rfl h1 rfl rfl ?_
    refine fM rfl ?_
    refine caG rfl rfl (fun hg => ⟨_, rfl, sameRef_refl H x.ty hx.t, rfl⟩) rfl rfl ?_
    refine fM rfl ?_
    refine lMG rfl rfl rfl rfl ?_
    refine fM rfl ?_
    refine lMG rfl rfl rfl rfl ?_
    refine fM rfl ?_
    refine caG rfl rfl (fun hg => ⟨_, rfl, hc, rfl⟩) rfl rfl ?_
    refine fM rfl ?_
    refine Run.condF rfl rfl (by simp) ?_
    refine fR rfl ?_
    refine rList x.args (fun k (_ : Unit) => { env := [(0, .t (.lst (l.map Pick.enc))), (1, .t (.lst (l.map Pick.enc))), (5, .t (.int .i64 i)), (6, .ptr 0 0), (7, .ptr 1 0), (8, .t (.int .i64 k))], s := ⟨[(1, .cells [.t (.str x.key), .t (.str x.on), .t (.str x.name), .t (.lst (x.args.map Arg.enc)), .t (.str x.ty.name), .t (.lst (x.ty.wraps.map nE)), .t (.str x.label), .t (.int .i64 x.initial), .t (.lst (x.picks.map Pick.enc))]), (0, .cells [.t (.str x.key), .t (.str x.on), .t (.str x.name), .t (.lst (x.args.map Arg.enc)), .t (.str x.ty.name), .t (.lst (x.ty.wraps.map nE)), .t (.str x.label), .t (.int .i64 x.initial), .t (.lst (x.picks.map Pick.enc))])], 2⟩ }) (fun r i _ => True) 2 () rfl trivial rfl rfl rfl ?_ ?_
    · intro _ _
      refine fR rfl ?_
      refine lM rfl rfl rfl ?_
      refine fM rfl ?_
      refine Run.condF rfl rfl (by simp) ?_
      refine fR rfl ?_
      refine aL rfl rfl rfl rfl rfl ?_
      refine fM rfl ?_
      exact rWeak 0 rfl (ih () trivial) rfl rfl rfl
    · intro k a r' _ hk1 hk hkd _ ihk
      have hao : a.val.Ok := hx.aa a (List.mem_of_getElem? hk1)
      refine fR rfl ?_
      refine lM rfl rfl rfl ?_
      refine fM rfl ?_
      refine Run.condT rfl rfl (by simp; omega) ?_
      refine fR rfl ?_
      refine Mid.elemMap rfl rfl rfl hk1 rfl rfl ?_
      refine fM rfl ?_
      refine Mid.elemMap rfl rfl rfl hk1 rfl rfl ?_
      refine fM rfl ?_
      refine elG rfl rfl rfl rfl hk1 rfl rfl ?_
      refine fM rfl ?_
      refine elG rfl rfl rfl rfl hk1 rfl rfl ?_
      refine fM rfl ?_
      refine caG rfl rfl (fun hg => ⟨_, rfl, sameV_refl H a.val hao, rfl⟩) rfl rfl ?_
      refine fM rfl ?_
      refine Run.condF rfl rfl (by simp) ?_
      refine fR rfl ?_
      refine aL rfl rfl rfl rfl rfl ?_
      refine fM rfl ?_
      exact rWeak 2 rfl (ihk () trivial) rfl rfl rfl
theorem same_refl' (H : Pr P) : ∀ (k : Nat) (l : List Pick), SizeOf.sizeOf l ≤ k → l.length ≤ 140737488355328 → (∀ p, p ∈ l → p.Ok) → SameC P l
  | 0, l, h, _, _ => by cases l <;> simp at h
  | k + 1, l, h, hl, hO => same_step H l hl hO fun p hp => same_refl' H k p.picks (by
      have h1 := List.sizeOf_lt_of_mem hp
      have h2 : SizeOf.sizeOf p.picks < SizeOf.sizeOf p := by cases p; simp [Pick.picks]; omega
      omega) (by have := (hO p hp).pl; omega) (hO p hp).p
theorem same_refl (H : Pr P) (l : List Pick) (hl : l.length ≤ 140737488355328) (hO : ∀ p, p ∈ l → p.Ok) : FnOk P 21 [.t (.lst (l.map Pick.enc)), .t (.lst (l.map Pick.enc))] ⟨[], 0⟩ { v := .t (.bool true) } := same_refl' H _ l (Nat.le_refl _) hl hO
end Go.GB.C43

/-
  A43U: plain laws of chapter 43: filtering.
-/
namespace Go.GB.C43
open Go.GB
set_option linter.unusedSimpArgs false
set_option linter.unusedVariables false

theorem size_picks_lt {p : Pick} : SizeOf.sizeOf p.picks < SizeOf.sizeOf p := by cases p; simp [Pick.picks]; omega
theorem withPicks_self (p : Pick) : p.withPicks p.picks = p := by cases p; rfl
theorem filts_cons (m : Str → Str → Bool) (p : Pick) (r : List Pick) (path : List Hop) : Pick.filts m (p :: r) path = ((Pick.filt m p path).1.toList ++ (Pick.filts m r path).1, (Pick.filt m p path).2 ++ (Pick.filts m r path).2) := by
  simp only [Pick.filts]
theorem perms_append (m : Str → Str → Bool) : ∀ a b : List Pick, perms m (a ++ b) = (perms m a && perms m b)
  | [], b => by simp [perms]
  | p :: a, b => by simp [perms, perms_append m a b, Bool.and_assoc]
/-- what is permitted stays -/
theorem filts_id (m : Str → Str → Bool) : ∀ (k : Nat) (l : List Pick) (path : List Hop), SizeOf.sizeOf l ≤ k → perms m l = true → Pick.filts m l path = (l, [])
  | _, [], _, _, _ => by simp [Pick.filts]
  | 0, p :: r, _, h, _ => by simp at h
  | k + 1, p :: r, path, h, hp => by
    simp only [perms, Bool.and_eq_true, permP_eq] at hp
    have hs : SizeOf.sizeOf (p :: r) = 1 + SizeOf.sizeOf p + SizeOf.sizeOf r := by simp
    have := @size_picks_lt p
    have h1 := filts_id m k p.picks (path ++ [⟨p.on, p.key⟩]) (by omega) hp.1.2
    have h2 := filts_id m k r path (by omega) hp.2
    rw [filts_cons, Pick.filt_eq, if_pos hp.1.1, h1, h2]
    simp [withPicks_self]
theorem filts_perms (m : Str → Str → Bool) : ∀ (k : Nat) (l : List Pick) (path : List Hop), SizeOf.sizeOf l ≤ k → perms m (Pick.filts m l path).1 = true
  | _, [], _, _ => by simp [Pick.filts, perms]
  | 0, p :: r, _, h => by simp at h
  | k + 1, p :: r, path, h => by
    have hs : SizeOf.sizeOf (p :: r) = 1 + SizeOf.sizeOf p + SizeOf.sizeOf r := by simp
    have := @size_picks_lt p
    have h1 := filts_perms m k p.picks (path ++ [⟨p.on, p.key⟩]) (by omega)
    have h2 := filts_perms m k r path (by omega)
    rw [filts_cons, Pick.filt_eq]
    by_cases hm : m p.on p.name = true
    · rw [if_pos hm]
      generalize Pick.filts m p.picks (path ++ [⟨p.on, p.key⟩]) = G at h1
      have e : permP m (p.withPicks G.1) = true := by
        rw [permP_eq]; cases p; simp only [Pick.withPicks, Pick.on, Pick.name, Pick.picks] at hm ⊢; simp [hm, h1]
      simp [perms, e, h2]
    · rw [if_neg hm]; simp [h2]
theorem filts_count (m : Str → Str → Bool) : ∀ (k : Nat) (l : List Pick) (path : List Hop), SizeOf.sizeOf l ≤ k → Pick.cnts (Pick.filts m l path).1 + (Pick.filts m l path).2.length = lefts m l
  | _, [], _, _ => by simp [Pick.filts, Pick.cnts, lefts, leftS]
  | 0, p :: r, _, h => by simp at h
  | k + 1, p :: r, path, h => by
    have hs : SizeOf.sizeOf (p :: r) = 1 + SizeOf.sizeOf p + SizeOf.sizeOf r := by simp
    have := @size_picks_lt p
    have h1 := filts_count m k p.picks (path ++ [⟨p.on, p.key⟩]) (by omega)
    have h2 := filts_count m k r path (by omega)
    have hpe := leftP_eq m p
    rw [filts_cons, Pick.filt_eq]
    simp only [lefts, leftS, List.length_cons] at h2 ⊢
    by_cases hm : m p.on p.name = true
    · rw [if_pos hm] at hpe ⊢
      generalize Pick.filts m p.picks (path ++ [⟨p.on, p.key⟩]) = G at h1
      have e : Pick.cnt (p.withPicks G.1) = 1 + Pick.cnts G.1 := by rw [Pick.cnt_eq]; cases p; rfl
      simp only [Option.toList_some, List.cons_append, List.nil_append, Pick.cnts, List.length_append, e]
      omega
    · rw [if_neg hm] at hpe ⊢
      simp only [Option.toList_none, List.nil_append, List.length_append, List.length_cons, List.length_nil]
      omega
theorem filts_ok (m : Str → Str → Bool) : ∀ (k : Nat) (l : List Pick) (path : List Hop), SizeOf.sizeOf l ≤ k → (∀ p, p ∈ l → p.Ok) → (∀ p, p ∈ (Pick.filts m l path).1 → p.Ok) ∧ (Pick.filts m l path).1.length ≤ l.length
  | _, [], _, _, _ => by simp [Pick.filts]
  | 0, p :: r, _, h, _ => by simp at h
  | k + 1, p :: r, path, h, hO => by
    have hs : SizeOf.sizeOf (p :: r) = 1 + SizeOf.sizeOf p + SizeOf.sizeOf r := by simp
    have := @size_picks_lt p
    have hp := hO p (List.mem_cons_self ..)
    have h1 := filts_ok m k p.picks (path ++ [⟨p.on, p.key⟩]) (by omega) hp.p
    have h2 := filts_ok m k r path (by omega) fun q hq => hO q (List.mem_cons_of_mem _ hq)
    rw [filts_cons, Pick.filt_eq]
    by_cases hm : m p.on p.name = true
    · rw [if_pos hm]
      generalize Pick.filts m p.picks (path ++ [⟨p.on, p.key⟩]) = G at h1
      refine ⟨fun q hq => ?_, by simp; omega⟩
      simp only [Option.toList_some, List.cons_append, List.nil_append, List.mem_cons] at hq
      rcases hq with rfl | hq
      · have := hp.pl
        unfold Pick.withPicks
        exact .mk hp.al hp.aa hp.t (by unfold B47; omega) h1.1
      · exact h2.1 q hq
    · rw [if_neg hm]
      refine ⟨fun q hq => h2.1 q (by simpa using hq), by simp; omega⟩
theorem filts_all (m : Str → Str → Bool) (hm : ∀ a b, m a b = true) : ∀ (k : Nat) (l : List Pick), SizeOf.sizeOf l ≤ k → perms m l = true
  | _, [], _ => by simp [perms]
  | 0, p :: r, h => by simp at h
  | k + 1, p :: r, h => by
    have hs : SizeOf.sizeOf (p :: r) = 1 + SizeOf.sizeOf p + SizeOf.sizeOf r := by simp
    have := @size_picks_lt p
    simp only [perms, permP_eq, hm, filts_all m hm k p.picks (by omega), filts_all m hm k r (by omega), Bool.and_self]
end Go.GB.C43

/-
  A43V: plain laws of chapter 43: a known user with the scopes a, b and c loses nothing where no other scope is asked for.
-/
namespace Go.GB.C43
open Go.GB
set_option linter.unusedSimpArgs false
set_option linter.unusedVariables false

def uABC : User := ⟨true, [[97], [98], [99]]⟩
theorem badScope_abc (x : Val) : badScope uABC x = !okScope x := by
  unfold badScope okScope uABC
  rw [Bool.not_and]
  congr 1
  congr 1
  rw [Bool.eq_iff_iff]
  simp [or_assoc]
theorem findArg_known (a : Str) : ∀ (l : List Arg), l.all okArg = true → ∀ v, findArg a l = some v → v.items.all okScope = true
  | [], _, v, h => by simp [findArg] at h
  | x :: r, hl, v, h => by
    simp only [List.all_cons, Bool.and_eq_true] at hl
    simp only [findArg] at h
    split at h
    · simp only [Option.some.injEq] at h; rw [← h]; exact hl.1
    · exact findArg_known a r hl.2 v h
theorem dirArg_known (a : Str) : ∀ (l : List Dir), knownP l = true → ∀ v, dirArg scopesS a l = some v → v.items.all okScope = true
  | [], _, v, h => by simp [dirArg] at h
  | d :: r, hl, v, h => by
    have hl' : ((scopeArgs d).all okArg && knownP r) = true := by rw [← hl]; simp [knownP]
    simp only [Bool.and_eq_true] at hl'
    simp only [dirArg] at h
    split at h
    · rename_i hn
      have hn' : d.name = scopesS := by simpa using hn
      have h1 := hl'.1
      unfold scopeArgs at h1
      rw [if_pos hn'] at h1
      exact findArg_known a d.args h1 v h
    · exact dirArg_known a r hl'.2 v h
theorem permits_known {l : List Dir} (h : knownP l = true) : permits l uABC = true := by
  unfold permits
  rw [if_neg (by simp [uABC])]
  split
  · rfl
  · split
    · rfl
    · rename_i h5
      have : (((dirArg scopesS allS l).getD Val.zero).items.any (badScope uABC)) = false := by
        cases hd : dirArg scopesS allS l with
        | none => rfl
        | some v =>
          have := dirArg_known allS l h v hd
          simp only [Option.getD_some]
          rw [List.any_eq_false]
          intro x hx
          rw [badScope_abc]
          have := List.all_eq_true.1 this x hx
          simp [this]
      rw [this]; rfl
def allKnown (ds : List Def) : Bool := ds.all fun d => knownP d.dirs && d.fields.all fun f => knownP f.dirs
theorem typeP_known {ds : List Def} (h : allKnown ds = true) (n : Str) : typeP ds n uABC = true := by
  unfold typeP
  cases hd : findDef n ds with
  | none => simp
  | some d =>
    have := List.all_eq_true.1 h d (findDef_mem hd)
    simp only [Bool.and_eq_true] at this
    simp [permits_known this.1]
theorem mayP_known {ds : List Def} (h : allKnown ds = true) (on f : Str) : mayP ds uABC on f = true := by
  unfold mayP
  rw [typeP_known h]
  simp only [Bool.not_true, Bool.false_eq_true, if_false]
  cases hf : findField f ((findDef on ds).getD Def.zero).fields with
  | none => simp
  | some x =>
    have hk : knownP x.dirs = true := by
      cases hd : findDef on ds with
      | none => rw [hd] at hf; simp [findField, Def.zero] at hf
      | some d =>
        rw [hd] at hf
        have := List.all_eq_true.1 h d (findDef_mem hd)
        simp only [Bool.and_eq_true] at this
        exact List.all_eq_true.1 this.2 x (findField_mem hf)
    simp [permits_known hk, typeP_known h]
end Go.GB.C43

/-
  A43W: plain laws of chapter 43: without paths, an exact response stays what it is.
-/
namespace Go.GB.C43
open Go.GB
set_option linter.unusedSimpArgs false
set_option linter.unusedVariables false

theorem getK_at (its : List Val) (k : Str) : ∀ (l : List Str) (i n : Nat), l[n]? = some k → k ∉ l.take n → getK its k l i = its[i + n]?
  | [], i, n, h, _ => by simp at h
  | x :: r, i, 0, h, _ => by
    simp at h; simp [getK, h]
  | x :: r, i, n + 1, h, hn => by
    simp at h hn
    have : ¬ (x == k) = true := by simp; exact fun e => hn.1 e.symm
    simp only [getK]
    rw [if_neg this, getK_at its k r (i + 1) n h hn.2]
    congr 1; omega
theorem exPicks_spec (k : Nat) (v : Val) (path : List Hop) (hk6 : v.kind = 6) (hlen : v.keys.length = v.items.length) (hrec : ∀ (l : List Pick) (x : Val) (path : List Hop), exF k l x = true → markF [] k l x path = x) :
    ∀ (r : List Pick) (n : Nat), n ≤ v.keys.length → exPicks (exF k) v n r = true → v.keys.drop n = (r.filter fun p => p.on == tn v).map Pick.key ∧ v.items.drop n = (r.filter fun p => p.on == tn v).map (markItem [] (markF [] k) v path)
  | [], n, hn, h => by
    have : n = v.keys.length := by simpa [exPicks] using h
    simp [this, ← hlen]
  | p :: r, n, hn, h => by
    simp only [exPicks] at h
    by_cases hp : p.on = tn v
    · rw [if_pos hp] at h
      have hf : ((p :: r).filter fun p => p.on == tn v) = p :: (r.filter fun p => p.on == tn v) := by simp [hp]
      rw [hf]
      cases hkey : v.keys[n]? with
      | none => rw [hkey] at h; simp at h
      | some key =>
        cases hx : v.items[n]? with
        | none => rw [hkey, hx] at h; simp at h
        | some x =>
          rw [hkey, hx] at h
          simp only [Bool.and_eq_true, Bool.not_eq_true', decide_eq_true_eq, decide_eq_false_iff_not] at h
          obtain ⟨⟨⟨h1, h2⟩, h3⟩, h4⟩ := h
          subst h1
          obtain ⟨hl1, e1⟩ := List.getElem?_eq_some_iff.1 hkey
          obtain ⟨hl2, e2⟩ := List.getElem?_eq_some_iff.1 hx
          obtain ⟨i1, i2⟩ := exPicks_spec k v path hk6 hlen hrec r (n + 1) (by omega) h4
          have hg : getV v p.key = some x := by
            unfold getV
            rw [if_neg (by simp [hk6]), getK_at v.items p.key v.keys 0 n hkey h3]
            simpa using hx
          have hm : markItem [] (markF [] k) v path p = x := by
            unfold markItem
            rw [if_neg (by simp), hg]
            exact hrec _ _ _ h2
          rw [List.drop_eq_getElem_cons hl1, List.drop_eq_getElem_cons hl2, e1, e2, i1, i2]
          simp [hm]
    · rw [if_neg hp] at h
      have hf : ((p :: r).filter fun p => p.on == tn v) = (r.filter fun p => p.on == tn v) := by simp [hp]
      rw [hf]
      exact exPicks_spec k v path hk6 hlen hrec r n hn h
theorem exact_mark : ∀ (k : Nat) (l : List Pick) (v : Val) (path : List Hop), exF k l v = true → markF [] k l v path = v
  | 0, l, v, path, h => by simp [exF] at h
  | k + 1, l, v, path, h => by
    simp only [exF] at h
    simp only [markF]
    by_cases h5 : v.kind = 5
    · rw [if_pos h5] at h
      rw [if_pos (by simp [h5])]
      simp only [Bool.and_eq_true, decide_eq_true_eq] at h
      obtain ⟨⟨⟨h1, h2⟩, h3⟩, h4⟩ := h
      have hmap : (v.items.map fun x => markF [] k l x path) = v.items := by
        conv => rhs; rw [← List.map_id v.items]
        exact List.map_congr_left fun x hx => exact_mark k l x path (List.all_eq_true.1 h1 x hx)
      rw [hmap]
      conv => rhs; rw [← Val.eta v, h5, h2, h3, h4]
    · rw [if_neg h5] at h
      rw [if_neg (by simpa using h5)]
      by_cases h6 : v.kind = 6
      · rw [if_pos h6] at h
        simp only [Bool.and_eq_true] at h
        obtain ⟨hh, he⟩ := h
        unfold hdOk at hh
        simp only [Bool.and_eq_true, decide_eq_true_eq] at hh
        obtain ⟨⟨⟨⟨hlen, hk0⟩, hx0⟩, hi⟩, ht⟩ := hh
        rw [List.head?_eq_getElem?] at hk0 hx0
        obtain ⟨hl1, e1⟩ := List.getElem?_eq_some_iff.1 hk0
        obtain ⟨hl2, e2⟩ := List.getElem?_eq_some_iff.1 hx0
        obtain ⟨i1, i2⟩ := exPicks_spec k v path h6 hlen (fun l x path h => exact_mark k l x path h) l 1 (by omega) he
        have hg : getV v tS = some (textV (tn v)) := by
          unfold getV
          rw [if_neg (by simp [h6]), getK_at v.items tS v.keys 0 0 hk0 (by simp)]
          simpa using hx0
        rw [hg]
        simp only
        rw [if_neg (by simp [textV, Val.kind])]
        have e : (textV (tn v)).text = tn v := rfl
        rw [e]
        unfold objOf
        rw [← i1, ← i2]
        have a1 : v.keys = tS :: v.keys.drop 1 := by have := List.drop_eq_getElem_cons hl1; simp only [List.drop_zero] at this; rw [e1] at this; exact this
        have a2 : v.items = textV (tn v) :: v.items.drop 1 := by have := List.drop_eq_getElem_cons hl2; simp only [List.drop_zero] at this; rw [e2] at this; exact this
        rw [← a1, ← a2]
        conv => rhs; rw [← Val.eta v, h6, hi, ht]
      · have : getV v tS = none := by unfold getV; rw [if_pos (by simpa using h6)]
        rw [this]
end Go.GB.C43

/-
  A43X: laws of chapter 43, given that the example holds.
-/
namespace Go.GB.C43
open Go.GB
set_option linter.unusedSimpArgs false
set_option linter.unusedVariables false
set_option maxRecDepth 100000
set_option maxHeartbeats 2000000
variable {P : Program}

theorem filts_paths (m : Str → Str → Bool) : ∀ (k : Nat) (l : List Pick) (path : List Hop), SizeOf.sizeOf l ≤ k → ∀ q, q ∈ (Pick.filts m l path).2 → q.length ≤ path.length + Pick.cnts l
  | _, [], _, _, q, hq => by simp [Pick.filts] at hq
  | 0, p :: r, _, h, _, _ => by simp at h
  | k + 1, p :: r, path, h, q, hq => by
    have hs : SizeOf.sizeOf (p :: r) = 1 + SizeOf.sizeOf p + SizeOf.sizeOf r := by simp
    have := @size_picks_lt p
    have hce := Pick.cnt_eq p
    rw [filts_cons, Pick.filt_eq] at hq
    simp only [Pick.cnts]
    simp only [List.mem_append] at hq
    rcases hq with hq | hq
    · split at hq
      · have h1 := filts_paths m k p.picks _ (by omega) q hq
        simp at h1; omega
      · simp at hq; subst hq; simp; omega
    · have h2 := filts_paths m k r path (by omega) q hq
      omega
def ExH (P : Program) : Prop := FnOk P 14 [] ⟨[], 0⟩ { v := .t (.bool true) }
theorem law3_ok (H : Pr P) (hex : ExH P) (ds : List Def) (hD : DocOk ds) (on f : Str) (u : User) (hu : u.scopes.length ≤ 140737488355328) :
    FnOk P 3 [docV ds, .t (.str on), .t (.str f), u.v] ⟨[], 0⟩ { v := .t (.bool true) } := by
  unfold ExH at hex
  refine FnOk.run H.i3 H.mixed rfl rfl ?_
  refine fR rfl ?_
  refine Mid.call (large_ok H ds hD [] (by simp) (by simp) u) rfl rfl rfl rfl ?_
  refine fM rfl ?_
  refine Run.cond rfl rfl (fun h => ?_) (fun h => ?_)
  · refine fR rfl ?_
    refine Mid.call (hex) rfl rfl rfl rfl ?_
    refine fM rfl ?_
    refine Run.fin rfl (EndOk.go ?_); exact .t rfl
  · refine fR rfl ?_
    refine Mid.call (may_ok H ds hD on f u hu) rfl rfl rfl rfl ?_
    refine fM rfl ?_
    refine Mid.call (rMay_ok H ds hD on f u hu) rfl rfl rfl rfl ?_
    refine fM rfl ?_
    refine caG rfl rfl (fun hg => ⟨_, rfl, type_ok H ds hD on u hu, rfl⟩) rfl rfl ?_
    refine fM rfl ?_
    refine caG rfl rfl (fun hg => ⟨_, rfl, rType_ok H ds hD on u hu, rfl⟩) rfl rfl ?_
    refine fM rfl ?_
    refine caG rfl rfl (fun hg => ⟨_, rfl, hex, rfl⟩) rfl rfl ?_
    refine fM rfl ?_
    refine Run.fin rfl (EndOk.go ?_); exact .t (by simp)
def caseV (ds : List Def) (l : List Pick) (u : User) (v : Val) : V := .agg [.t (.lst (ds.map Def.enc)), .t (.lst (l.map Pick.enc)), .t (.bool u.known), .t (.lst (u.scopes.map sE)), .t (.int .i64 v.kind), .t (.int .i64 v.int), .t (.str v.text), .t (.lst (v.items.map Val.enc)), .t (.lst (v.keys.map sE))]
theorem gone_paths (m : Str → Str → Bool) (l : List Pick) (hc : Pick.cnts l ≤ 200) : PathsOk (Pick.filts m l []).2 := by
  refine ⟨?_, fun q hq => ?_⟩
  · have := ((Pick.filts_gone m (SizeOf.sizeOf l)).2 l [] (Nat.le_refl _)); omega
  · have := filts_paths m _ l [] (Nat.le_refl _) q hq
    simp at this; omega
theorem law4_ok (H : Pr P) (hex : ExH P) (ds : List Def) (hD : DocOk ds) (l : List Pick) (hl : l.length ≤ 140737488355328) (hO : ∀ p, p ∈ l → p.Ok) (u : User) (hu : u.scopes.length ≤ 140737488355328) (v : Val) :
    FnOk P 4 [caseV ds l u v] ⟨[], 0⟩ { v := .t (.bool true) } := by
  unfold ExH at hex
  refine FnOk.run H.i4 H.mixed rfl rfl ?_
  refine fR rfl ?_
  refine Mid.call (large_ok H ds hD l hl hO u) rfl rfl rfl rfl ?_
  refine fM rfl ?_
  refine Run.cond rfl rfl (fun h => ?_) (fun h => ?_)
  · refine fR rfl ?_
    refine Mid.call (hex) rfl rfl rfl rfl ?_
    refine fM rfl ?_
    refine Run.fin rfl (EndOk.go ?_); exact .t rfl
  · have hc := large_cnts hl hO h
    have hk := filts_ok (mayP ds u) _ l [] (Nat.le_refl _) hO
    have hP := gone_paths (mayP ds u) l hc
    refine fR rfl ?_
    refine Mid.call (filterT_ok H ds hD u hu l hO (by omega)) rfl rfl rfl rfl ?_
    refine fM rfl ?_
    refine Mid.call (rFilterT_ok H ds hD u hu l hO (by omega)) rfl rfl rfl rfl ?_
    refine fM rfl ?_
    refine Mid.call (same_refl H (Pick.filts (mayP ds u) l []).1 (by omega) hk.1) rfl rfl rfl rfl ?_
    refine fM rfl ?_
    refine caG rfl rfl (fun hg => ⟨_, rfl, samePaths_refl H (Pick.filts (mayP ds u) l []).2 hP, rfl⟩) rfl rfl ?_
    refine fM rfl ?_
    refine caG rfl rfl (fun hg => ⟨_, rfl, hex, rfl⟩) rfl rfl ?_
    refine fM rfl ?_
    refine Run.fin rfl (EndOk.go ?_); exact .t (by simp)
theorem exact_ok (H : Pr P) : ∀ (k : Nat) (v : Val), SizeOf.sizeOf v ≤ k → v.Ok → ∀ l : List Pick, l.length ≤ 140737488355328 → (∀ p, p ∈ l → p.Ok) → ExC P k l v
  | 0, v, h, _, _, _, _ => by cases v; simp at h
  | k + 1, v, h, hv, l, hl, hO => exact_step H k l v hl hO hv fun x hx l' hl' hO' => exact_ok H k x (by have := Val.size_items v hx; omega) (hv.it x hx) l' hl' hO'
end Go.GB.C43

/-
  A43Y: plain laws of chapter 43: what deep counts.
-/
namespace Go.GB.C43
open Go.GB
set_option linter.unusedSimpArgs false
set_option linter.unusedVariables false

def depthOk : Nat → List Pick → Prop
  | 0, _ => False
  | k + 1, l => ∀ p, p ∈ l → depthOk k p.picks
theorem depth_of_deep : ∀ (k : Nat) (l : List Pick), k ≤ 31 → l.length ≤ 140737488355328 → (∀ p, p ∈ l → p.Ok) → deepF k l ≤ 200 → depthOk k l
  | 0, l, _, _, _, h => by simp [deepF] at h
  | k + 1, l, hk, hl, hO, h => by
    have key : ∀ (r : List Pick) (t : Int), (∀ p, p ∈ r → p.Ok) → 0 ≤ t → tot 200 (fDeep k) t r ≤ 200 → ∀ p, p ∈ r → deepF k p.picks ≤ 200 := by
      intro r
      induction r with
      | nil => intro t _ _ _ p hp; simp at hp
      | cons q r ih =>
        intro t hr h0 h1 p hp
        simp only [tot] at h1
        split at h1
        · rename_i ht
          have hq := hr q (List.mem_cons_self ..)
          have hd := deepF_le k q.picks (by omega) (by have := hq.pl; omega) hq.p
          have e : fDeep k t q = t + deepF k q.picks := by unfold fDeep; rw [wrap64 (by omega) (by omega)]
          rcases List.mem_cons.1 hp with rfl | hp
          · by_cases hq : fDeep k t p ≤ 200
            · omega
            · have : tot 200 (fDeep k) (fDeep k t p) r = fDeep k t p := by cases r <;> simp [tot, hq]
              omega
          · exact ih _ (fun x hx => hr x (List.mem_cons_of_mem _ hx)) (by omega) h1 p hp
        · omega
    intro p hp
    have hpo := hO p hp
    rw [deepF_succ] at h
    exact depth_of_deep k p.picks (by omega) (by have := hpo.pl; omega) hpo.p (key l _ hO (by omega) h p hp)
theorem deep_eq : ∀ (k : Nat) (l : List Pick), k ≤ 31 → depthOk k l → Pick.cnts l ≤ 200 → deepF k l = (Pick.cnts l : Nat)
  | 0, l, _, h, _ => h.elim
  | k + 1, l, hk, h, hc => by
    have key : ∀ (r : List Pick) (t : Int), (∀ p, p ∈ r → depthOk k p.picks) → (r.length : Int) ≤ t → t + (Pick.cnts r : Nat) - (r.length : Nat) ≤ 200 → tot 200 (fDeep k) t r = t + (Pick.cnts r : Nat) - (r.length : Nat) := by
      intro r
      induction r with
      | nil => intro t _ _ _; simp [tot, Pick.cnts]
      | cons q r ih =>
        intro t hr h0 h1
        have hce := Pick.cnt_eq q
        have hll := Pick.cnts_len r
        have hlen : ((q :: r).length : Int) = (r.length : Nat) + 1 := by simp
        have hcn : Pick.cnts (q :: r) = q.cnt + Pick.cnts r := rfl
        have hd := deep_eq k q.picks (by omega) (hr q (List.mem_cons_self ..)) (by omega)
        have e : fDeep k t q = t + (Pick.cnts q.picks : Nat) := by unfold fDeep; rw [hd, wrap64 (by omega) (by omega)]
        simp only [tot]
        rw [if_pos (by omega), ih _ (fun x hx => hr x (List.mem_cons_of_mem _ hx)) (by omega) (by omega)]
        omega
    rw [deepF_succ, key l _ h (by omega) (by omega)]
    omega
theorem depth_filts (m : Str → Str → Bool) : ∀ (k : Nat) (l : List Pick) (path : List Hop), depthOk k l → depthOk k (Pick.filts m l path).1
  | 0, l, path, h => h
  | k + 1, [], path, h => by intro p hp; simp [Pick.filts] at hp
  | k + 1, p :: r, path, h => by
    have h1 := depth_filts m k p.picks (path ++ [⟨p.on, p.key⟩]) (h p (List.mem_cons_self ..))
    have h2 := depth_filts m (k + 1) r path fun x hx => h x (List.mem_cons_of_mem _ hx)
    intro q hq
    rw [filts_cons, Pick.filt_eq] at hq
    simp only [List.mem_append] at hq
    rcases hq with hq | hq
    · split at hq
      · simp at hq; subst hq
        cases p; exact h1
      · simp at hq
    · exact h2 q hq
theorem large_depth {ds : List Def} {l : List Pick} {u : User} (hl : l.length ≤ 140737488355328) (hO : ∀ p, p ∈ l → p.Ok) (h : largeP ds l u = false) : depthOk 31 l := by
  unfold largeP at h
  simp only [Bool.or_eq_false_iff, decide_eq_false_iff_not] at h
  exact depth_of_deep 31 l (by omega) hl hO (by omega)
end Go.GB.C43

/-
  A43Z: laws of chapter 43, given that the example holds: AuthCounts.
-/
namespace Go.GB.C43
open Go.GB
set_option linter.unusedSimpArgs false
set_option linter.unusedVariables false
set_option maxRecDepth 100000
set_option maxHeartbeats 2000000
variable {P : Program}

theorem mark_same {k : Nat} {l : List Pick} {v : Val} (h1 : v.kind ≠ 0 ∨ l = []) (h2 : exF k l v = true) : markT [] k l v = v := by
  have e : rawOf l v = v := by
    unfold rawOf
    cases l with
    | nil => rfl
    | cons p r =>
      rcases h1 with h1 | h1
      · simp [h1]
      · cases h1
  unfold markT
  rw [e]; exact exact_mark k l v [] h2
theorem law7_ok (H : Pr P) (hex : ExH P) (ds : List Def) (hD : DocOk ds) (l : List Pick) (hl : l.length ≤ 140737488355328) (hO : ∀ p, p ∈ l → p.Ok) (hon : ∀ p, p ∈ l → p.on.length ≤ 9223372036854775807) (u : User) (hu : u.scopes.length ≤ 140737488355328) (v : Val) (hv : v.Ok) :
    FnOk P 7 [caseV ds l u v] ⟨[], 0⟩ { v := .t (.bool true) } := by
  unfold ExH at hex
  refine FnOk.run H.i7 H.mixed rfl rfl ?_
  refine fR rfl ?_
  refine Mid.call (large_ok H ds hD l hl hO u) rfl rfl rfl rfl ?_
  refine fM rfl ?_
  refine caG rfl rfl (fun hg => ⟨_, rfl, wVal_ok H 2000 v hv, rfl⟩) rfl rfl ?_
  refine fM rfl ?_
  refine Run.cond rfl rfl (fun h => ?_) (fun h => ?_)
  · refine fR rfl ?_
    refine Mid.call (hex) rfl rfl rfl rfl ?_
    refine fM rfl ?_
    refine Run.fin rfl (EndOk.go ?_); exact .t rfl
  · have h' : largeP ds l u = false := by simp only [Bool.or_eq_false_iff] at h; exact h.1
    have hc := large_cnts hl hO h'
    have hdp := large_depth hl hO h'
    have hk := filts_ok (mayP ds u) _ l [] (Nat.le_refl _) hO
    have hP := gone_paths (mayP ds u) l hc
    have hct := filts_count (mayP ds u) _ l [] (Nat.le_refl _)
    have hle := left_le (mayP ds u) _ l (Nat.le_refl _)
    have hde := deep_eq 31 (Pick.filts (mayP ds u) l []).1 (by omega) (depth_filts (mayP ds u) 31 l [] hdp) (by omega)
    obtain ⟨k, hk1, hk2⟩ : ∃ k, SizeOf.sizeOf v ≤ k ∧ SizeOf.sizeOf (rawOf l v) ≤ k := ⟨SizeOf.sizeOf v + SizeOf.sizeOf (rawOf l v), by omega, by omega⟩
    have he := exact_ok H k v hk1 hv l hl hO
    unfold ExC at he
    have hm := markT_ok H [] ⟨by simp, by simp⟩ k l v hk2 hO hon (by omega) hv
    refine fR rfl ?_
    refine lMG rfl rfl rfl rfl ?_
    refine fM rfl ?_
    refine caG rfl rfl (fun hg => ⟨_, rfl, he, rfl⟩) rfl rfl ?_
    refine fM rfl ?_
    refine caG rfl rfl (fun hg => ⟨_, rfl, hm, rfl⟩) rfl rfl ?_
    refine fM rfl ?_
    have hM : ((v.kind != 0 || ((l.length : Nat) : Int) == 0) && exF k l v) = true → markT [] k l v = v := by
      intro hg
      simp only [Bool.and_eq_true, Bool.or_eq_true, bne_iff_ne, ne_eq, beq_iff_eq] at hg
      refine mark_same (hg.1.imp id fun h0 => List.eq_nil_of_length_eq_zero (by omega)) hg.2
    generalize markT [] k l v = M at hM ⊢
    refine caG rfl rfl (fun hg => ⟨_, rfl, equal_ok H M v (by rw [hM hg]; exact hv), rfl⟩) rfl rfl ?_
    refine fM rfl ?_
    refine Run.condF rfl rfl ?_ ?_
    · revert hM
      cases ((v.kind != 0 || ((l.length : Nat) : Int) == 0) && exF k l v) with
      | false => intro _; rfl
      | true => intro hM; simp [hM rfl]
    refine fR rfl ?_
    refine Mid.call (filterT_ok H ds hD u hu l hO (by omega)) rfl rfl rfl rfl ?_
    refine fM rfl ?_
    refine Mid.call (deep_ok H 31 (Pick.filts (mayP ds u) l []).1 0 (by omega) hk.1 (by omega) (by omega)) rfl rfl rfl rfl ?_
    refine fM rfl ?_
    refine lM rfl rfl rfl ?_
    refine a64 rfl rfl rfl ?_
    refine fM rfl ?_
    have hleft := left_ok H ds hD u hu _ l (Nat.le_refl _) (by omega) hO
    unfold LeftC at hleft
    refine Mid.call (hleft) rfl rfl rfl rfl ?_
    refine fM rfl ?_
    refine caG rfl rfl (fun hg => ⟨_, rfl, hex, rfl⟩) rfl rfl ?_
    refine fM rfl ?_
    refine Run.fin rfl (EndOk.go ?_); exact .t (by simp; omega)
end Go.GB.C43

/-
  A44A: laws of chapter 43, given that the example holds: AuthKeeps.
-/
namespace Go.GB.C43
open Go.GB
set_option linter.unusedSimpArgs false
set_option linter.unusedVariables false
set_option maxRecDepth 100000
set_option maxHeartbeats 2000000
variable {P : Program}

theorem law6_ok (H : Pr P) (hex : ExH P) (ds : List Def) (hD : DocOk ds) (l : List Pick) (hl : l.length ≤ 140737488355328) (hO : ∀ p, p ∈ l → p.Ok) (u : User) (hu : u.scopes.length ≤ 140737488355328) (v : Val) :
    FnOk P 6 [caseV ds l u v] ⟨[], 0⟩ { v := .t (.bool true) } := by
  have hdl := hD.l
  unfold ExH at hex
  refine FnOk.run H.i6 H.mixed rfl rfl ?_
  refine fR rfl ?_
  refine Mid.call (large_ok H ds hD l hl hO u) rfl rfl rfl rfl ?_
  refine fM rfl ?_
  refine Run.cond rfl rfl (fun h => ?_) (fun h => ?_)
  · refine fR rfl ?_
    refine Mid.call (hex) rfl rfl rfl rfl ?_
    refine fM rfl ?_
    refine Run.fin rfl (EndOk.go ?_); exact .t rfl
  · have hc := large_cnts hl hO h
    have hdp := large_depth hl hO h
    have hk := filts_ok (mayP ds u) _ l [] (Nat.le_refl _) hO
    have hct := filts_count (mayP ds u) _ l [] (Nat.le_refl _)
    have hle := left_le (mayP ds u) _ l (Nat.le_refl _)
    have hde := deep_eq 31 (Pick.filts (mayP ds u) l []).1 (by omega) (depth_filts (mayP ds u) 31 l [] hdp) (by omega)
    have hpe := filts_perms (mayP ds u) _ l [] (Nat.le_refl _)
    have hid := filts_id (mayP ds u) _ (Pick.filts (mayP ds u) l []).1 [] (Nat.le_refl _) hpe
    have hf1 := filterT_ok H ds hD u hu l hO (by omega)
    generalize (Pick.filts (mayP ds u) l []).1 = F at hk hct hde hpe hid hf1
    have hf2 := filterT_ok H ds hD u hu F hk.1 (by omega)
    rw [hid] at hf2
    have hp := permitted_ok H ds hD u hu _ F (Nat.le_refl _) (by omega) hk.1
    unfold PermC at hp
    rw [hpe] at hp
    refine fR rfl ?_
    refine Mid.call (hf1) rfl rfl rfl rfl ?_
    refine fM rfl ?_
    refine Mid.call (deep_ok H 31 F 0 (by omega) hk.1 (by omega) (by omega)) rfl rfl rfl rfl ?_
    refine fM rfl ?_
    refine caG rfl rfl (fun hg => ⟨_, rfl, hp, rfl⟩) rfl rfl ?_
    refine fM rfl ?_
    refine Run.condF rfl rfl (by simp; omega) ?_
    refine fR rfl ?_
    refine Mid.call (hf2) rfl rfl rfl rfl ?_
    refine fM rfl ?_
    refine Mid.call (same_refl H F (by omega) hk.1) rfl rfl rfl rfl ?_
    refine fM rfl ?_
    refine lMG rfl rfl rfl rfl ?_
    refine fM rfl ?_
    refine Run.condF rfl rfl (by simp) ?_
    refine fR rfl ?_
    refine rList ds (fun i (_ : Unit) => { env := [(1, .ptr 0 0), (7, .t (.int .i64 i))], s := ⟨[(0, .cells [.t (.lst (ds.map Def.enc)), .t (.lst (l.map Pick.enc)), .t (.bool u.known), .t (.lst (u.scopes.map sE)), .t (.int .i64 v.kind), .t (.int .i64 v.int), .t (.str v.text), .t (.lst (v.items.map Val.enc)), .t (.lst (v.keys.map sE))])], 1⟩ }) (fun r i _ => allKnown ds = allKnown r) 1 () rfl rfl rfl rfl rfl ?_ ?_
    · intro _ hh
      have hak : allKnown ds = true := by rw [hh]; rfl
      have hf3 := filterT_ok H ds hD uABC (by simp [uABC]) l hO (by omega)
      rw [filts_id (mayP ds uABC) _ l [] (Nat.le_refl _) (filts_all _ (mayP_known hak) _ l (Nat.le_refl _))] at hf3
      refine fR rfl ?_
      refine lM rfl rfl rfl ?_
      refine fM rfl ?_
      refine Run.condF rfl rfl (by simp) ?_
      refine fR rfl ?_
      refine Mid.call (hf3) rfl rfl rfl rfl ?_
      refine fM rfl ?_
      refine Mid.call (same_refl H l hl hO) rfl rfl rfl rfl ?_
      refine fM rfl ?_
      refine lMG rfl rfl rfl rfl ?_
      refine fM rfl ?_
      refine caG rfl rfl (fun hg => ⟨_, rfl, hex, rfl⟩) rfl rfl ?_
      refine fM rfl ?_
      refine Run.fin rfl (EndOk.go ?_); exact .t (by simp)
    · intro i d r _ h1 hi hd hinv ih
      have hdo := hD.d d (List.mem_of_getElem? h1)
      have q3 := hdo.fl
      have hinv' : allKnown ds = (knownP d.dirs && (d.fields.all (fun f => knownP f.dirs) && allKnown r)) := by rw [hinv]; simp [allKnown, Bool.and_assoc]
      refine fR rfl ?_
      refine lM rfl rfl rfl ?_
      refine fM rfl ?_
      refine Run.condT rfl rfl (by simp; omega) ?_
      refine fR rfl ?_
      refine Mid.elemMap rfl rfl rfl h1 rfl rfl ?_
      refine fM rfl ?_
      refine Mid.call (known_ok H d.dirs hdo.dl hdo.d) rfl rfl rfl rfl ?_
      refine fM rfl ?_
      refine Run.cond rfl rfl (fun h2 => ?_) (fun h2 => ?_)
      · refine fR rfl ?_
        refine Mid.call (hex) rfl rfl rfl rfl ?_
        refine fM rfl ?_
        refine Run.fin rfl (EndOk.go ?_); exact .t rfl
      · have h2' : knownP d.dirs = true := by simpa using h2
        rw [h2', Bool.true_and] at hinv'
        refine fR rfl ?_
        refine rList d.fields (fun j (_ : Unit) => { env := [(1, .ptr 0 0), (7, .t (.int .i64 i)), (8, .t (.int .i64 j))], s := ⟨[(0, .cells [.t (.lst (ds.map Def.enc)), .t (.lst (l.map Pick.enc)), .t (.bool u.known), .t (.lst (u.scopes.map sE)), .t (.int .i64 v.kind), .t (.int .i64 v.int), .t (.str v.text), .t (.lst (v.items.map Val.enc)), .t (.lst (v.keys.map sE))])], 1⟩ }) (fun r' j _ => allKnown ds = (r'.all (fun f => knownP f.dirs) && allKnown r)) 1 () rfl hinv' rfl rfl rfl ?_ ?_
        · intro _ hh
          refine fR rfl ?_
          refine Mid.elemMap rfl rfl rfl h1 rfl rfl ?_
          refine fM rfl ?_
          refine lM rfl rfl rfl ?_
          refine fM rfl ?_
          refine Run.condF rfl rfl (by simp) ?_
          refine fR rfl ?_
          refine aL rfl rfl rfl rfl rfl ?_
          refine fM rfl ?_
          exact rWeak 1 rfl (ih () (by simpa using hh)) rfl rfl rfl
        · intro j x r' _ hx hj hjd hh ihj
          have hxo := hdo.f x (List.mem_of_getElem? hx)
          refine fR rfl ?_
          refine Mid.elemMap rfl rfl rfl h1 rfl rfl ?_
          refine fM rfl ?_
          refine lM rfl rfl rfl ?_
          refine fM rfl ?_
          refine Run.condT rfl rfl (by simp; omega) ?_
          refine fR rfl ?_
          refine Mid.elemMap rfl rfl rfl h1 rfl rfl ?_
          refine fM rfl ?_
          refine Mid.elemMap rfl rfl rfl hx rfl rfl ?_
          refine fM rfl ?_
          refine Mid.call (known_ok H x.dirs hxo.l hxo.d) rfl rfl rfl rfl ?_
          refine fM rfl ?_
          refine Run.cond rfl rfl (fun h3 => ?_) (fun h3 => ?_)
          · refine fR rfl ?_
            refine Mid.call (hex) rfl rfl rfl rfl ?_
            refine fM rfl ?_
            refine Run.fin rfl (EndOk.go ?_); exact .t rfl
          · have h3' : knownP x.dirs = true := by simpa using h3
            refine fR rfl ?_
            refine aL rfl rfl rfl rfl rfl ?_
            refine fM rfl ?_
            exact rWeak 1 rfl (ihj () (by rw [hh]; simp [h3'])) rfl rfl rfl
end Go.GB.C43

/-
  A44B: equality, for values of which only the sizes are known.
-/
namespace Go.GB
inductive Val.Sz : Val → Prop where
  | mk {k i : Int} {t : Str} {its : List Val} {ks : List Str} (h1 : its.length * 80 ≤ B47) (h2 : ks.length * 16 ≤ B47) (h3 : ∀ x, x ∈ its → Val.Sz x) : Val.Sz (.mk k i t its ks)
namespace Val.Sz
theorem il {v : Val} (h : v.Sz) : v.items.length * 80 ≤ 140737488355328 := by cases h with | mk h1 h2 h3 => exact h1
theorem kl {v : Val} (h : v.Sz) : v.keys.length * 16 ≤ 140737488355328 := by cases h with | mk h1 h2 h3 => exact h2
theorem it {v : Val} (h : v.Sz) : ∀ x, x ∈ v.items → x.Sz := by cases h with | mk h1 h2 h3 => exact h3
end Val.Sz
theorem Val.Ok.sz {v : Val} (h : v.Ok) : v.Sz := by
  induction h with
  | mk h1 h2 h3 h4 h5 ih => exact .mk h1 h2 ih
namespace C43
set_option linter.unusedSimpArgs false
set_option linter.unusedVariables false
set_option maxRecDepth 100000
set_option maxHeartbeats 2000000
variable {P : Program}
theorem equalZ_step (H : Pr P) (a b : Val) (ha : a.Sz) (hrec : ∀ x y, x ∈ a.items → EqualC P x y) : EqualC P a b := by
  have hil := ha.il
  have hkl := ha.kl
  unfold EqualC
  refine FnOk.run H.i26 H.mixed rfl rfl ?_
  refine fR rfl ?_
  refine lMG rfl rfl rfl rfl ?_
  refine fM rfl ?_
  refine lMG rfl rfl rfl rfl ?_
  refine fM rfl ?_
  refine lMG rfl rfl rfl rfl ?_
  refine fM rfl ?_
  refine lMG rfl rfl rfl rfl ?_
  refine fM rfl ?_
  refine Run.cond rfl rfl (fun h => ?_) (fun h => ?_)
  · have h' : eqHead a b = true := h
    have hne : ¬ a = b := by rintro rfl; simp [eqHead] at h'
    refine fR rfl ?_
    refine Run.fin rfl (EndOk.go ?_); exact .t (by simp [hne])
  · have h' : eqHead a b = false := h
    have hh : a.kind = b.kind ∧ a.int = b.int ∧ a.text = b.text ∧ a.items.length = b.items.length ∧ a.keys.length = b.keys.length := by
      simp [eqHead] at h'; exact ⟨h'.1.1.1.1, h'.1.1.1.2, h'.1.1.2, by omega, by omega⟩
    obtain ⟨e1, e2, e3, e4, e5⟩ := hh
    have hiff : (a = b) = (a.keys = b.keys ∧ a.items = b.items) := propext ⟨fun e => by rw [e]; exact ⟨rfl, rfl⟩, fun ⟨c1, c2⟩ => by
      rw [← Val.eta a, ← Val.eta b, e1, e2, e3, c1, c2]⟩
    refine fR rfl ?_
    refine rList a.keys (fun i (_ : Unit) => { env := [(2, .ptr 0 0), (3, .ptr 1 0), (5, .t (.int .i64 i))], s := ⟨[(0, .cells [.t (.int .i64 a.kind), .t (.int .i64 a.int), .t (.str a.text), .t (.lst (a.items.map Val.enc)), .t (.lst (a.keys.map sE))]), (1, .cells [.t (.int .i64 b.kind), .t (.int .i64 b.int), .t (.str b.text), .t (.lst (b.items.map Val.enc)), .t (.lst (b.keys.map sE))])], 2⟩ }) (fun r i _ => (a = b) = (r = b.keys.drop i ∧ a.items = b.items)) 2 () rfl (by simpa using hiff) rfl rfl rfl ?_ ?_
    · intro _ hk
      have hk' : (a = b) = (a.items = b.items) := by rw [hk, e5]; simp
      refine fR rfl ?_
      refine lM rfl rfl rfl ?_
      refine fM rfl ?_
      refine Run.condF rfl rfl (by simp) ?_
      refine fR rfl ?_
      refine rList a.items (fun i (_ : Unit) => { env := [(2, .ptr 0 0), (3, .ptr 1 0), (6, .t (.int .i64 i))], s := ⟨[(0, .cells [.t (.int .i64 a.kind), .t (.int .i64 a.int), .t (.str a.text), .t (.lst (a.items.map Val.enc)), .t (.lst (a.keys.map sE))]), (1, .cells [.t (.int .i64 b.kind), .t (.int .i64 b.int), .t (.str b.text), .t (.lst (b.items.map Val.enc)), .t (.lst (b.keys.map sE))])], 2⟩ }) (fun r i _ => (a = b) = (r = b.items.drop i)) 2 () rfl (by simpa using hk') rfl rfl rfl ?_ ?_
      · intro _ hi
        have : a = b := by rw [hi, e4]; simp
        refine fR rfl ?_
        refine lM rfl rfl rfl ?_
        refine fM rfl ?_
        refine Run.condF rfl rfl (by simp) ?_
        refine fR rfl ?_
        refine Run.fin rfl (EndOk.go ?_); exact .t (by simp [this])
      · intro i x r _ h1 hi hd hinv ih
        have h2 : b.items[i]? = some (b.items[i]'(by omega)) := by simp
        have hdb : b.items.drop i = b.items[i]'(by omega) :: b.items.drop (i + 1) := List.drop_eq_getElem_cons (by omega)
        generalize b.items[i]'(by omega) = y at h2 hdb
        have hc := hrec x y (List.mem_of_getElem? h1)
        unfold EqualC at hc
        refine fR rfl ?_
        refine lM rfl rfl rfl ?_
        refine fM rfl ?_
        refine Run.condT rfl rfl (by simp; omega) ?_
        refine fR rfl ?_
        refine Mid.elemMapC (Val.enc_eq x) rfl rfl rfl h1 rfl rfl ?_
        refine fM rfl ?_
        refine Mid.elemMapC (Val.enc_eq y) rfl rfl rfl h2 rfl rfl ?_
        refine fM rfl ?_
        refine Mid.call (hc) rfl rfl rfl rfl ?_
        refine fM rfl ?_
        refine Run.cond rfl rfl (fun hxy => ?_) (fun hxy => ?_)
        · have hne : ¬ x = y := by simpa using hxy
          have : ¬ a = b := by rw [hinv, hdb]; exact fun e => hne (List.cons.inj e).1
          refine fR rfl ?_
          refine Run.fin rfl (EndOk.go ?_); exact .t (by simp [this])
        · have he : x = y := by simpa using hxy
          refine fR rfl ?_
          refine aL rfl rfl rfl rfl rfl ?_
          refine fM rfl ?_
          exact rWeak 2 rfl (ih () (by rw [hinv, hdb, he]; simp)) rfl rfl rfl
    · intro i x r _ h1 hi hd hinv ih
      have h2 : b.keys[i]? = some (b.keys[i]'(by omega)) := by simp
      have hdb : b.keys.drop i = b.keys[i]'(by omega) :: b.keys.drop (i + 1) := List.drop_eq_getElem_cons (by omega)
      generalize b.keys[i]'(by omega) = y at h2 hdb
      refine fR rfl ?_
      refine lM rfl rfl rfl ?_
      refine fM rfl ?_
      refine Run.condT rfl rfl (by simp; omega) ?_
      refine fR rfl ?_
      refine Mid.elemMap rfl rfl rfl h1 rfl rfl ?_
      refine fM rfl ?_
      refine Mid.elemMap rfl rfl rfl h2 rfl rfl ?_
      refine fM rfl ?_
      refine Run.cond rfl rfl (fun hxy => ?_) (fun hxy => ?_)
      · have hne : ¬ x = y := by simpa using hxy
        have : ¬ a = b := by rw [hinv, hdb]; exact fun e => hne (List.cons.inj e.1).1
        refine fR rfl ?_
        refine Run.fin rfl (EndOk.go ?_); exact .t (by simp [this])
      · have he : x = y := by simpa using hxy
        refine fR rfl ?_
        refine aL rfl rfl rfl rfl rfl ?_
        refine fM rfl ?_
        exact rWeak 2 rfl (ih () (by rw [hinv, hdb, he]; simp)) rfl rfl rfl
theorem equalZ_ok' (H : Pr P) : ∀ (k : Nat) (a b : Val), SizeOf.sizeOf a ≤ k → a.Sz → EqualC P a b
  | 0, a, b, h, _ => by cases a; simp at h
  | k + 1, a, b, h, ha => equalZ_step H a b ha fun x y hx => equalZ_ok' H k x y (by have := Val.size_items a hx; omega) (ha.it x hx)
theorem equalZ_ok (H : Pr P) (a b : Val) (ha : a.Sz) : FnOk P 26 [a.v, b.v] ⟨[], 0⟩ { v := .t (.bool (decide (a = b))) } := equalZ_ok' H _ a b (Nat.le_refl _) ha


end C43
end Go.GB

/-
  A44C: plain law of chapter 43: marking keeps the sizes.
-/
namespace Go.GB.C43
open Go.GB
set_option linter.unusedSimpArgs false
set_option linter.unusedVariables false

theorem textV_sz (t : Str) : (textV t).Sz := .mk (by decide) (by decide) (by simp)
theorem failV_sz : failV.Sz := .mk (by decide) (by decide) (by simp)
theorem zeroV_sz : Val.zero.Sz := .mk (by decide) (by decide) (by simp)
theorem markF_sz (paths : List (List Hop)) : ∀ (k : Nat) (l : List Pick) (v : Val) (path : List Hop), Pick.cnts l ≤ 10000 → v.Sz → (markF paths k l v path).Sz
  | 0, l, v, path, _, hv => hv
  | k + 1, l, v, path, hn, hv => by
    have hll := Pick.cnts_len l
    simp only [markF]
    split
    · refine .mk (by have := hv.il; simp [B47]; omega) (by decide) fun x hx => ?_
      obtain ⟨y, hy, rfl⟩ := List.mem_map.1 hx
      exact markF_sz paths k l y path hn (hv.it y hy)
    · split
      · exact hv
      · split
        · exact hv
        · rename_i t _ _
          have hfl : ((l.filter fun p => p.on == t.text)).length ≤ l.length := List.length_filter_le ..
          unfold objOf
          refine .mk (by simp [B47]; omega) (by simp [B47]; omega) fun x hx => ?_
          rcases List.mem_cons.1 hx with rfl | hx
          · exact textV_sz _
          · obtain ⟨p, hp, rfl⟩ := List.mem_map.1 hx
            have hpl := (List.mem_filter.1 hp).1
            have := cnt_le hpl
            have := Pick.cnt_eq p
            unfold markItem
            split
            · exact failV_sz
            · split
              · rename_i y hy
                exact markF_sz paths k p.picks y _ (by omega) (hv.it y (getV_mem hy))
              · exact zeroV_sz
theorem markT_sz (paths : List (List Hop)) (k : Nat) (l : List Pick) (v : Val) (hn : Pick.cnts l ≤ 10000) (hv : v.Sz) : (markT paths k l v).Sz := by
  unfold markT
  refine markF_sz paths k l _ [] hn ?_
  unfold rawOf
  split
  · exact hv
  · split
    · refine .mk (by simp [B47]) (by simp [B47]) fun x hx => ?_
      obtain rfl : x = textV _ := by simpa using hx
      exact textV_sz _
    · exact hv
end Go.GB.C43

/-
  A44D: laws of chapter 43, given that the example holds: AuthMarks.
-/
namespace Go.GB.C43
open Go.GB
set_option linter.unusedSimpArgs false
set_option linter.unusedVariables false
set_option maxRecDepth 100000
set_option maxHeartbeats 2000000
variable {P : Program}

theorem rFilterO_step (H : Pr P) (ds : List Def) (ho : DocOk ds) (u : User) (hu : u.scopes.length ≤ 140737488355328) (l : List Pick) (path : List Hop) (hO : ∀ p, p ∈ l → p.Ok) (hn : Pick.cnts l + path.length ≤ 10000)
    (hrec : ∀ (l' : List Pick) (path' : List Hop), Pick.cnts l' < Pick.cnts l → (∀ p, p ∈ l' → p.Ok) → Pick.cnts l' + path'.length ≤ 10000 → FilterC P 56 ds u l' path') : FnOk P 56 [docV ds, .t (.lst (l.map Pick.enc)), u.v, .t (.lst (path.map Hop.enc))] ⟨[], 0⟩ { v := .tup [.t (.lst ((Pick.filts (mayP ds u) l path).1.map Pick.enc)), .own 3 1 ((Pick.filts (mayP ds u) l path).2.map pE)], ob := [(3, .arr ((Pick.filts (mayP ds u) l path).2.map pE).length)], n := 4 } := by
  have hll := Pick.cnts_len l
  refine FnOk.run H.i56 H.mixed rfl rfl ?_
  refine fR rfl ?_
  refine rList l (fun i (B : List Pick × List (List Hop)) => { env := [(1, .t (.lst (l.map Pick.enc))), (3, .t (.lst (path.map Hop.enc))), (4, .ptr 0 0), (6, .ptr 1 0), (10, .own 2 9 (B.1.map Pick.enc)), (11, .own 3 1 (B.2.map pE)), (12, .t (.int .i64 i))], s := ⟨[(0, .cells [.t (.lst (ds.map Def.enc))]), (1, .cells [.t (.bool u.known), .t (.lst (u.scopes.map sE))]), (2, .arr B.1.length), (3, .arr B.2.length)], 4⟩ }) (fun r i B => B.1.length ≤ i ∧ B.2.length + Pick.cnts r ≤ Pick.cnts l ∧ Pick.filts (mayP ds u) l path = (B.1 ++ (Pick.filts (mayP ds u) r path).1, B.2 ++ (Pick.filts (mayP ds u) r path).2)) 2 ([], []) rfl ⟨by simp, by simp, by simp⟩ rfl rfl rfl ?_ ?_
  · rintro ⟨B1, B2⟩ ⟨_, _, hB⟩
    refine fR rfl ?_
    refine lM rfl rfl rfl ?_
    refine fM rfl ?_
    refine Run.condF rfl rfl (by simp) ?_
    refine fR rfl ?_
    rw [hB]
    simp only [Pick.filts, List.append_nil]
    refine Run.fin rfl (EndOk.chg rfl rfl ?_ ?_)
    · exact .tup2 (.own rfl) (.le (.same rfl))
    · exact (by repeat' (first | exact trivial | exact LeX.t | exact LeX.top | exact LeX.nilOwn (Nat.le_of_ble_eq_true rfl) (Nat.le_of_ble_eq_true rfl) | exact LeX.ownT | exact LeX.nilT | exact LeX.same rfl | exact LeX.tEq (by simp) | exact LeX.ownEq (by simp) (Nat.le_of_ble_eq_true rfl) | exact LeX.tEq (by congr 1 <;> omega) | exact Or.inr ⟨Nat.le_of_ble_eq_true rfl, Nat.le_of_ble_eq_true rfl, rfl⟩ | refine Or.inl ⟨Nat.le_of_ble_eq_true rfl, _, rfl, ?_⟩ | refine LeO.cells ?_ | exact LeO.arr rfl | exact LeO.arr (by simp) | exact LeO.mE (by first | rfl | simp) (by first | exact Or.inl rfl | exact Or.inr rfl) | exact LeO.cE (by first | rfl | simp) | exact LeXs.cE (by first | rfl | simp) | refine LeO.map (by first | rfl | simp) ?_ (by first | exact Or.inl rfl | exact Or.inr rfl) | refine LeXs.cons ?_ ?_ | exact LeXs.nil | refine And.intro ?_ ?_))
  · rintro i x r ⟨B1, B2⟩ h1 hi hd ⟨hB1, hB2, hB⟩ ih
    have hxm := List.mem_of_getElem? h1
    have hx := hO x hxm
    have hxc := cnt_le hxm
    have hce := Pick.cnt_eq x
    have hB1' : B1.length ≤ i := hB1
    have hB2' : B2.length + (x.cnt + Pick.cnts r) ≤ Pick.cnts l := hB2
    refine fR rfl ?_
    refine lM rfl rfl rfl ?_
    refine fM rfl ?_
    refine Run.condT rfl rfl (by simp; omega) ?_
    refine fR rfl ?_
    refine Mid.elemMapC (Pick.enc_eq x) rfl rfl rfl h1 rfl rfl ?_
    refine fM rfl ?_
    refine Mid.call (with_ok H path (by omega) x.on x.key) rfl rfl rfl rfl ?_
    refine fM rfl ?_
    refine Mid.call (rMay_ok H ds ho x.on x.name u hu) rfl rfl rfl rfl ?_
    refine fM rfl ?_
    refine Run.cond rfl rfl (fun hm => ?_) (fun hm => ?_)
    · have hm' : mayP ds u x.on x.name = false := by simpa using hm
      refine fR rfl ?_
      refine apM pE B2 [path ++ [⟨x.on, x.key⟩]] rfl rfl rfl rfl rfl ?_
      refine fM rfl ?_
      refine aL rfl rfl rfl rfl rfl ?_
      refine fM rfl ?_
      exact rWeak 4 rfl (ih (B1, B2 ++ [path ++ [⟨x.on, x.key⟩]]) ⟨by simp; omega, by simp; omega, by rw [hB]; simp [Pick.filts, Pick.filt_eq, hm']⟩) rfl rfl rfl
    · have hm' : mayP ds u x.on x.name = true := by simpa using hm
      have hR := (Pick.filts_gone (mayP ds u) (SizeOf.sizeOf x.picks)).2 x.picks (path ++ [⟨x.on, x.key⟩]) (Nat.le_refl _)
      have hrc := hrec x.picks (path ++ [⟨x.on, x.key⟩]) (by omega) hx.p (by simp; omega)
      unfold FilterC at hrc
      have hB' : Pick.filts (mayP ds u) l path = (B1 ++ [x.withPicks (Pick.filts (mayP ds u) x.picks (path ++ [⟨x.on, x.key⟩])).1] ++ (Pick.filts (mayP ds u) r path).1, B2 ++ (Pick.filts (mayP ds u) x.picks (path ++ [⟨x.on, x.key⟩])).2 ++ (Pick.filts (mayP ds u) r path).2) := by
        rw [hB]; simp [Pick.filts, Pick.filt_eq, hm']
      generalize Pick.filts (mayP ds u) x.picks (path ++ [⟨x.on, x.key⟩]) = G at hR hrc hB'
      refine fR rfl ?_
      refine Mid.call (hrc) rfl rfl rfl rfl ?_
      refine fM rfl ?_
      refine apM Pick.enc B1 [(x.withPicks G.1)] rfl (congrArg (fun c => some (T.lst [c])) (Pick.enc_eq (x.withPicks G.1)).symm) rfl rfl rfl ?_ (hl := fun x => (congrArg List.length (Pick.enc_eq x)).trans rfl)
      refine fM rfl ?_
      refine apM pE B2 G.2 rfl rfl rfl rfl rfl ?_ (h1 := by omega) (h2 := by omega)
      refine fM rfl ?_
      refine aL rfl rfl rfl rfl rfl ?_
      refine fM rfl ?_
      exact rWeak 4 rfl (ih (B1 ++ [x.withPicks G.1], B2 ++ G.2) ⟨by simp; omega, by simp; omega, by rw [hB']⟩) rfl rfl rfl
theorem rFilterTO_ok (H : Pr P) (ds : List Def) (ho : DocOk ds) (u : User) (hu : u.scopes.length ≤ 140737488355328) (l : List Pick) (hO : ∀ p, p ∈ l → p.Ok) (hn : Pick.cnts l ≤ 10000) :
    FnOk P 20 [docV ds, .t (.lst (l.map Pick.enc)), u.v] ⟨[], 0⟩ { v := .tup [.t (.lst ((Pick.filts (mayP ds u) l []).1.map Pick.enc)), .own 5 1 ((Pick.filts (mayP ds u) l []).2.map pE)], ob := [(5, .arr ((Pick.filts (mayP ds u) l []).2.map pE).length)], n := 6 } := by
  have h := rFilterO_step H ds ho u hu l [] hO (by simpa using hn) fun l' path' hl' hO' hn' => rFilter_ok H ds ho u hu _ l' path' (Nat.lt_succ_self _) hO' hn'
  generalize (Pick.filts (mayP ds u) l []) = F at h ⊢
  refine FnOk.run H.i20 H.mixed rfl rfl ?_
  refine fR rfl ?_
  refine Mid.callR [] (h) rfl rfl rfl rfl rfl (by repeat' (first | exact trivial | exact rfl | refine And.intro ?_ ?_ | exact (congrArg some (AObj.ren_mE _ _ _ _ _ _)).symm | exact (congrArg some (AObj.ren_cE _ _ _)).symm)) rfl rfl (ob' := [(5, .arr (F.2.map pE).length)]) (rfl) rfl rfl ?_
  refine fM rfl ?_
  refine Run.fin rfl (EndOk.chg rfl rfl ?_ ?_)
  · exact .tup2 (.t rfl) (.le (.same rfl))
  · exact (by repeat' (first | exact trivial | exact LeX.t | exact LeX.top | exact LeX.nilOwn (Nat.le_of_ble_eq_true rfl) (Nat.le_of_ble_eq_true rfl) | exact LeX.ownT | exact LeX.nilT | exact LeX.same rfl | exact LeX.tEq (by simp) | exact LeX.ownEq (by simp) (Nat.le_of_ble_eq_true rfl) | exact LeX.tEq (by congr 1 <;> omega) | exact Or.inr ⟨Nat.le_of_ble_eq_true rfl, Nat.le_of_ble_eq_true rfl, rfl⟩ | refine Or.inl ⟨Nat.le_of_ble_eq_true rfl, _, rfl, ?_⟩ | refine LeO.cells ?_ | exact LeO.arr rfl | exact LeO.arr (by simp) | exact LeO.mE (by first | rfl | simp) (by first | exact Or.inl rfl | exact Or.inr rfl) | exact LeO.cE (by first | rfl | simp) | exact LeXs.cE (by first | rfl | simp) | refine LeO.map (by first | rfl | simp) ?_ (by first | exact Or.inl rfl | exact Or.inr rfl) | refine LeXs.cons ?_ ?_ | exact LeXs.nil | refine And.intro ?_ ?_))
theorem law5_ok (H : Pr P) (hex : ExH P) (ds : List Def) (hD : DocOk ds) (l : List Pick) (hl : l.length ≤ 140737488355328) (hO : ∀ p, p ∈ l → p.Ok) (hon : ∀ p, p ∈ l → p.on.length ≤ 9223372036854775807) (u : User) (hu : u.scopes.length ≤ 140737488355328) (v : Val) (hv : v.Ok) (more : List Hop) (hm : more.length ≤ 140737488355328) :
    FnOk P 5 [caseV ds l u v, .t (.lst (more.map Hop.enc))] ⟨[], 0⟩ { v := .t (.bool true) } := by
  unfold ExH at hex
  refine FnOk.run H.i5 H.mixed rfl rfl ?_
  refine fR rfl ?_
  refine Mid.call (large_ok H ds hD l hl hO u) rfl rfl rfl rfl ?_
  refine fM rfl ?_
  refine caG rfl rfl (fun hg => ⟨_, rfl, wVal_ok H 2000 v hv, rfl⟩) rfl rfl ?_
  refine fM rfl ?_
  refine lMG rfl rfl rfl rfl ?_
  refine fM rfl ?_
  refine Run.cond rfl rfl (fun h => ?_) (fun h => ?_)
  · refine fR rfl ?_
    refine Mid.call (hex) rfl rfl rfl rfl ?_
    refine fM rfl ?_
    refine Run.fin rfl (EndOk.go ?_); exact .t rfl
  · have h' : largeP ds l u = false := by simp only [Bool.or_eq_false_iff] at h; exact h.1.1
    have hc := large_cnts hl hO h'
    have hP := gone_paths (mayP ds u) l hc
    have hrf := rFilterTO_ok H ds hD u hu l hO (by omega)
    have hG := (Pick.filts_gone (mayP ds u) (SizeOf.sizeOf l)).2 l [] (Nat.le_refl _)
    generalize (Pick.filts (mayP ds u) l []).2 = G at hP hrf hG
    have hPl := hP.l
    have hP2 : PathsOk (G ++ [more]) := ⟨by simp; omega, fun x hx => by
      rcases List.mem_append.1 hx with hx | hx
      · exact hP.p x hx
      · obtain rfl : x = more := by simpa using hx
        exact hm⟩
    have hz1 := markT_sz G (SizeOf.sizeOf (rawOf l v)) l v (by omega) hv.sz
    have hz2 := markT_sz (G ++ [more]) (SizeOf.sizeOf (rawOf l v)) l v (by omega) hv.sz
    have m1 := markT_ok H G hP _ l v (Nat.le_refl _) hO hon (by omega) hv
    have r1 := rMarkT_ok H G hP _ l v (Nat.le_refl _) hO hon (by omega) hv
    have m2 := markT_ok H (G ++ [more]) hP2 _ l v (Nat.le_refl _) hO hon (by omega) hv
    have r2 := rMarkT_ok H (G ++ [more]) hP2 _ l v (Nat.le_refl _) hO hon (by omega) hv
    refine fR rfl ?_
    refine Mid.callR [] (hrf) rfl rfl rfl rfl rfl (by repeat' (first | exact trivial | exact rfl | refine And.intro ?_ ?_ | exact (congrArg some (AObj.ren_mE _ _ _ _ _ _)).symm | exact (congrArg some (AObj.ren_cE _ _ _)).symm)) rfl rfl (ob' := [(6, .arr (G.map pE).length)]) (rfl) rfl rfl ?_
    refine fM rfl ?_
    refine Mid.call (m1) rfl rfl rfl rfl ?_
    refine fM rfl ?_
    refine Mid.call (r1) rfl rfl rfl rfl ?_
    refine fM rfl ?_
    have e6 : renF [] 1 5 = 6 := rfl
    rw [e6]
    refine apM pE G [more] rfl rfl rfl rfl rfl ?_
    refine fM rfl ?_
    refine Mid.call (m2) rfl rfl rfl rfl ?_
    refine fM rfl ?_
    refine Mid.call (r2) rfl rfl rfl rfl ?_
    refine fM rfl ?_
    refine Mid.call (equalZ_ok H _ (markT G (SizeOf.sizeOf (rawOf l v)) l v) hz1) rfl rfl rfl rfl ?_
    refine fM rfl ?_
    refine caG rfl rfl (fun hg => ⟨_, rfl, equalZ_ok H _ (markT (G ++ [more]) (SizeOf.sizeOf (rawOf l v)) l v) hz2, rfl⟩) rfl rfl ?_
    refine fM rfl ?_
    refine caG rfl rfl (fun hg => ⟨_, rfl, hex, rfl⟩) rfl rfl ?_
    refine fM rfl ?_
    refine Run.fin rfl (EndOk.go ?_); exact .t (by simp)
end Go.GB.C43

/-
  GbX: what a law is handed, as trees; a law's row from its contract.
-/
namespace Go.GB
open Go.RowKit Go.WideShapes Go.ChangeShapes

abbrev allFix : Nat → Lab := fun _ => .fix none

/-- trees of a type -/
def WT (P : Program) : Nat → TypeId → List T → Prop
  | 0, _, _ => False
  | n + 1, t, ts =>
    match P.underlying t with
    | some .bool => ∃ b, ts = [.bool b]
    | some (.int k) => ∃ x, ts = [.int k x] ∧ (Lit.int k x).wf = true
    | some .string => ∃ s, ts = [.str s] ∧ s.length ≤ maxLen
    | some (.slice e) => ∃ xs, ts = [.lst xs] ∧ xs.length * P.bytesOf e ≤ reachBytes ∧ xs.length ≤ maxLen ∧ ∀ c ∈ xs, WT P n e c
    | some (.struct fs) => ts.length = P.cellsOf t ∧ ∀ f ∈ fs.toList, WT P n f.type ((ts.drop f.offset).take (P.cellsOf f.type))
    | some (.array m e) => ts.length = P.cellsOf t ∧ ∀ i, i < m → WT P n e ((ts.drop (i * P.cellsOf e)).take (P.cellsOf e))
    | _ => False

/-- places that follow each other: where they end -/
def consec (P : Program) : Nat → List (Nat × TypeId) → Option Nat
  | off, [] => some off
  | off, (o, t) :: r => if o = off then consec P (off + P.cellsOf t) r else none

/-- types of plain data: closed under their parts -/
def plainT (P : Program) (S : List TypeId) : Bool :=
  S.all fun t =>
    match P.underlying t with
    | some .bool => true
    | some (.int _) => true
    | some .string => true
    | some (.slice e) => S.contains e && decide (0 < P.cellsOf e)
    | some (.struct fs) => (fs.toList.all fun f => S.contains f.type) && (consec P 0 (fs.toList.map fun f => (f.offset, f.type)) == some (P.cellsOf t))
    | some (.array m e) => S.contains e && (consec P 0 ((List.range m).map fun i => (i * P.cellsOf e, e)) == some (P.cellsOf t))
    | _ => false

def RepL (w : World) (cs : List Value) (ts : List T) : Prop := cs.length = ts.length ∧ ∀ (j : Nat) (v : Value) (x : T), cs[j]? = some v → ts[j]? = some x → RepT allFix w v x

theorem RepL.one {w : World} {v : Value} {x : T} (h : RepT allFix w v x) : RepL w [v] [x] := by
  refine ⟨rfl, fun j u y h1 h2 => ?_⟩
  cases j with
  | zero => simp at h1 h2; subst h1; subst h2; exact h
  | succ j => simp at h1

theorem mapM_at {α β : Type} {g : α → Option β} : ∀ {l : List α} {r : List β}, l.mapM g = some r → l.length = r.length ∧ ∀ (j : Nat) (x : α), l[j]? = some x → ∃ y, r[j]? = some y ∧ g x = some y
  | [], r, h => by simp at h; subst h; simp
  | a :: l, r, h => by
    simp only [List.mapM_cons, Option.bind_eq_bind, Option.pure_def, Option.bind_eq_some_iff] at h
    obtain ⟨y, hy, r', hr, h⟩ := h
    simp at h; subst h
    obtain ⟨i1, i2⟩ := mapM_at hr
    refine ⟨by simp [i1], fun j x hx => ?_⟩
    cases j with
    | zero => simp at hx; subst hx; exact ⟨y, rfl, hy⟩
    | succ j => simpa using i2 j x (by simpa using hx)

theorem spot_none {w : World} {a : Addr} {v : Value} (h : w.cell? a = some v) : a.spot = none := by
  unfold World.cell? at h
  cases hs : a.spot with
  | none => rfl
  | some s =>
    rw [hs] at h
    split at h <;> simp_all

theorem cells?_at {w : World} {base n : Nat} {a : Addr} {cs : List Value} (h : w.cells? base a n = some cs) : cs.length = n ∧ ∀ (j : Nat) (v : Value), cs[j]? = some v → w.cell? (a.add j) = some v := by
  unfold World.cells? at h
  split at h
  · obtain ⟨h1, h2⟩ := mapM_at h
    simp at h1
    refine ⟨h1.symm, fun j v hj => ?_⟩
    have hlt : j < n := by rw [h1]; exact (List.getElem?_eq_some_iff.1 hj).1
    obtain ⟨y, e1, e2⟩ := h2 j j (by simp [hlt])
    rw [hj] at e1; simp at e1; subst e1; exact e2
  · cases h

/-- a list chosen index by index -/
theorem choose_list {α : Type} {Q : Nat → α → Prop} : ∀ (n : Nat), (∀ j, j < n → ∃ v, Q j v) → ∃ vs : List α, vs.length = n ∧ ∀ (j : Nat) (v : α), vs[j]? = some v → Q j v
  | 0, _ => ⟨[], rfl, by simp⟩
  | n + 1, h => by
    obtain ⟨vs, hl, hv⟩ := choose_list n (fun j hj => h j (by omega))
    obtain ⟨v, hq⟩ := h n (by omega)
    refine ⟨vs ++ [v], by simp [hl], fun j u hu => ?_⟩
    by_cases hj : j < vs.length
    · rw [List.getElem?_append_left hj] at hu; exact hv j u hu
    · rw [List.getElem?_append_right (by omega)] at hu
      by_cases e : j = n
      · subst e; rw [hl] at hu; simp at hu; subst hu; exact hq
      · rw [List.getElem?_eq_none (by simp; omega)] at hu; cases hu

theorem pieces {P : Program} {w : World} {n : Nat} {cs : List Value} : ∀ (l : List (Nat × TypeId)) (off tot : Nat), consec P off l = some tot → tot ≤ cs.length → (∀ p ∈ l, ∃ ts, RepL w ((cs.drop p.1).take (P.cellsOf p.2)) ts ∧ WT P n p.2 ts) →
    off ≤ tot ∧ ∃ ts : List T, ts.length = tot - off ∧ (∀ (j : Nat) (v : Value) (x : T), cs[off + j]? = some v → ts[j]? = some x → RepT allFix w v x) ∧ ∀ p ∈ l, off ≤ p.1 ∧ WT P n p.2 ((ts.drop (p.1 - off)).take (P.cellsOf p.2))
  | [], off, tot, hc, _, _ => by simp [consec] at hc; subst hc; exact ⟨Nat.le_refl _, [], by simp, by simp, by simp⟩
  | (o, t) :: r, off, tot, hc, hl, hp => by
    simp only [consec] at hc
    split at hc
    · rename_i e; subst e
      obtain ⟨h1, ts, h2, h3, h4⟩ := pieces r (o + P.cellsOf t) tot hc hl (fun p hp' => hp p (List.mem_cons_of_mem _ hp'))
      obtain ⟨us, k1, k2⟩ := hp (o, t) (by simp)
      have hul : us.length = P.cellsOf t := by rw [← k1.1]; simp; omega
      refine ⟨by omega, us ++ ts, by simp [hul, h2]; omega, fun j v x hv hx => ?_, fun p hpm => ?_⟩
      · by_cases hj : j < us.length
        · rw [List.getElem?_append_left hj] at hx
          refine k1.2 j v x ?_ hx
          simp only
          rw [List.getElem?_take, if_pos (by omega), List.getElem?_drop]; exact hv
        · rw [List.getElem?_append_right (by omega)] at hx
          refine h3 (j - us.length) v x ?_ hx
          have : o + P.cellsOf t + (j - us.length) = o + j := by omega
          rw [this]; exact hv
      · rcases List.mem_cons.1 hpm with e | e
        · subst e
          refine ⟨Nat.le_refl _, ?_⟩
          simp only [Nat.sub_self, List.drop_zero]
          rw [List.take_append_of_le_length (by omega), List.take_of_length_le (by omega)]
          exact k2
        · obtain ⟨g1, g2⟩ := h4 p e
          refine ⟨by omega, ?_⟩
          have : p.1 - o = us.length + (p.1 - (o + P.cellsOf t)) := by omega
          rw [this, List.drop_append, List.drop_eq_nil_of_le (by omega)]
          simpa using g2
    · cases hc

section
variable {H : Type} {enc : TypeId × Value → H} {P : Program} {w : World} {sp : Nat → Bool} {held : Bool} {S : List TypeId}

theorem weightsAll_of {e : TypeId} {r : Nat → Bool} : ∀ (l : List (DataW H)), (DataW.weightsAll P e l).all r = true → ∀ d ∈ l, (d.weights P e).all r = true
  | [], _, d, h => by cases h
  | x :: l, h, d, hd => by
    simp only [DataW.weightsAll, List.all_append, Bool.and_eq_true] at h
    cases hd with
    | head => exact h.1
    | tail _ hd => exact weightsAll_of l h.2 d hd
theorem weightsEach_of {r : Nat → Bool} : ∀ (ts : List TypeId) (l : List (DataW H)), (DataW.weightsEach P ts l).all r = true → ∀ (j : Nat) t d, ts[j]? = some t → l[j]? = some d → (d.weights P t).all r = true
  | [], l, _, j, t, d, h, _ => by simp at h
  | t :: ts, [], _, j, t', d, _, h => by simp at h
  | t :: ts, x :: l, h, j, t', d, h1, h2 => by
    simp only [DataW.weightsEach, List.all_append, Bool.and_eq_true] at h
    cases j with
    | zero => simp at h1 h2; subst h1; subst h2; exact h.1
    | succ j => exact weightsEach_of ts l h.2 j t' d (by simpa using h1) (by simpa using h2)
theorem trod_rep (hp : plainT P S = true) : ∀ (n : Nat) (t : TypeId) (cs : List Value) (d : DataW H) (ps : List MemPlace), t ∈ S → DataW.trod enc P w 0 sp held n t cs = some (d, ps) → (d.weights P t).all (· ≤ reachBytes) = true → ∃ ts, RepL w cs ts ∧ WT P n t ts
  | 0, t, cs, d, ps, _, h, _ => by simp [DataW.trod] at h
  | n + 1, t, cs, d, ps, ht, h, hwt => by
    have hpt := List.all_eq_true.1 hp t ht
    simp only [WT]
    cases hu : P.underlying t with
    | none => rw [hu] at hpt; simp at hpt
    | some td =>
      rw [hu] at hpt
      cases td with
      | bool =>
        rcases cs with _ | ⟨v, _ | ⟨v2, r⟩⟩ <;> try (simp [DataW.trod, hu] at h; done)
        cases v <;> simp [DataW.trod, hu] at h
        rename_i b
        exact ⟨[.bool b], RepL.one (.bool b), b, rfl⟩
      | int k =>
        rcases cs with _ | ⟨v, _ | ⟨v2, r⟩⟩ <;> try (simp [DataW.trod, hu] at h; done)
        cases v <;> simp [DataW.trod, hu] at h
        rename_i k' x
        obtain ⟨⟨rfl, h2⟩, _⟩ := h
        exact ⟨[.int k' x], RepL.one (.int _ _), x, rfl, h2⟩
      | string =>
        rcases cs with _ | ⟨v, _ | ⟨v2, r⟩⟩ <;> try (simp [DataW.trod, hu] at h; done)
        cases v <;> simp [DataW.trod, hu] at h
        rename_i s
        exact ⟨[.str s.data.toList], RepL.one (.str _), s.data.toList, rfl, by simpa using h.1⟩
      | slice e =>
        simp only [Bool.and_eq_true, decide_eq_true_eq] at hpt
        have he : e ∈ S := by simpa using hpt.1
        rcases cs with _ | ⟨v, _ | ⟨v2, r⟩⟩ <;> try (simp [DataW.trod, hu] at h; done)
        cases v <;> try (simp [DataW.trod, hu] at h; done)
        rename_i a len cap
        cases a with
        | none =>
          have h0 : len = 0 ∧ cap = 0 := by
            cases len <;> cases cap <;> simp_all [DataW.trod]
          obtain ⟨rfl, rfl⟩ := h0
          exact ⟨[.lst []], RepL.one .nil, [], rfl, by simp, by simp, by simp⟩
        | some a =>
          simp only [DataW.trod, hu] at h
          split at h
          · rename_i hcond
            simp only [Option.bind_eq_some_iff] at h
            obtain ⟨elems, hel, hrest⟩ := h
            obtain ⟨hl, hat⟩ := mapM_at hel
            simp at hl
            rw [Option.map_eq_some_iff] at hrest
            obtain ⟨rest, _, hde⟩ := hrest
            simp only [Prod.mk.injEq] at hde
            rw [← hde.1] at hwt
            simp only [DataW.weights, hu, List.all_cons, List.all_append, Bool.and_eq_true, decide_eq_true_eq, List.length_map] at hwt
            have hreach : len * P.bytesOf e ≤ reachBytes := by
              rw [hl]
              exact Nat.le_trans (Nat.mul_le_mul_right _ (Nat.le_add_right _ _)) hwt.1
            have hone : ∀ i, i < len → ∃ q : List Value × List T, w.cells? 0 (a.add (i * P.cellsOf e)) (P.cellsOf e) = some q.1 ∧ RepL w q.1 q.2 ∧ WT P n e q.2 := by
              intro i hi
              obtain ⟨y, hye, hy⟩ := hat i i (by simp [hi])
              simp only [Option.bind_eq_some_iff] at hy
              obtain ⟨c, hc, hy⟩ := hy
              obtain ⟨d', ps'⟩ := y
              obtain ⟨ts, k1, k2⟩ := trod_rep hp n e c d' ps' he hy (weightsAll_of _ hwt.2.1 _ (List.mem_map.2 ⟨(d', ps'), List.mem_of_getElem? hye, rfl⟩))
              exact ⟨(c, ts), hc, k1, k2⟩
            obtain ⟨qs, hql, hq⟩ := choose_list len hone
            have hsz : ∀ (i : Nat) (q : List Value × List T), qs[i]? = some q → q.1.length = P.cellsOf e ∧ q.2.length = P.cellsOf e := by
              intro i q hi
              obtain ⟨h1, h2, _⟩ := hq i q hi
              have := (cells?_at h1).1
              exact ⟨this, by rw [← h2.1]; exact this⟩
            -- the address has no spot, where anything is read
            have hspot : 0 < len → a.spot = none := by
              intro h0
              have hq0 : qs[0]? = some (qs[0]'(by omega)) := by simp
              obtain ⟨h1, _, _⟩ := hq 0 _ hq0
              obtain ⟨e1, e2⟩ := cells?_at h1
              have hlt : 0 < (qs[0]'(by omega)).1.length := by rw [(hsz 0 _ hq0).1]; exact hpt.2
              have := spot_none (e2 0 _ (List.getElem?_eq_getElem hlt))
              simpa [Addr.add] using this
            have hadd : ∀ m, 0 < len → a.add m = ⟨a.block, a.off + m, none⟩ := by
              intro m h0
              have hs := hspot h0
              obtain ⟨b, o, s⟩ := a
              simp at hs; subst hs
              exact add_mk b o m
            refine ⟨[.lst (qs.map (·.2))], RepL.one ?_, qs.map (·.2), rfl, by simpa [hql] using hreach, by simp [hql]; omega, fun c hc => ?_⟩
            · have hlen : len = (qs.map (·.2)).length := by simp [hql]
              rw [hlen]
              refine .lst (some a) cap (P.cellsOf e) (qs.map (·.2)) a.block a.off (fun i j => ((qs.map (·.1)).getD i []).getD j undef) (by rw [← hlen]; exact hcond.2.1) ?_ ?_ ?_ ?_ ?_
              · intro i c hc
                rw [List.getElem?_map, Option.map_eq_some_iff] at hc
                obtain ⟨q, h1, rfl⟩ := hc
                exact (hsz i q h1).2
              · intro i j c x hc hx
                have h0 : 0 < len := by have := (List.getElem?_eq_some_iff.1 hc).1; simp [hql] at this; omega
                have hs := hspot h0
                obtain ⟨b, o, s⟩ := a
                simp at hs; subst hs; rfl
              · intro i j c x hc hx; trivial
              · intro i j c x hc hx
                rw [List.getElem?_map, Option.map_eq_some_iff] at hc
                obtain ⟨q, h1, rfl⟩ := hc
                have h0 : 0 < len := by have := (List.getElem?_eq_some_iff.1 h1).1; omega
                obtain ⟨g1, g2, _⟩ := hq i q h1
                obtain ⟨e1, e2⟩ := cells?_at g1
                have hj : j < q.1.length := by rw [g2.1]; exact (List.getElem?_eq_some_iff.1 hx).1
                have := e2 j _ (List.getElem?_eq_getElem hj)
                rw [hadd _ h0] at this
                rw [add_mk] at this
                rw [this]
                simp [h1, hj]
              · intro i j c x hc hx
                rw [List.getElem?_map, Option.map_eq_some_iff] at hc
                obtain ⟨q, h1, rfl⟩ := hc
                obtain ⟨g1, g2, _⟩ := hq i q h1
                have hj : j < q.1.length := by rw [g2.1]; exact (List.getElem?_eq_some_iff.1 hx).1
                have := g2.2 j _ x (List.getElem?_eq_getElem hj) hx
                simpa [h1, hj] using this
            · rw [List.mem_map] at hc
              obtain ⟨q, h1, rfl⟩ := hc
              obtain ⟨i, hi⟩ := List.mem_iff_getElem?.1 h1
              exact (hq i q hi).2.2
          · cases h
      | struct fs =>
        simp only [Bool.and_eq_true, List.all_eq_true, beq_iff_eq] at hpt
        have hh : cs.length = P.cellsOf t ∧ ∃ xs, (fs.toList.mapM fun f => DataW.trod enc P w 0 sp held n f.type ((cs.drop f.offset).take (P.cellsOf f.type))) = some xs ∧ d = .agg (xs.map (·.1)) := by
          have h' := h
          simp only [DataW.trod, hu] at h'
          split at h'
          · rename_i hc
            simp only [Option.map_eq_some_iff] at h'
            obtain ⟨xs, hxs, hd⟩ := h'
            exact ⟨hc, xs, hxs, by simp only [Prod.mk.injEq] at hd; exact hd.1.symm⟩
          · cases h'
        obtain ⟨hlen, xs, hxs, rfl⟩ := hh
        obtain ⟨hl, hat⟩ := mapM_at hxs
        simp only [DataW.weights, hu] at hwt
        obtain ⟨_, ts, g1, g2, g3⟩ := pieces (n := n) (w := w) (cs := cs) _ 0 _ hpt.2 (by omega) (fun p hpm => by
          rw [List.mem_map] at hpm
          obtain ⟨f, hf, rfl⟩ := hpm
          obtain ⟨j, hj⟩ := List.mem_iff_getElem?.1 hf
          obtain ⟨y, hye, hy⟩ := hat j f hj
          obtain ⟨d', ps'⟩ := y
          exact trod_rep hp n f.type _ d' ps' (by simpa using hpt.1 f hf) hy (weightsEach_of _ _ hwt j f.type d' (by simp [hj]) (by simp [hye])))
        refine ⟨ts, ⟨by omega, fun j v x hv hx => g2 j v x (by simpa using hv) hx⟩, by omega, fun f hf => ?_⟩
        have := (g3 (f.offset, f.type) (List.mem_map.2 ⟨f, hf, rfl⟩)).2
        simpa using this
      | array m e =>
        simp only [Bool.and_eq_true, beq_iff_eq] at hpt
        have hh : cs.length = P.cellsOf t ∧ ∃ xs, ((List.range m).mapM fun i => DataW.trod enc P w 0 sp held n e ((cs.drop (i * P.cellsOf e)).take (P.cellsOf e))) = some xs ∧ d = .agg (xs.map (·.1)) := by
          have h' := h
          simp only [DataW.trod, hu] at h'
          split at h'
          · rename_i hc
            simp only [Option.map_eq_some_iff] at h'
            obtain ⟨xs, hxs, hd⟩ := h'
            exact ⟨hc, xs, hxs, by simp only [Prod.mk.injEq] at hd; exact hd.1.symm⟩
          · cases h'
        obtain ⟨hlen, xs, hxs, rfl⟩ := hh
        obtain ⟨hl, hat⟩ := mapM_at hxs
        simp only [DataW.weights, hu] at hwt
        obtain ⟨_, ts, g1, g2, g3⟩ := pieces (n := n) (w := w) (cs := cs) _ 0 _ hpt.2 (by omega) (fun p hpm => by
          rw [List.mem_map] at hpm
          obtain ⟨i, hi, rfl⟩ := hpm
          obtain ⟨y, hye, hy⟩ := hat i i (by simp [List.mem_range.1 hi])
          obtain ⟨d', ps'⟩ := y
          exact trod_rep hp n e _ d' ps' (by simpa using hpt.1) hy (weightsAll_of _ hwt _ (List.mem_map.2 ⟨(d', ps'), List.mem_of_getElem? hye, rfl⟩)))
        refine ⟨ts, ⟨by omega, fun j v x hv hx => g2 j v x (by simpa using hv) hx⟩, by omega, fun i hi => ?_⟩
        have := (g3 (i * P.cellsOf e, e) (List.mem_map.2 ⟨i, List.mem_range.2 hi, rfl⟩)).2
        simpa using this
      | _ => simp at hpt

/-- an argument as an abstract value -/
def argV (P : Program) (t : TypeId) (ts : List T) : V := if isAggT P t then .agg (ts.map V.t) else .t (ts.headD .nilp)

/-- the world that a law is called in -/
def L.all (w : World) : L := { lab := allFix, fro := fun _ => 0, nxt := 0, w := w }

theorem RelS.all (w : World) : RelS (L.all w) ⟨[], 0⟩ := ⟨by simp [aget], fun b b' k h => by simp [L.all] at h, fun _ _ => rfl, fun b k h => by simp [L.all] at h, fun _ _ => rfl⟩

theorem arg_rel (hp : plainT P S = true) {base : Nat} {t : TypeId} {v : Value} {d : DataW H} {ps : List MemPlace} (ht : t ∈ S) (hok : Value.okWide P w .any base t v) (h : DataW.Trod enc P w 0 sp held t v d ps) (hwt : (d.weights P t).all (· ≤ reachBytes) = true) :
    ∃ n ts, WT P n t ts ∧ RelV (L.all w) v (argV P t ts) := by
  obtain ⟨n, hn⟩ := h
  obtain ⟨ts, h1, h2⟩ := trod_rep hp n t _ d ps ht hn hwt
  refine ⟨n, ts, h2, ?_⟩
  have hpt := List.all_eq_true.1 hp t ht
  unfold argV
  by_cases hag : isAggT P t = true
  · simp only [hag, if_true]
    have : ∃ cs, v = .agg cs := by
      unfold isAggT at hag
      unfold Value.okWide at hok
      cases hu : P.underlying t with
      | none => rw [hu] at hag; simp at hag
      | some td => rw [hu] at hag hok; cases td <;> simp at hag <;> exact ⟨_, hok.choose_spec.1⟩
    obtain ⟨cs, rfl⟩ := this
    refine .agg (by simpa [Value.cells] using h1.1) fun j u c hj hc => ?_
    rw [List.getElem?_map, Option.map_eq_some_iff] at hc
    obtain ⟨x, hx, rfl⟩ := hc
    exact .t (h1.2 j u x (by simpa [Value.cells] using hj) hx)
  · simp only [hag, if_false, Bool.false_eq_true]
    have hcells : v.cells = #[v] := by
      unfold isAggT at hag
      unfold Value.okWide at hok
      cases hu : P.underlying t with
      | none => rw [hu] at hpt; simp at hpt
      | some td =>
        rw [hu] at hag hok hpt
        cases td <;> simp at hag hpt <;> simp only [Cell.okWide, Cell.ok, hu] at hok <;> cases v <;> first | rfl | (exact hok.elim)
    have hcl : ts.length = 1 := by rw [← h1.1, hcells]; rfl
    obtain ⟨x, rfl⟩ : ∃ x, ts = [x] := by
      match ts, hcl with
      | [x], _ => exact ⟨x, rfl⟩
    exact .t (h1.2 0 v x (by rw [hcells]; rfl) rfl)

/-- arguments one by one -/
inductive WTs (P : Program) : List TypeId → List V → Prop
  | nil : WTs P [] []
  | cons {t : TypeId} {ts : List TypeId} {n : Nat} {xs : List T} {vs : List V} (h : WT P n t xs) (r : WTs P ts vs) : WTs P (t :: ts) (argV P t xs :: vs)

theorem args_rel (hp : plainT P S = true) {base : Nat} : ∀ (ts : List TypeId) (args : List Value) (ds : List (DataW H)) (ps : List MemPlace), (∀ t ∈ ts, t ∈ S) → (∀ (j : Nat) t v, ts[j]? = some t → args[j]? = some v → Value.okWide P w .any base t v) →
    DataW.TrodAll enc P w 0 sp held ts args ds ps → (DataW.weightsEach P ts ds).all (· ≤ reachBytes) = true → ∃ vs, WTs P ts vs ∧ args.length = vs.length ∧ ∀ (j : Nat) (v : Value) (x : V), args[j]? = some v → vs[j]? = some x → RelV (L.all w) v x
  | [], [], [], ps, _, _, _, _ => ⟨[], .nil, rfl, by simp⟩
  | t :: ts, v :: args, d :: ds, ps, hS, hok, ⟨p, q, h1, h2, _⟩, hwt => by
    simp only [DataW.weightsEach, List.all_append, Bool.and_eq_true] at hwt
    obtain ⟨vs, k1, k2, k3⟩ := args_rel hp ts args ds q (fun t ht => hS t (List.mem_cons_of_mem _ ht)) (fun j t v a b => hok (j + 1) t v (by simpa using a) (by simpa using b)) h2 hwt.2
    obtain ⟨n, xs, g1, g2⟩ := arg_rel hp (hS t (by simp)) (hok 0 t v rfl rfl) h1 hwt.1
    refine ⟨argV P t xs :: vs, .cons g1 k1, by simp [k2], fun j u x hu hx => ?_⟩
    cases j with
    | zero => simp at hu hx; subst hu; subst hx; exact g2
    | succ j => exact k3 j u x (by simpa using hu) (by simpa using hx)
  | [], _ :: _, _, _, _, _, h, _ => by simp [DataW.TrodAll] at h
  | [], [], _ :: _, _, _, _, h, _ => by simp [DataW.TrodAll] at h
  | _ :: _, [], _, _, _, _, h, _ => by simp [DataW.TrodAll] at h
  | _ :: _, _ :: _, [], _, _, _, h, _ => by simp [DataW.TrodAll] at h

theorem trodAll_stays (hl : laidOutB P = true) {W W' : World} (hb : Below W.heap.size W W') {sp' : Nat → Bool} : ∀ (ts : List TypeId) (vs : List Value) (ds : List (DataW H)) (ps : List MemPlace), (∀ t ∈ ts, P.readableRec t = true ∧ t < P.types.size) → DataW.TrodAll enc P W 0 (fun _ => true) true ts vs ds ps →
    (∀ p ∈ ps, p.block < W.heap.size) → (∀ p ∈ ps, sp' p.block = true) → DataW.TrodAll enc P W' 0 sp' true ts vs ds ps
  | [], [], [], _, _, h, _, _ => h
  | t :: ts, v :: vs, d :: ds, _, hT, ⟨p, q, h1, h2, e⟩, hlt, hs => by
    subst e
    refine ⟨p, q, WideElems.Trod_stays hl (hT t (by simp)).1 (hT t (by simp)).2 h1 (fun x hx => hb.same (hlt x (List.mem_append_left _ hx))) (fun x hx => hs x (List.mem_append_left _ hx)), ?_, rfl⟩
    exact trodAll_stays hl hb ts vs ds q (fun t ht => hT t (List.mem_cons_of_mem _ ht)) h2 (fun x hx => hlt x (List.mem_append_right _ hx)) (fun x hx => hs x (List.mem_append_right _ hx))
  | [], _ :: _, _, _, _, h, _, _ => by simp [DataW.TrodAll] at h
  | [], [], _ :: _, _, _, h, _, _ => by simp [DataW.TrodAll] at h
  | _ :: _, [], _, _, _, h, _, _ => by simp [DataW.TrodAll] at h
  | _ :: _, _ :: _, [], _, _, h, _, _ => by simp [DataW.TrodAll] at h

end

section
variable {H : Type} {enc : TypeId × Value → H} {P : Program}
theorem post_of_below {f : Func} {s : ChangeSpec} {apart fresh handsOn again : Bool} {W W' : World} {args : Array Value} {v : Value} {ds gs : List (DataW H)} {before pa pv : List MemPlace}
    (hW : DataW.Whole enc P f.params.toList s.vars apart W args.toList ds gs before)
    (hres : ∀ (b : Nat) (sp : Nat → Bool) (hd : Bool), DataW.TrodAll enc P W' b sp hd f.resultTypes.toList (v.resultList f.resultTypes.size) (s.fn H (ds ++ gs)).results [])
    (hargs : ∀ sp : Nat → Bool, (∀ p ∈ before, sp p.block = true) → DataW.TrodAll enc P W' 0 sp true f.params.toList args.toList (s.fn H (ds ++ gs)).args pa)
    (hvars : ∀ sp : Nat → Bool, (∀ p ∈ before, sp p.block = true) → DataW.TrodVars enc P W' sp s.vars (s.fn H (ds ++ gs)).vars pv)
    (hps : before = pa ++ pv) (hb : Below W.heap.size W W')
    (hok : ∀ (j : Nat) (t : TypeId) (r : Value), f.resultTypes[j]? = some t → (v.resultList f.resultTypes.size)[j]? = some r → Value.okWide P W' .any 0 t r) :
    s.post enc P f apart fresh handsOn again W args v W' := by
  have hlt : ∀ p ∈ before, p.block < W.heap.size := fun p hp => hW.lt p hp
  have hold : ∀ p ∈ before, (fun b => decide (b < W.heap.size)) p.block = true := fun p hp => by simpa using hlt p hp
  refine ⟨ds, gs, before, [], pa, pv, hW, hres _ _ _, hargs _ hold, hvars _ hold, World.keptBut_mono (fun p hp => ⟨hp, ?_⟩) (hb.frame (· ∈ before)), fun _ => ?_⟩
  · rw [hps, List.mem_append] at hp
    exact Or.inr hp
  · obtain ⟨_, _, _, _, _, hz, hn⟩ := hW
    refine ⟨hok, _, _, ([] ++ pa) ++ pv, ⟨[] ++ pa, pv, trodAll_append (hargs _ (fun _ _ => rfl)) (hres _ _ _), hvars _ (fun _ _ => rfl), rfl, ?_, ?_⟩, ?_⟩
    · intro b off hp
      have hin : MemPlace.cell b off ∈ before := by rw [hps]; simpa using hp
      rw [hb.frozen (hlt _ hin)]
      exact hz b off hin
    · intro ha
      have := hn ha
      rw [hps] at this
      simpa using this
    · intro p hp _
      rw [hps]
      simpa using hp

/-- A law's contract, as its row wants it. -/
theorem law_contract {S : List TypeId} {f : FuncId} {fn : Func} {s : ChangeSpec} {tb : TypeId} {apart fresh handsOn again : Bool} (hp : plainT P S = true) (hl : laidOutB P = true) (hT : ∀ t ∈ fn.params.toList, t ∈ S ∧ P.readableRec t = true ∧ t < P.types.size)
    (hrt : fn.resultTypes = #[tb]) (hb : P.underlying tb = some .bool) (hv : s.vars = []) (hs : ∀ ds : List (DataW H), ds.length = fn.params.size → s.fn H ds = { results := [.lit (.bool true)], args := ds })
    (W : World) (base : Nat) (args : Array Value) (ds gs : List (DataW H)) (before : List MemPlace)
    (hval : ∀ (j : Nat) t v, fn.params[j]? = some t → args[j]? = some v → Value.okWide P W .any base t v)
    (hW : DataW.Whole enc P fn.params.toList s.vars apart W args.toList ds gs before)
    (hwt : (DataW.weightsEach P (fn.params.toList ++ s.plain.varTypes P) (ds ++ gs)).all (· ≤ reachBytes) = true)
    (hok : ∀ vs, WTs P fn.params.toList vs → FnOk P f vs ⟨[], 0⟩ { v := .t (.bool true) }) :
    Calls P f args W fun e W' => ∃ v, e = .returned v ∧ s.post enc P fn apart fresh handsOn again W args v W' := by
  have hW' := hW
  obtain ⟨p, q, hA, hV, rfl, hfz, hnd⟩ := hW
  rw [hv] at hV
  obtain ⟨rfl, rfl⟩ := trodVars_none hV
  have hdl : ds.length = fn.params.size := by
    have : ∀ (ts : List TypeId) (vs : List Value) (ds : List (DataW H)) (ps : List MemPlace), DataW.TrodAll enc P W 0 (fun _ => true) true ts vs ds ps → ds.length = ts.length := by
      intro ts
      induction ts with
      | nil => intro vs ds ps h; cases vs <;> cases ds <;> simp_all [DataW.TrodAll]
      | cons t ts ih =>
        intro vs ds ps h
        cases vs with
        | nil => simp [DataW.TrodAll] at h
        | cons v vs =>
          cases ds with
          | nil => simp [DataW.TrodAll] at h
          | cons d ds => obtain ⟨p, q, _, h2, _⟩ := h; simp [ih vs ds q h2]
    simpa using this _ _ _ _ hA
  have hwt' : (DataW.weightsEach P fn.params.toList ds).all (· ≤ reachBytes) = true := by
    have happ : ∀ (ts us : List TypeId) (ds es : List (DataW H)), ts.length = ds.length → DataW.weightsEach P (ts ++ us) (ds ++ es) = DataW.weightsEach P ts ds ++ DataW.weightsEach P us es := by
      intro ts
      induction ts with
      | nil => intro us ds es h; cases ds with
        | nil => simp [DataW.weightsEach]
        | cons d ds => simp at h
      | cons t ts ih => intro us ds es h; cases ds with
        | nil => simp at h
        | cons d ds => simp only [List.cons_append, DataW.weightsEach, List.append_assoc]; rw [ih us ds es (by simpa using h)]
    rw [happ _ _ _ _ (by simpa using hdl.symm), List.all_append, Bool.and_eq_true] at hwt
    exact hwt.1
  obtain ⟨vs, k1, k2, k3⟩ := args_rel hp _ _ _ _ (fun t ht => (hT t ht).1) (fun j t v a b => hval j t v (by simpa using a) (by simpa using b)) hA hwt'
  refine ((hok vs k1).2 (L.all W) args (RelS.all W) rfl (by simpa using k2) (fun j v x a b => k3 j v x (by simpa using a) b)).mono fun e W' he => ?_
  obtain ⟨v, Λ', rfl, rfl, g1, g2, g3, g4⟩ := he
  have hvt := g4.repT.bool_inv
  subst hvt
  have hbel : Below W.heap.size W Λ'.w := ⟨g1.fr.os, g1.fr.tape, g1.fr.output, g1.fr.size, fun b hb => (g1.fr.fix b hb none rfl).2⟩
  have hsf := hs (ds ++ []) (by simpa using hdl)
  refine ⟨_, rfl, post_of_below (pa := p) (pv := []) (by simpa using hW') ?_ ?_ ?_ (by simp) hbel ?_⟩
  · intro b sp hd
    rw [hsf, hrt]
    exact ⟨[], [], ⟨1, by simp [DataW.trod, hb, Value.cells]⟩, rfl, rfl⟩
  · intro sp hsp
    rw [hsf]
    have hlt : ∀ x ∈ p, x.block < W.heap.size := fun x hx => hW'.lt x (by simpa using hx)
    simpa using trodAll_stays hl hbel _ _ _ _ (fun t ht => (hT t ht).2) hA hlt (fun x hx => hsp x (by simpa using hx))
  · intro sp hsp
    rw [hsf, hv]; rfl
  · intro j t r hj hr
    rw [hrt] at hj
    cases j with
    | zero =>
      simp at hj; subst hj
      simp [hrt, Value.resultList] at hr; subst hr
      simp [Value.okWide, Cell.okWide, Cell.ok, hb]
    | succ j => simp at hj
end
end Go.GB

/-
  GbZA: shapes of plain types: what a law is handed, taken apart.
-/
namespace Go.GB
open Go.RowKit Go.WideShapes Go.ChangeShapes

inductive Sh where
  | bool
  | int (k : IntKind)
  | str
  | lst (b : Nat) (s : List Sh)
  | any
  | num (i : Nat)

/-- fields side by side -/
def joinSh (P : Program) (g : TypeId → Option (List Sh)) : Nat → List (Nat × TypeId) → Option (List Sh)
  | _, [] => some []
  | off, (o, t) :: r =>
    if o = off then
      match g t with
      | some a => if a.length = P.cellsOf t then (joinSh P g (off + P.cellsOf t) r).map fun b => a ++ b else none
      | none => none
    else none

def shOf (P : Program) (sp : TypeId → Option Nat) : Nat → TypeId → Option (List Sh)
  | 0, t =>
    match P.underlying t with
    | some .bool => some [.bool]
    | some (.int k) => some [.int k]
    | some .string => some [.str]
    | some (.slice e) => match sp e with | some i => some [.num i] | none => some [.any]
    | _ => none
  | n + 1, t =>
    match P.underlying t with
    | some .bool => some [.bool]
    | some (.int k) => some [.int k]
    | some .string => some [.str]
    | some (.slice e) => match sp e with | some i => some [.num i] | none => (shOf P sp n e).map fun s => [.lst (P.bytesOf e) s]
    | some (.struct fs) => (joinSh P (shOf P sp n) 0 (fs.toList.map fun f => (f.offset, f.type))).bind fun s => if s.length = P.cellsOf t then some s else none
    | some (.array m e) => (joinSh P (shOf P sp n) 0 ((List.range m).map fun i => (i * P.cellsOf e, e))).bind fun s => if s.length = P.cellsOf t then some s else none
    | _ => none

mutual
/-- a tree of that shape; numbers stand for lists of types that contain themselves -/
def Sh.ok (Y : Nat → T → Prop) : Sh → T → Prop
  | .bool, x => ∃ b, x = .bool b
  | .int k, x => ∃ n, x = .int k n ∧ (Lit.int k n).wf = true
  | .str, x => ∃ s, x = .str s ∧ s.length ≤ maxLen
  | .lst b sh, x => ∃ xs : List (List T), x = .lst xs ∧ xs.length * b ≤ reachBytes ∧ xs.length ≤ maxLen ∧ ∀ c ∈ xs, Sh.oks Y sh c
  | .any, _ => True
  | .num i, x => Y i x
def Sh.oks (Y : Nat → T → Prop) : List Sh → List T → Prop
  | [], [] => True
  | s :: r, x :: ts => s.ok Y x ∧ Sh.oks Y r ts
  | _, _ => False
end

theorem Sh.oks_append {Y : Nat → T → Prop} : ∀ {a b : List Sh} {ts us : List T}, Sh.oks Y a ts → Sh.oks Y b us → Sh.oks Y (a ++ b) (ts ++ us)
  | [], b, [], us, _, h => h
  | [], b, x :: ts, us, h, _ => by simp [Sh.oks] at h
  | s :: r, b, [], us, h, _ => by simp [Sh.oks] at h
  | s :: r, b, x :: ts, us, h, k => by
    simp only [Sh.oks, List.cons_append] at h ⊢
    exact ⟨h.1, Sh.oks_append h.2 k⟩
theorem Sh.oks_length {Y : Nat → T → Prop} : ∀ {a : List Sh} {ts : List T}, Sh.oks Y a ts → a.length = ts.length
  | [], [], _ => rfl
  | [], x :: ts, h => by simp [Sh.oks] at h
  | s :: r, [], h => by simp [Sh.oks] at h
  | s :: r, x :: ts, h => by
    simp only [Sh.oks] at h
    simp [Sh.oks_length h.2]

theorem joinSh_ok {P : Program} {Y : Nat → T → Prop} {g : TypeId → Option (List Sh)} {n : Nat} (hg : ∀ t sh ts, g t = some sh → WT P n t ts → Sh.oks Y sh ts) : ∀ (l : List (Nat × TypeId)) (off : Nat) (sh : List Sh) (ts : List T), joinSh P g off l = some sh → (∀ p ∈ l, WT P n p.2 ((ts.drop p.1).take (P.cellsOf p.2))) →
    ∃ us, Sh.oks Y sh us ∧ us = (ts.drop off).take sh.length
  | [], off, sh, ts, h, _ => by simp [joinSh] at h; subst h; exact ⟨[], trivial, by simp⟩
  | (o, t) :: r, off, sh, ts, h, hp => by
    simp only [joinSh] at h
    split at h
    · rename_i e; subst e
      split at h
      · rename_i a ha
        split at h
        · rename_i hl
          simp only [Option.map_eq_some_iff] at h
          obtain ⟨b, hb, rfl⟩ := h
          have h1 := hg t a _ ha (hp (o, t) (by simp))
          obtain ⟨us, h2, h3⟩ := joinSh_ok hg r _ b ts hb fun p hpm => hp p (List.mem_cons_of_mem _ hpm)
          refine ⟨_, Sh.oks_append h1 h2, ?_⟩
          simp only at h1 ⊢
          rw [h3, List.length_append, hl, List.take_add, List.drop_drop]
        · cases h
      · cases h
    · cases h

theorem shOf_ok {P : Program} {sp : TypeId → Option Nat} {Y : Nat → T → Prop} : ∀ (n m : Nat) (t : TypeId) (sh : List Sh) (ts : List T), (∀ e i k xs, k < n → sp e = some i → xs.length * P.bytesOf e ≤ reachBytes → xs.length ≤ maxLen → (∀ c ∈ xs, WT P k e c) → Y i (.lst xs)) → shOf P sp m t = some sh → WT P n t ts → Sh.oks Y sh ts
  | 0, m, t, sh, ts, _, _, h => by simp [WT] at h
  | n + 1, 0, t, sh, ts, hsp, hs, h => by
    simp only [shOf] at hs
    simp only [WT] at h
    cases hu : P.underlying t with
    | none => rw [hu] at h; exact h.elim
    | some td =>
      rw [hu] at h hs
      cases td with
      | bool => simp only [Option.some.injEq] at hs h; subst hs; obtain ⟨b, rfl⟩ := h; exact ⟨⟨b, rfl⟩, trivial⟩
      | int k => simp at hs h; subst hs; obtain ⟨x, rfl, hw⟩ := h; exact ⟨⟨x, rfl, hw⟩, trivial⟩
      | string => simp at hs h; subst hs; obtain ⟨s, rfl, hw⟩ := h; exact ⟨⟨s, rfl, hw⟩, trivial⟩
      | slice e =>
        obtain ⟨xs, rfl, hr, hl, hc⟩ := h
        cases he : sp e with
        | none => simp only [he, Option.some.injEq] at hs; subst hs; exact ⟨trivial, trivial⟩
        | some i => simp only [he, Option.some.injEq] at hs; subst hs; exact ⟨hsp e i n xs (by omega) he hr hl hc, trivial⟩
      | _ => simp at hs
  | n + 1, m + 1, t, sh, ts, hsp, hs, h => by
    have hsp' : ∀ e i k xs, k < n → sp e = some i → xs.length * P.bytesOf e ≤ reachBytes → xs.length ≤ maxLen → (∀ c ∈ xs, WT P k e c) → Y i (.lst xs) := fun e i k xs hk => hsp e i k xs (by omega)
    simp only [shOf] at hs
    simp only [WT] at h
    cases hu : P.underlying t with
    | none => rw [hu] at h; exact h.elim
    | some td =>
      rw [hu] at h hs
      cases td with
      | bool => simp only [Option.some.injEq] at hs h; subst hs; obtain ⟨b, rfl⟩ := h; exact ⟨⟨b, rfl⟩, trivial⟩
      | int k => simp at hs h; subst hs; obtain ⟨x, rfl, hw⟩ := h; exact ⟨⟨x, rfl, hw⟩, trivial⟩
      | string => simp at hs h; subst hs; obtain ⟨s, rfl, hw⟩ := h; exact ⟨⟨s, rfl, hw⟩, trivial⟩
      | slice e =>
        obtain ⟨xs, rfl, hr, hl, hc⟩ := h
        cases hse : sp e with
        | none =>
          simp only [hse, Option.map_eq_some_iff] at hs
          obtain ⟨s, he, rfl⟩ := hs
          exact ⟨⟨xs, rfl, hr, hl, fun c hcm => shOf_ok n m e s c hsp' he (hc c hcm)⟩, trivial⟩
        | some i => simp only [hse, Option.some.injEq] at hs; subst hs; exact ⟨hsp e i n xs (by omega) hse hr hl hc, trivial⟩
      | struct fs =>
        simp only [Option.bind_eq_some_iff] at hs h
        obtain ⟨s, hs, hs2⟩ := hs
        split at hs2
        · rename_i hl
          simp at hs2; subst hs2
          obtain ⟨us, h1, h2⟩ := joinSh_ok (ts := ts) (Y := Y) (g := shOf P sp m) (n := n) (fun t sh ts a b => shOf_ok n m t sh ts hsp' a b) _ 0 s hs (fun p hp => by
            rw [List.mem_map] at hp
            obtain ⟨f, hf, rfl⟩ := hp
            exact h.2 f hf)
          rw [List.drop_zero, List.take_of_length_le (by omega)] at h2
          subst h2; exact h1
        · cases hs2
      | array k e =>
        simp only [Option.bind_eq_some_iff] at hs h
        obtain ⟨s, hs, hs2⟩ := hs
        split at hs2
        · rename_i hl
          simp at hs2; subst hs2
          obtain ⟨us, h1, h2⟩ := joinSh_ok (ts := ts) (Y := Y) (g := shOf P sp m) (n := n) (fun t sh ts a b => shOf_ok n m t sh ts hsp' a b) _ 0 s hs (fun p hp => by
            rw [List.mem_map] at hp
            obtain ⟨i, hi, rfl⟩ := hp
            exact h.2 i (List.mem_range.1 hi))
          rw [List.drop_zero, List.take_of_length_le (by omega)] at h2
          subst h2; exact h1
        · cases hs2
      | _ => simp at h

/-- trees one by one -/
theorem Sh.oks_cons {Y : Nat → T → Prop} {s : Sh} {r : List Sh} {ts : List T} (h : Sh.oks Y (s :: r) ts) : ∃ x ts', ts = x :: ts' ∧ s.ok Y x ∧ Sh.oks Y r ts' := by
  cases ts with
  | nil => simp [Sh.oks] at h
  | cons x ts => exact ⟨x, ts, rfl, h⟩
theorem Sh.oks_nil {Y : Nat → T → Prop} {ts : List T} (h : Sh.oks Y [] ts) : ts = [] := by
  cases ts with
  | nil => rfl
  | cons x ts => simp [Sh.oks] at h

/-- a list whose elements are encodings -/
theorem choose_map {α : Type} {f : α → List T} {Q : α → Prop} : ∀ (xs : List (List T)), (∀ c ∈ xs, ∃ a, c = f a ∧ Q a) → ∃ l : List α, xs = l.map f ∧ ∀ a ∈ l, Q a
  | [], _ => ⟨[], rfl, by simp⟩
  | c :: xs, h => by
    obtain ⟨l, h1, h2⟩ := choose_map xs (fun c hc => h c (List.mem_cons_of_mem _ hc))
    obtain ⟨a, rfl, ha⟩ := h c (by simp)
    exact ⟨a :: l, by simp [h1], fun b hb => by
      rcases List.mem_cons.1 hb with e | e
      · subst e; exact ha
      · exact h2 b e⟩

theorem WTs.cons_inv {P : Program} {t : TypeId} {ts : List TypeId} {vs : List V} (h : WTs P (t :: ts) vs) {m : Nat} {sh : List Sh} {sp : TypeId → Option Nat} {Y : Nat → T → Prop} (hsp : ∀ e i n xs, sp e = some i → xs.length * P.bytesOf e ≤ reachBytes → xs.length ≤ maxLen → (∀ c ∈ xs, WT P n e c) → Y i (.lst xs)) (hs : shOf P sp m t = some sh) : ∃ xs r, vs = argV P t xs :: r ∧ Sh.oks Y sh xs ∧ WTs P ts r := by
  cases h with
  | cons h r => exact ⟨_, _, rfl, shOf_ok _ _ _ _ _ (fun e i k xs _ => hsp e i k xs) hs h, r⟩
theorem WTs.nil_inv {P : Program} {vs : List V} (h : WTs P [] vs) : vs = [] := by
  cases h; rfl
theorem argV_agg {P : Program} {t : TypeId} (h : isAggT P t = true) (xs : List T) : argV P t xs = .agg (xs.map V.t) := by simp [argV, h]
theorem argV_one {P : Program} {t : TypeId} (h : isAggT P t = false) (x : T) : argV P t [x] = .t x := by simp [argV, h]

/-- 'law_contract', its facts as Booleans -/
theorem law_ok {H : Type} {enc : TypeId × Value → H} {P : Program} (S : List TypeId) {f : FuncId} {fn : Func} {s : ChangeSpec} {tb : TypeId} {apart fresh handsOn again : Bool} (hp : plainT P S = true) (hl : laidOutB P = true)
    (hT : (fn.params.toList.all fun t => S.contains t && P.readableRec t && decide (t < P.types.size)) = true)
    (hrt : fn.resultTypes = #[tb]) (hb : P.underlying tb = some .bool) (hv : s.vars = []) (hs : ∀ ds : List (DataW H), ds.length = fn.params.size → s.fn H ds = { results := [.lit (.bool true)], args := ds })
    (W : World) (base : Nat) (args : Array Value) (ds gs : List (DataW H)) (before : List MemPlace)
    (hval : ∀ (j : Nat) t v, fn.params[j]? = some t → args[j]? = some v → Value.okWide P W .any base t v)
    (hW : DataW.Whole enc P fn.params.toList s.vars apart W args.toList ds gs before)
    (hwt : (DataW.weightsEach P (fn.params.toList ++ s.plain.varTypes P) (ds ++ gs)).all (· ≤ reachBytes) = true)
    (hok : ∀ vs, WTs P fn.params.toList vs → FnOk P f vs ⟨[], 0⟩ { v := .t (.bool true) }) :
    Calls P f args W fun e W' => ∃ v, e = .returned v ∧ s.post enc P fn apart fresh handsOn again W args v W' := by
  refine law_contract (S := S) hp hl (fun t ht => ?_) hrt hb hv hs W base args ds gs before hval hW hwt hok
  rw [List.all_eq_true] at hT
  have := hT t ht
  simp only [Bool.and_eq_true, decide_eq_true_eq, List.contains_iff_mem] at this
  exact ⟨this.1.1, this.1.2, this.2⟩

theorem len1 {α : Type} {l : List α} (h : l.length = 1) : ∃ a, l = [a] := by
  match l, h with
  | [a], _ => exact ⟨a, rfl⟩
theorem len2 {α : Type} {l : List α} (h : l.length = 2) : ∃ a b, l = [a, b] := by
  match l, h with
  | [a, b], _ => exact ⟨a, b, rfl⟩
theorem len3 {α : Type} {l : List α} (h : l.length = 3) : ∃ a b c, l = [a, b, c] := by
  match l, h with
  | [a, b, c], _ => exact ⟨a, b, c, rfl⟩

theorem arr2 {α : Type} {l : Array α} (h : l.size = 2) : ∃ a b, l = #[a, b] := by
  obtain ⟨l⟩ := l
  obtain ⟨a, b, rfl⟩ := len2 (l := l) (by simpa using h)
  exact ⟨a, b, rfl⟩

/-- a function with a body -/
theorem hasB_of {P : Program} {f : FuncId} {fn : Func} {args : Array Value} {w : World} (h : P.funcs[f]? = some fn) (hb : (fn.body.isSome && !(fn.name == "runtime.NumGoroutine")) = true) : (callFunc f args).run P w = .ok (.enter f args) w := by
  simp only [Bool.and_eq_true, Bool.not_eq_true'] at hb
  obtain ⟨c, hc⟩ := Option.isSome_iff_exists.1 hb.1
  simp only [callFunc]
  simp [program, Sem.run, h, hc]
  have := hb.2
  simp at this
  simp [this]

end Go.GB

/-
  GbSh: what a law is handed, of package api's types.
-/
namespace Go.GB
open Go.RowKit
set_option linter.unusedSimpArgs false
set_option linter.unusedVariables false

def valSh : List Sh := [.int .i64, .int .i64, .str, .num 0, .lst 16 [.str]]
def argSh : List Sh := .str :: valSh
def dirSh : List Sh := [.str, .lst 96 argSh]
def refSh : List Sh := [.str, .lst 8 [.int .i64]]
def inputSh : List Sh := [.str] ++ refSh ++ [.bool] ++ valSh ++ [.lst 40 dirSh]
def fieldSh : List Sh := [.str, .lst 168 inputSh] ++ refSh ++ [.lst 40 dirSh]
def memberSh : List Sh := [.str, .lst 40 dirSh]
def defSh : List Sh := [.int .i64, .str, .lst 16 [.str], .lst 40 dirSh, .lst 104 fieldSh, .lst 40 memberSh, .lst 168 inputSh]
def docSh : List Sh := [.lst 144 defSh]
def pickSh : List Sh := [.str, .str, .str, .lst 96 argSh] ++ refSh ++ [.str, .int .i64, .num 1]
def userSh : List Sh := [.bool, .lst 16 [.str]]
def hopsSh : List Sh := [.lst 32 [.str, .str]]

/-- lists of types that contain themselves -/
def YA : Nat → T → Prop
  | 0, x => ∃ l : List Val, x = .lst (l.map Val.enc) ∧ l.length * 80 ≤ B47 ∧ ∀ v ∈ l, v.Ok
  | _, x => ∃ l : List Pick, x = .lst (l.map Pick.enc) ∧ l.length * 160 ≤ B47 ∧ ∀ p ∈ l, p.Ok ∧ p.on.length ≤ maxLen

theorem reach_le : reachBytes ≤ 140737488355328 := by decide
theorem maxLen_eq : maxLen = 9223372036854775807 := by decide

theorem strs_of {Y : Nat → T → Prop} {x : T} {b : Nat} (h : (Sh.lst b [.str]).ok Y x) : ∃ l : List Str, x = .lst (l.map sE) ∧ l.length * b ≤ reachBytes ∧ ∀ s ∈ l, s.length ≤ maxLen := by
  obtain ⟨xs, rfl, h1, _, h2⟩ := h
  obtain ⟨l, rfl, h3⟩ := choose_map (f := sE) (Q := fun s => s.length ≤ maxLen) xs fun c hc => by
    obtain ⟨x, r, rfl, ⟨s, rfl, hs⟩, h⟩ := Sh.oks_cons (h2 c hc)
    obtain rfl := Sh.oks_nil h
    exact ⟨s, rfl, hs⟩
  exact ⟨l, rfl, by simpa using h1, h3⟩
theorem nums_of {Y : Nat → T → Prop} {x : T} {b : Nat} (h : (Sh.lst b [.int .i64]).ok Y x) : ∃ l : List Int, x = .lst (l.map nE) ∧ l.length * b ≤ reachBytes := by
  obtain ⟨xs, rfl, h1, _, h2⟩ := h
  obtain ⟨l, rfl, h3⟩ := choose_map (f := nE) (Q := fun _ => True) xs fun c hc => by
    obtain ⟨x, r, rfl, ⟨s, rfl, hs⟩, h⟩ := Sh.oks_cons (h2 c hc)
    obtain rfl := Sh.oks_nil h
    exact ⟨s, rfl, trivial⟩
  exact ⟨l, rfl, by simpa using h1⟩
theorem list_of {α : Type} {f : α → List T} {Q : α → Prop} {Y : Nat → T → Prop} {x : T} {b : Nat} {sh : List Sh} (hf : ∀ c, Sh.oks Y sh c → ∃ a, c = f a ∧ Q a) (h : (Sh.lst b sh).ok Y x) : ∃ l : List α, x = .lst (l.map f) ∧ l.length * b ≤ reachBytes ∧ l.length ≤ maxLen ∧ ∀ a ∈ l, Q a := by
  obtain ⟨xs, rfl, h1, h0, h2⟩ := h
  obtain ⟨l, rfl, h3⟩ := choose_map (f := f) (Q := Q) xs fun c hc => hf c (h2 c hc)
  exact ⟨l, rfl, by simpa using h1, by simpa using h0, h3⟩

/-- the shape of a value -/
theorem val_sh {r : List Sh} {c : List T} (h : Sh.oks YA (valSh ++ r) c) : ∃ (v : Val) (c' : List T), c = v.cs ++ c' ∧ v.Ok ∧ Sh.oks YA r c' := by
  obtain ⟨x1, c, rfl, ⟨k, rfl, _⟩, g1⟩ := Sh.oks_cons h
  obtain ⟨x2, c, rfl, ⟨i, rfl, _⟩, g2⟩ := Sh.oks_cons g1
  obtain ⟨x3, c, rfl, ⟨t, rfl, ht⟩, g3⟩ := Sh.oks_cons g2
  obtain ⟨x4, c, rfl, ⟨its, rfl, hi1, hi2⟩, g4⟩ := Sh.oks_cons g3
  obtain ⟨x5, c, rfl, hk, g5⟩ := Sh.oks_cons g4
  obtain ⟨ks, rfl, hk1, hk2⟩ := strs_of hk
  have := reach_le
  refine ⟨.mk k i t its ks, c, rfl, .mk hi1 (by unfold B47; omega) hi2 (by rw [maxLen_eq] at ht; exact ht) (fun x hx => by have := hk2 x hx; rw [maxLen_eq] at this; exact this), g5⟩
theorem val_sh0 {c : List T} (h : Sh.oks YA valSh c) : ∃ v : Val, c = v.enc ∧ v.Ok := by
  obtain ⟨v, c', rfl, h1, h2⟩ := val_sh (r := []) (by simpa using h)
  obtain rfl := Sh.oks_nil h2
  exact ⟨v, by rw [Val.enc_eq, List.append_nil], h1⟩
theorem arg_sh {c : List T} (h : Sh.oks YA argSh c) : ∃ a : Arg, c = a.enc ∧ a.Ok := by
  obtain ⟨x, c, rfl, ⟨n, rfl, _⟩, g1⟩ := Sh.oks_cons h
  obtain ⟨v, c', rfl, h1, h2⟩ := val_sh (r := []) (by simpa using g1)
  obtain rfl := Sh.oks_nil h2
  exact ⟨⟨n, v⟩, by simp [Arg.enc, Val.cs], h1⟩
theorem dir_sh {c : List T} (h : Sh.oks YA dirSh c) : ∃ a : Dir, c = a.enc ∧ a.Ok := by
  have := reach_le
  obtain ⟨x, c, rfl, ⟨n, rfl, _⟩, g1⟩ := Sh.oks_cons h
  obtain ⟨x, c, rfl, hx, g2⟩ := Sh.oks_cons g1
  obtain rfl := Sh.oks_nil g2
  obtain ⟨l, rfl, h1, _, h2⟩ := list_of (fun c hc => arg_sh hc) hx
  exact ⟨⟨n, l⟩, rfl, ⟨by show l.length ≤ _; omega, h2⟩⟩
theorem dirs_sh {b : Nat} (hb : 0 < b) {x : T} (h : (Sh.lst b dirSh).ok YA x) : ∃ l : List Dir, x = .lst (l.map Dir.enc) ∧ l.length ≤ 140737488355328 ∧ ∀ d ∈ l, d.Ok := by
  have := reach_le
  obtain ⟨l, rfl, h1, _, h2⟩ := list_of (fun c hc => dir_sh hc) h
  refine ⟨l, rfl, ?_, h2⟩
  have : l.length ≤ l.length * b := Nat.le_mul_of_pos_right _ hb
  omega
theorem ref_sh {r : List Sh} {c : List T} (h : Sh.oks YA (refSh ++ r) c) : ∃ (v : Ref) (c' : List T), c = .str v.name :: .lst (v.wraps.map nE) :: c' ∧ v.Ok ∧ Sh.oks YA r c' := by
  have := reach_le
  obtain ⟨x1, c, rfl, ⟨n, rfl, _⟩, g1⟩ := Sh.oks_cons h
  obtain ⟨x5, c, rfl, hk, g2⟩ := Sh.oks_cons g1
  obtain ⟨ks, rfl, hk1⟩ := nums_of hk
  exact ⟨⟨n, ks⟩, c, rfl, ⟨by show ks.length * 8 ≤ _; omega⟩, g2⟩
theorem input_sh {c : List T} (h : Sh.oks YA inputSh c) : ∃ a : Input, c = a.enc ∧ a.Ok := by
  obtain ⟨x, c, rfl, ⟨n, rfl, _⟩, g1⟩ := Sh.oks_cons h
  obtain ⟨t, c, rfl, ht, g2⟩ := ref_sh g1
  obtain ⟨x, c, rfl, ⟨b, rfl⟩, g3⟩ := Sh.oks_cons g2
  obtain ⟨v, c, rfl, hv, g4⟩ := val_sh g3
  obtain ⟨x, c, rfl, hx, g5⟩ := Sh.oks_cons g4
  obtain rfl := Sh.oks_nil g5
  obtain ⟨l, rfl, h1, h2⟩ := dirs_sh (by decide) hx
  exact ⟨⟨n, t, b, v, l⟩, by simp [Input.enc, Val.cs], ⟨ht, hv, h1, h2⟩⟩
theorem inputs_sh {x : T} (h : (Sh.lst 168 inputSh).ok YA x) : ∃ l : List Input, x = .lst (l.map Input.enc) ∧ l.length ≤ 140737488355328 ∧ ∀ d ∈ l, d.Ok := by
  have := reach_le
  obtain ⟨l, rfl, h1, _, h2⟩ := list_of (fun c hc => input_sh hc) h
  exact ⟨l, rfl, by omega, h2⟩
theorem field_sh {c : List T} (h : Sh.oks YA fieldSh c) : ∃ a : Field, c = a.enc ∧ a.Ok := by
  obtain ⟨x, c, rfl, ⟨n, rfl, _⟩, g1⟩ := Sh.oks_cons h
  obtain ⟨x, c, rfl, hx, g2⟩ := Sh.oks_cons g1
  obtain ⟨ins, rfl, i1, i2⟩ := inputs_sh hx
  obtain ⟨t, c, rfl, ht, g3⟩ := ref_sh g2
  obtain ⟨x, c, rfl, hx, g4⟩ := Sh.oks_cons g3
  obtain rfl := Sh.oks_nil g4
  obtain ⟨l, rfl, h1, h2⟩ := dirs_sh (by decide) hx
  exact ⟨⟨n, ins, t, l⟩, rfl, ⟨i1, i2, ht, h1, h2⟩⟩
theorem member_sh {c : List T} (h : Sh.oks YA memberSh c) : ∃ a : Member, c = a.enc ∧ a.Ok := by
  obtain ⟨x, c, rfl, ⟨n, rfl, _⟩, g1⟩ := Sh.oks_cons h
  obtain ⟨x, c, rfl, hx, g2⟩ := Sh.oks_cons g1
  obtain rfl := Sh.oks_nil g2
  obtain ⟨l, rfl, h1, h2⟩ := dirs_sh (by decide) hx
  exact ⟨⟨n, l⟩, rfl, ⟨h1, h2⟩⟩
theorem def_sh {c : List T} (h : Sh.oks YA defSh c) : ∃ a : Def, c = a.enc ∧ a.Ok := by
  have := reach_le
  obtain ⟨x, c, rfl, ⟨k, rfl, _⟩, g1⟩ := Sh.oks_cons h
  obtain ⟨x, c, rfl, ⟨n, rfl, _⟩, g2⟩ := Sh.oks_cons g1
  obtain ⟨x, c, rfl, hx, g3⟩ := Sh.oks_cons g2
  obtain ⟨im, rfl, a1, _⟩ := strs_of hx
  obtain ⟨x, c, rfl, hx, g4⟩ := Sh.oks_cons g3
  obtain ⟨ds, rfl, b1, b2⟩ := dirs_sh (by decide) hx
  obtain ⟨x, c, rfl, hx, g5⟩ := Sh.oks_cons g4
  obtain ⟨fs, rfl, c1, _, c2⟩ := list_of (fun c hc => field_sh hc) hx
  obtain ⟨x, c, rfl, hx, g6⟩ := Sh.oks_cons g5
  obtain ⟨ms, rfl, d1, _, d2⟩ := list_of (fun c hc => member_sh hc) hx
  obtain ⟨x, c, rfl, hx, g7⟩ := Sh.oks_cons g6
  obtain ⟨is, rfl, e1, e2⟩ := inputs_sh hx
  obtain rfl := Sh.oks_nil g7
  exact ⟨⟨k, n, im, ds, fs, ms, is⟩, rfl, ⟨by show im.length ≤ _; omega, b1, b2, by show fs.length ≤ _; omega, c2, by show ms.length ≤ _; omega, d2, e1, e2⟩⟩
theorem doc_sh {r : List Sh} {c : List T} (h : Sh.oks YA (docSh ++ r) c) : ∃ (l : List Def) (c' : List T), c = .lst (l.map Def.enc) :: c' ∧ DocOk l ∧ Sh.oks YA r c' := by
  have := reach_le
  obtain ⟨x, c, rfl, hx, g1⟩ := Sh.oks_cons h
  obtain ⟨l, rfl, h1, _, h2⟩ := list_of (fun c hc => def_sh hc) hx
  exact ⟨l, c, rfl, ⟨by omega, h2⟩, g1⟩
theorem user_sh {r : List Sh} {c : List T} (h : Sh.oks YA (userSh ++ r) c) : ∃ (u : User) (c' : List T), c = .bool u.known :: .lst (u.scopes.map sE) :: c' ∧ u.scopes.length ≤ 140737488355328 ∧ Sh.oks YA r c' := by
  have := reach_le
  obtain ⟨x, c, rfl, ⟨k, rfl⟩, g1⟩ := Sh.oks_cons h
  obtain ⟨x, c, rfl, hx, g2⟩ := Sh.oks_cons g1
  obtain ⟨im, rfl, a1, _⟩ := strs_of hx
  exact ⟨⟨k, im⟩, c, rfl, by show im.length ≤ _; omega, g2⟩
theorem hops_sh {r : List Sh} {c : List T} (h : Sh.oks YA (hopsSh ++ r) c) : ∃ (l : List Hop) (c' : List T), c = .lst (l.map Hop.enc) :: c' ∧ l.length ≤ 140737488355328 ∧ Sh.oks YA r c' := by
  have := reach_le
  obtain ⟨x, c, rfl, hx, g1⟩ := Sh.oks_cons h
  obtain ⟨l, rfl, h1, _, h2⟩ := list_of (f := Hop.enc) (Q := fun _ => True) (fun c hc => by
    obtain ⟨x, c, rfl, ⟨a, rfl, _⟩, g2⟩ := Sh.oks_cons hc
    obtain ⟨x, c, rfl, ⟨b, rfl, _⟩, g3⟩ := Sh.oks_cons g2
    obtain rfl := Sh.oks_nil g3
    exact ⟨⟨a, b⟩, rfl, trivial⟩) hx
  exact ⟨l, c, rfl, by omega, g1⟩
theorem pick_sh {c : List T} (h : Sh.oks YA pickSh c) : ∃ p : Pick, c = p.enc ∧ p.Ok ∧ p.on.length ≤ maxLen := by
  have := reach_le
  obtain ⟨x, c, rfl, ⟨k, rfl, _⟩, g1⟩ := Sh.oks_cons h
  obtain ⟨x, c, rfl, ⟨o, rfl, ho⟩, g2⟩ := Sh.oks_cons g1
  obtain ⟨x, c, rfl, ⟨n, rfl, _⟩, g3⟩ := Sh.oks_cons g2
  obtain ⟨x, c, rfl, hx, g4⟩ := Sh.oks_cons g3
  obtain ⟨as, rfl, a1, _, a2⟩ := list_of (fun c hc => arg_sh hc) hx
  obtain ⟨t, c, rfl, ht, g5⟩ := ref_sh g4
  obtain ⟨x, c, rfl, ⟨lb, rfl, _⟩, g6⟩ := Sh.oks_cons g5
  obtain ⟨x, c, rfl, ⟨i, rfl, _⟩, g7⟩ := Sh.oks_cons g6
  obtain ⟨x, c, rfl, ⟨ps, rfl, p1, p2⟩, g8⟩ := Sh.oks_cons g7
  obtain rfl := Sh.oks_nil g8
  exact ⟨.mk k o n as t lb i ps, by rw [Pick.enc_eq]; rfl, .mk (by unfold B47; omega) a2 ht p1 (fun x hx => (p2 x hx).1), ho⟩

/-- the types that contain themselves -/
def spV (vt : TypeId) (e : TypeId) : Option Nat := if e = vt then some 0 else none
def spA (vt pt : TypeId) (e : TypeId) : Option Nat := if e = vt then some 0 else if e = pt then some 1 else none

theorem val_wt {P : Program} {vt : TypeId} (hb : P.bytesOf vt = 80) (hs : shOf P (spV vt) 6 vt = some valSh) : ∀ (n : Nat) (c : List T), WT P n vt c → ∃ v : Val, c = v.enc ∧ v.Ok := by
  intro n
  induction n using Nat.strongRecOn with
  | _ n ih =>
    intro c h
    refine val_sh0 (shOf_ok (Y := YA) n 6 vt valSh c (fun e i k xs hk he hr hl hc => ?_) hs h)
    unfold spV at he
    split at he
    · rename_i e1; subst e1
      simp only [Option.some.injEq] at he; subst he
      obtain ⟨l, rfl, h3⟩ := choose_map (f := Val.enc) (Q := Val.Ok) xs fun c hcm => ih k hk c (hc c hcm)
      have := reach_le
      rw [hb] at hr
      exact ⟨l, rfl, by unfold B47; simp at hr; omega, h3⟩
    · cases he
theorem pick_wt {P : Program} {vt pt : TypeId} (hb : P.bytesOf vt = 80) (hs : shOf P (spV vt) 6 vt = some valSh) (hbp : P.bytesOf pt = 160) (hsp : shOf P (spA vt pt) 6 pt = some pickSh) : ∀ (n : Nat) (c : List T), WT P n pt c → ∃ p : Pick, c = p.enc ∧ p.Ok ∧ p.on.length ≤ maxLen := by
  have hv := val_wt hb hs
  intro n
  induction n using Nat.strongRecOn with
  | _ n ih =>
    intro c h
    refine pick_sh (shOf_ok (Y := YA) n 6 pt pickSh c (fun e i k xs hk he hr hl hc => ?_) hsp h)
    have := reach_le
    unfold spA at he
    split at he
    · rename_i e1; subst e1
      simp only [Option.some.injEq] at he; subst he
      obtain ⟨l, rfl, h3⟩ := choose_map (f := Val.enc) (Q := Val.Ok) xs fun c hcm => hv k c (hc c hcm)
      rw [hb] at hr
      exact ⟨l, rfl, by unfold B47; simp at hr; omega, h3⟩
    · split at he
      · rename_i _ e1; subst e1
        simp only [Option.some.injEq] at he; subst he
        obtain ⟨l, rfl, h3⟩ := choose_map (f := Pick.enc) (Q := fun p => p.Ok ∧ p.on.length ≤ maxLen) xs fun c hcm => ih k hk c (hc c hcm)
        rw [hbp] at hr
        exact ⟨l, rfl, by unfold B47; simp at hr; omega, h3⟩
      · cases he
/-- what 'WTs.cons_inv' asks for -/
theorem spA_ok {P : Program} {vt pt : TypeId} (hb : P.bytesOf vt = 80) (hs : shOf P (spV vt) 6 vt = some valSh) (hbp : P.bytesOf pt = 160) (hsp : shOf P (spA vt pt) 6 pt = some pickSh) :
    ∀ e i n xs, spA vt pt e = some i → xs.length * P.bytesOf e ≤ reachBytes → xs.length ≤ maxLen → (∀ c ∈ xs, WT P n e c) → YA i (.lst xs) := by
  have hv := val_wt hb hs
  have hp := pick_wt hb hs hbp hsp
  intro e i k xs he hr hl hc
  have := reach_le
  unfold spA at he
  split at he
  · rename_i e1; subst e1
    simp only [Option.some.injEq] at he; subst he
    obtain ⟨l, rfl, h3⟩ := choose_map (f := Val.enc) (Q := Val.Ok) xs fun c hcm => hv k c (hc c hcm)
    rw [hb] at hr
    exact ⟨l, rfl, by unfold B47; simp at hr; omega, h3⟩
  · split at he
    · rename_i _ e1; subst e1
      simp only [Option.some.injEq] at he; subst he
      obtain ⟨l, rfl, h3⟩ := choose_map (f := Pick.enc) (Q := fun p => p.Ok ∧ p.on.length ≤ maxLen) xs fun c hcm => hp k c (hc c hcm)
      rw [hbp] at hr
      exact ⟨l, rfl, by unfold B47; simp at hr; omega, h3⟩
    · cases he
theorem picks_sh {r : List Sh} {c : List T} (h : Sh.oks YA (.num 1 :: r) c) : ∃ (l : List Pick) (c' : List T), c = .lst (l.map Pick.enc) :: c' ∧ l.length ≤ 140737488355328 ∧ (∀ p, p ∈ l → p.Ok) ∧ (∀ p, p ∈ l → p.on.length ≤ 9223372036854775807) ∧ Sh.oks YA r c' := by
  obtain ⟨x, c, rfl, ⟨l, rfl, h1, h2⟩, g1⟩ := Sh.oks_cons h
  unfold B47 at h1
  exact ⟨l, c, rfl, by omega, fun p hp => (h2 p hp).1, fun p hp => by have := (h2 p hp).2; rwa [maxLen_eq] at this, g1⟩
theorem len4 {α : Type} {l : List α} (h : l.length = 4) : ∃ a b c d, l = [a, b, c, d] := by
  match l, h with
  | [a, b, c, d], _ => exact ⟨a, b, c, d, rfl⟩
/-- shapes that end there -/
theorem doc_sh0 {c : List T} (h : Sh.oks YA docSh c) : ∃ l : List Def, c = [.lst (l.map Def.enc)] ∧ DocOk l := by
  obtain ⟨l, c', rfl, h1, h2⟩ := doc_sh (r := []) h
  obtain rfl := Sh.oks_nil h2
  exact ⟨l, rfl, h1⟩
theorem user_sh0 {c : List T} (h : Sh.oks YA userSh c) : ∃ u : User, c = [.bool u.known, .lst (u.scopes.map sE)] ∧ u.scopes.length ≤ 140737488355328 := by
  obtain ⟨l, c', rfl, h1, h2⟩ := user_sh (r := []) h
  obtain rfl := Sh.oks_nil h2
  exact ⟨l, rfl, h1⟩
theorem hops_sh0 {c : List T} (h : Sh.oks YA hopsSh c) : ∃ l : List Hop, c = [.lst (l.map Hop.enc)] ∧ l.length ≤ 140737488355328 := by
  obtain ⟨l, c', rfl, h1, h2⟩ := hops_sh (r := []) h
  obtain rfl := Sh.oks_nil h2
  exact ⟨l, rfl, h1⟩
theorem str_sh0 {c : List T} (h : Sh.oks YA [.str] c) : ∃ s : Str, c = [.str s] := by
  obtain ⟨x, c, rfl, ⟨s, rfl, _⟩, g⟩ := Sh.oks_cons h
  obtain rfl := Sh.oks_nil g
  exact ⟨s, rfl⟩
end Go.GB

/-
  A44E: the argument of chapter 43's laws.
-/
namespace Go.GB.C43
open Go.GB
def caseSh : List Sh := docSh ++ (.num 1 :: (userSh ++ valSh))
theorem case_sh {c : List T} (h : Sh.oks YA caseSh c) : ∃ (ds : List Def) (l : List Pick) (u : User) (v : Val),
    c = [.lst (ds.map Def.enc), .lst (l.map Pick.enc), .bool u.known, .lst (u.scopes.map sE), .int .i64 v.kind, .int .i64 v.int, .str v.text, .lst (v.items.map Val.enc), .lst (v.keys.map sE)] ∧
    DocOk ds ∧ l.length ≤ 140737488355328 ∧ (∀ p, p ∈ l → p.Ok) ∧ (∀ p, p ∈ l → p.on.length ≤ 9223372036854775807) ∧ u.scopes.length ≤ 140737488355328 ∧ v.Ok := by
  obtain ⟨ds, c1, rfl, h1, g1⟩ := doc_sh h
  obtain ⟨l, c2, rfl, h2, h3, h4, g2⟩ := picks_sh g1
  obtain ⟨u, c3, rfl, h5, g3⟩ := user_sh g2
  obtain ⟨v, c4, rfl, h6, g4⟩ := val_sh (r := []) g3
  obtain rfl := Sh.oks_nil g4
  exact ⟨ds, l, u, v, by simp [Val.cs], h1, h2, h3, h4, h5, h6⟩
end Go.GB.C43

/-
  GbZH: a law's statement with the bound on its arguments' sizes.
-/
namespace Go.GB
open Go.RowKit Go.WideShapes Go.ChangeShapes
theorem handed {H : Type} {enc : TypeId × Value → H} {a : Assume} {C : Checked} {os : Os} {f : FuncId} {fn : Func} {s : ChangeSpec} {conds : List PathCond} {apart fresh handsOn again : Bool}
    (own : ownKnob C.prog.godebug = none) (started : os.Started) (noInit : C.prog.inits.idxOf? f = none) (hfn : C.prog.funcs[f]? = some fn)
    (witness : ∃ (w : World) (tape : Tape) (i : Go.Input), w.os = os ∧ (w.forCall tape i).Shaped C.prog ∧ i.vars = [] ∧ Go.Input.okWide C.prog (w.forCall tape i) .any w.heap.size f i ∧
      s.pre6 enc C.prog fn conds apart (w.forCall tape i).memory i.args ∧ a.holds C.prog (lone (Frame.enter C.prog f i.args .normal) [] (w.forCall tape i)))
    (contract : ∀ (W : World) (base : Nat) (args : Array Value) (ds gs : List (DataW H)) (before : List MemPlace),
      (∀ (j : Nat) t v, fn.params[j]? = some t → args[j]? = some v → Value.okWide C.prog W .any base t v) →
      DataW.Whole enc C.prog fn.params.toList s.vars apart W args.toList ds gs before →
      (DataW.weightsEach C.prog (fn.params.toList ++ s.plain.varTypes C.prog) (ds ++ gs)).all (· ≤ reachBytes) = true →
      Calls C.prog f args W fun e W' => ∃ v, e = .returned v ∧ s.post enc C.prog fn apart fresh handsOn again W args v W') :
    ReturnsInHanded a C os f .any (s.pre6 enc C.prog fn conds apart) (s.post enc C.prog fn apart fresh handsOn again) := by
  have e : (fun (w : World) (args : Array Value) => (s.pre enc C.prog fn conds apart w args ∧ True) ∧ sizedMet enc C.prog fn (OpenSpec.ofChange s) apart w args) = s.pre6 enc C.prog fn conds apart := by
    funext w args; simp only [and_true]; rfl
  rw [← e]
  obtain ⟨w, tape, i, h1, h2, h3, h4, h5, h6⟩ := witness
  exact returnsInHanded_of_change_and (X := fun _ _ => True) (fun _ _ _ _ _ => trivial) own started noInit hfn ⟨w, tape, i, h1, h2, h3, h4, ⟨⟨h5.1, trivial⟩, h5.2⟩, h6⟩ (fun W base args ds gs before a1 a2 _ a4 _ _ => contract W base args ds gs before a1 a2 a4)
end Go.GB
