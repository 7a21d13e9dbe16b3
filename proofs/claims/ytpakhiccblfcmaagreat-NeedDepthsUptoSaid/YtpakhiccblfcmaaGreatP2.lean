/-
  YtpakhiccblfcmaaGreatP2: lemmas. No conditions.
-/
import Derived.Test.YtpakhiccblfcmaaGreatP1
import Derived.LoopN
import Derived.Scope
set_option linter.all false
set_option maxRecDepth 100000
set_option maxHeartbeats 16000000
namespace Go.GB
def Ar.zd:Ar->List Nat
 | .s t=>[t]
 | .c _=>[]
def Ar.z39:Option Ar->List Nat
 |some x=>x.zd
 |none=>[]
def Yg:List Ar->List Nat
 |[]=>[]
 |x::r=>x.zd++Yg r
def wk:List (Nat×Nat×Ar)->List Nat
 |[]=>[]
 |(_,_,x)::r=>x.zd++wk r
def yB:List (Nat×Ar)->List Nat
 |[]=>[]
 |(_,x)::r=>x.zd++yB r
def NOp.zd:NOp->List Nat
 | .lookup _ _ _ _ x k=>x.zd++k.zd
 | .zcg _ _ x k v=>x.zd++(k.zd++v.zd)
 | .zaL _ _ x k=>x.zd++k.zd
 | .zcv _ _ _ x k=>x.zd++k.zd
 | .zcs x s v=>x.zd++(s.zd++v.zd)
 | .zdQ x=>x.zd
 | .nxt x=>x.zd
 | .z6r x=>x.zd
 | .xtr _ x y=>x.zd++y.zd
 | .xcm x y=>x.zd++y.zd
 | .bad=>[]
 | .zd8 _ _ x=>x.zd
 | .eqn _ x=>x.zd
 | .zaO _ _ x y=>x.zd++y.zd
 | .zcu x=>x.zd
def AOp.zd:AOp->List Nat
 | .nw op=>op.zd
 | .cst _=>[]
 | .mv x=>x.zd
 | .pick c a b=>c.zd++(a.zd++b.zd)
 | .un _ x=>x.zd
 | .bin _ x y=>x.zd++y.zd
 | .eqb _ x y=>x.zd++y.zd
 | .eqp _ x=>x.zd
 | .eqm _ x=>x.zd
 | .conv _ x=>x.zd
 | .z93 x=>x.zd
 | .z4p x=>x.zd
 | .fa _ x=>x.zd
 | .ld _ _ x=>x.zd
 | .ia _ x i=>x.zd++i.zd
 | .z9X _ _ x i=>x.zd++i.zd
 | .ixs x i=>x.zd++i.zd
 | .ixa _ _ _ x i=>x.zd++i.zd
 | .len x=>x.zd
 | .lens x=>x.zd
 | .sls x lo hi=>x.zd++(Ar.z39 lo++Ar.z39 hi)
 | .sll _ x lo hi=>x.zd++(Ar.z39 lo++Ar.z39 hi)
 | .fld _ _ _ x=>x.zd
 | .ze4 x y=>x.zd++y.zd
 | .zew x y=>x.zd++y.zd
 | .build _ ps=>wk ps
 | .zet _ caps=>Yg caps
 | .z7O x=>x.zd
 | .st _ x v=>x.zd++v.zd
 | .box _ x=>x.zd
 | .alloc _=>[]
 | .bsl _ _ _ ps=>yB ps
 | .app _ _ x y=>x.zd++y.zd
 | .ext x _=>x.zd
 | .z3r _ _=>[]
 | .qT x=>x.zd
 | .z2v _ _ _ n=>n.zd
 | .call _ args=>Yg args
 | .z1w x args=>x.zd++Yg args
def AO.reads (ao:AO):List Nat:=(match ao.g with|some (s,_)=>[s]|none=>[])++ao.op.zd
section
variable {P:Program} {st st':St}
theorem yJ {x:Ar} (h:∀t∈x.zd,look st.env t=look st'.env t):x.v st=x.v st':=by
 cases x with
 |s t=>exact h t (by simp [Ar.zd])
 |c v=>rfl
theorem Qw {x:Ar} (h:∀t∈x.zd,look st.env t=look st'.env t):x.u st=x.u st':=by unfold Ar.u;rw [yJ h]
theorem ZV {gc:Bool} {x:Ar} (h:∀t∈x.zd,look st.env t=look st'.env t):rd gc st x=rd gc st' x:=by
 unfold rd;rw [yJ h]
theorem Qx {gc:Bool} {x:Option Ar} {d:Int} (h:∀t∈Ar.z39 x,look st.env t=look st'.env t):bnd x gc st d=bnd x gc st' d:=by
 cases x with
 |none=>rfl
 |some x=>simp only [bnd];rw [ZV (st:=st) (st':=st') h]
theorem z1B {gc:Bool}:∀{ps:List (Nat×Nat×Ar)} {cs:List V},(∀t∈wk ps,look st.env t=look st'.env t)->z0C st gc cs ps=z0C st' gc cs ps
 |[],_,_=>rfl
 |(off,n,x)::r,cs,h=>by
  simp only [z0C];rw [ZV (st:=st) (st':=st') (fun t ht=>h t (by simp [wk,ht]))];have ih:=fun cs=>z1B (gc:=gc) (ps:=r) (cs:=cs) (fun t ht=>h t (by simp [wk,ht]));simp only [ih]
theorem z0W:∀{xs:List Ar},(∀t∈Yg xs,look st.env t=look st'.env t)->qh st xs=qh st' xs
 |[],_=>rfl
 |x::r,h=>by
  simp only [qh];rw [yJ (st:=st) (st':=st') (fun t ht=>h t (by simp [Yg,ht])),z0W (xs:=r) (fun t ht=>h t (by simp [Yg,ht]))]
theorem wq:∀{xs:List Ar},(∀t∈Yg xs,look st.env t=look st'.env t)->yu st xs=yu st' xs
 |[],_=>rfl
 |x::r,h=>by
  simp only [yu];rw [Qw (st:=st) (st':=st') (fun t ht=>h t (by simp [Yg,ht])),wq (xs:=r) (fun t ht=>h t (by simp [Yg,ht]))]
theorem qt {sz:Nat}:∀{ps:List (Nat×Ar)} {xs:List (List T)},(∀t∈yB ps,look st.env t=look st'.env t)->ZP st sz xs ps=ZP st' sz xs ps
 |[],_,_=>rfl
 |(i,x)::r,xs,h=>by
  simp only [ZP];rw [Qw (st:=st) (st':=st') (fun t ht=>h t (by simp [yB,ht]))];have ih:=fun xs=>qt (sz:=sz) (ps:=r) (xs:=xs) (fun t ht=>h t (by simp [yB,ht]));simp only [ih]
theorem qf {op:AOp} (h:∀t∈op.zd,look st.env t=look st'.env t):Z8 st op=Z8 st' op:=by
 cases op<;>simp only [Z8]
 case ld ag n x=>rw [yJ (st:=st) (st':=st') (fun t ht=>h t (by simp [AOp.zd,ht]))]
 case eqp a x=>rw [yJ (st:=st) (st':=st') (fun t ht=>h t (by simp [AOp.zd,ht]))]
 case z4p x=>rw [yJ (st:=st) (st':=st') (fun t ht=>h t (by simp [AOp.zd,ht]))]
 case fa a x=>rw [yJ (st:=st) (st':=st') (fun t ht=>h t (by simp [AOp.zd,ht]))]
 case ia a x i=>rw [yJ (st:=st) (st':=st') (fun t ht=>h t (by simp [AOp.zd,ht]))]
 case len x=>rw [yJ (st:=st) (st':=st') (fun t ht=>h t (by simp [AOp.zd,ht]))]
 case sll a x lo hi=>rw [yJ (st:=st) (st':=st') (fun t ht=>h t (by simp [AOp.zd,ht]))]
 case nw op=>
  cases op<;>simp only
  case lookup a b c d x k=>rw [yJ (st:=st) (st':=st') (fun t ht=>h t (by simp [AOp.zd,NOp.zd,ht]))]
  case z6r x=>rw [yJ (st:=st) (st':=st') (fun t ht=>h t (by simp [AOp.zd,NOp.zd,ht]))]
def V.ng:V->Bool
 | .gpt _ _ _=>false
 | .gsl _ _ _ _ _=>false
 |_=>true
theorem z4c {gc:Bool} {x:Ar} (h:Yd (x.v st)=false):(rd gc st x).1.ng=true:=by
 unfold rd;generalize x.v st=y at h⊢
 cases y with
 |gpt _ _ _=>simp [Yd] at h
 |gsl _ _ _ _ _=>simp [Yd] at h
 |gd c y=>
  cases y with
  |gpt _ _ _=>simp [Yd] at h
  |gsl _ _ _ _ _=>simp [Yd] at h
  |_=>rfl
 |_=>rfl
theorem wv {gc:Bool} {op:AOp} (h:∀t∈op.zd,look st.env t=look st'.env t) (hs:Z8 st op=false∨st.s.sto=st'.s.sto):zk gc st op=zk gc st' op:=by
 have r1:∀(g:Bool) (x:Ar),(∀t∈x.zd,t∈op.zd)->rd g st x=rd g st' x:=fun g x hx=>ZV fun t ht=>h t (hx t ht)
 cases op with
 |cst v=>rfl
 |mv x=>simp only [zk];rw [r1 gc x (fun t ht=>ht)]
 |pick c a b=>simp only [zk];rw [r1 gc c (fun t ht=>by simp [AOp.zd,ht])];simp only [r1 _ a (fun t ht=>by simp [AOp.zd,ht]),r1 _ b (fun t ht=>by simp [AOp.zd,ht])]
 |un op x=>cases op<;>simp only [zk]<;>rw [r1 gc x (fun t ht=>ht)]
 |bin op x y=>simp only [zk];rw [r1 gc x (fun t ht=>by simp [AOp.zd,ht]),r1 gc y (fun t ht=>by simp [AOp.zd,ht])]
 |eqb op x y=>simp only [zk];rw [r1 gc x (fun t ht=>by simp [AOp.zd,ht]),r1 gc y (fun t ht=>by simp [AOp.zd,ht])]
 |eqp op x=>
  have hx:=r1 gc x (fun t ht=>by simp [AOp.zd,ht])
  rcases hs with hs|hs
  ·have h0:=z4c (gc:=gc) (by simpa [Z8] using hs);simp only [zk,←hx];generalize rd gc st x=z at h0⊢;obtain ⟨v,p⟩:=z
   cases v<;>first |rfl|(simp [V.ng] at h0;done)|(rename_i y;cases y<;>rfl)
  ·simp only [zk,←hx,hs]
 |eqm op x=>simp only [zk];rw [r1 gc x (fun t ht=>ht)]
 |conv k x=>simp only [zk];rw [r1 gc x (fun t ht=>ht)]
 |z93 x=>simp only [zk];rw [r1 gc x (fun t ht=>ht)]
 |z4p x=>
  have hx:=r1 gc x (fun t ht=>by simp [AOp.zd,ht])
  rcases hs with hs|hs
  ·have h0:=z4c (gc:=gc) (by simpa [Z8] using hs);simp only [zk,←hx];generalize rd gc st x=z at h0⊢;obtain ⟨v,p⟩:=z
   cases v<;>first |rfl|(simp [V.ng] at h0;done)|(rename_i y;cases y<;>rfl)
  ·simp only [zk,←hx,hs]
 |fa n x=>
  have hx:=r1 gc x (fun t ht=>by simp [AOp.zd,ht])
  rcases hs with hs|hs
  ·have h0:=z4c (gc:=gc) (by simpa [Z8] using hs);simp only [zk,←hx];generalize rd gc st x=z at h0⊢;obtain ⟨v,p⟩:=z
   cases v<;>first |rfl|(simp [V.ng] at h0;done)|(rename_i y;cases y<;>rfl)
  ·simp only [zk,←hx,hs]
 |ld ag n x=>
  have hv:=yJ (st:=st) (st':=st') (x:=x) (fun t ht=>h t ht)
  rcases hs with hs|hs
  ·simp only [zk,rd,←hv];simp only [Z8] at hs;generalize x.v st=y at hs⊢
   cases y with
   |t z=>cases z<;>rfl
   |ptr _ _=>simp [yL] at hs
   |fpt _ _ _=>simp [yL] at hs
   |gpt _ _ _=>simp [yL] at hs
   |mp _=>rfl
   |gd c y=>
    cases y with
    |t z=>cases z<;>rfl
    |ptr _ _=>simp [yL] at hs
    |fpt _ _ _=>simp [yL] at hs
    |gpt _ _ _=>simp [yL] at hs
    |_=>rfl
   |_=>rfl
  ·simp only [zk];rw [r1 gc x (fun t ht=>ht),hs]
 |ia sz x i=>
  have hx:=r1 gc x (fun t ht=>by simp [AOp.zd,ht])
  have hi:=r1 gc i (fun t ht=>by simp [AOp.zd,ht])
  rcases hs with hs|hs
  ·have h0:=z4c (gc:=gc) (by simpa [Z8] using hs);simp only [zk,←hx,←hi];generalize rd gc st x=z at h0⊢;generalize rd gc st i=z2;obtain ⟨v,p⟩:=z;obtain ⟨v2,p2⟩:=z2
   have e2:(∃k n,v2= .t (.int k n))∨∀k n,v2≠ .t (.int k n):=by
    cases v2 with
    |t y=>cases y<;>first |exact .inl ⟨_,_,rfl⟩|exact .inr (by simp)
    |_=>exact .inr (by simp)
   rcases e2 with ⟨k,n,rfl⟩|e2
   ·cases v<;>first |rfl|(exfalso;cases h0;done)
   ·cases v2 with
    |t y=>cases y<;>first |rfl|exact absurd rfl (e2 _ _)
    |_=>rfl
  ·simp only [zk,←hx,←hi,hs]
 |z9X a b x i=>simp only [zk];rw [r1 gc x (fun t ht=>by simp [AOp.zd,ht]),r1 gc i (fun t ht=>by simp [AOp.zd,ht])]
 |ixs x i=>simp only [zk];rw [r1 gc x (fun t ht=>by simp [AOp.zd,ht]),r1 gc i (fun t ht=>by simp [AOp.zd,ht])]
 |ixa a b c x i=>simp only [zk];rw [r1 gc x (fun t ht=>by simp [AOp.zd,ht]),r1 gc i (fun t ht=>by simp [AOp.zd,ht])]
 |len x=>
  have hx:=r1 gc x (fun t ht=>by simp [AOp.zd,ht])
  rcases hs with hs|hs
  ·have h0:=z4c (gc:=gc) (by simpa [Z8] using hs);simp only [zk,←hx];generalize rd gc st x=z at h0⊢;obtain ⟨v,p⟩:=z
   cases v<;>first |rfl|(simp [V.ng] at h0;done)|(rename_i y;cases y<;>rfl)
  ·simp only [zk,←hx,hs]
 |lens x=>simp only [zk];rw [r1 gc x (fun t ht=>ht)]
 |sls x lo hi=>
  have b1:=fun d=>Qx (st:=st) (st':=st') (gc:=gc) (x:=lo) (d:=d) (fun t ht=>h t (by simp [AOp.zd,ht]));have b2:=fun d=>Qx (st:=st) (st':=st') (gc:=gc) (x:=hi) (d:=d) (fun t ht=>h t (by simp [AOp.zd,ht]))
  simp only [zk,b1,b2];rw [r1 gc x (fun t ht=>by simp [AOp.zd,ht])]
 |sll a x lo hi=>
  have b1:=fun d=>Qx (st:=st) (st':=st') (gc:=gc) (x:=lo) (d:=d) (fun t ht=>h t (by simp [AOp.zd,ht]));have b2:=fun d=>Qx (st:=st) (st':=st') (gc:=gc) (x:=hi) (d:=d) (fun t ht=>h t (by simp [AOp.zd,ht]))
  have hx:=r1 gc x (fun t ht=>by simp [AOp.zd,ht])
  rcases hs with hs|hs
  ·have h0:=z4c (gc:=gc) (by simpa [Z8] using hs);simp only [zk,b1,b2,←hx];generalize rd gc st x=z at h0⊢;obtain ⟨v,p⟩:=z
   cases v<;>first |rfl|(simp [V.ng] at h0;done)
  ·simp only [zk,b1,b2,←hx,hs]
 |fld a b c x=>simp only [zk];rw [r1 gc x (fun t ht=>ht)]
 |ze4 x y=>simp only [zk];rw [r1 gc x (fun t ht=>by simp [AOp.zd,ht]),r1 gc y (fun t ht=>by simp [AOp.zd,ht])]
 |zew x y=>simp only [zk];rw [r1 gc x (fun t ht=>by simp [AOp.zd,ht]),r1 gc y (fun t ht=>by simp [AOp.zd,ht])]
 |build zs ps=>simp only [zk];rw [z1B (st:=st) (st':=st') h]
 |zet f caps=>simp only [zk];rw [z0W (st:=st) (st':=st') h]
 |ext x i=>simp only [zk];rw [r1 gc x (fun t ht=>ht)]
 |nw op=>
  cases op with
  |lookup ks kag zv ok x k=>
   have hk:=ZV (st:=st) (st':=st') (gc:=gc) (x:=k) (fun t ht=>h t (by simp [AOp.zd,NOp.zd,ht]))
   rcases hs with hs|hs
   ·have hv:=yJ (st:=st) (st':=st') (x:=x) (fun t ht=>h t (by simp [AOp.zd,NOp.zd,ht]));simp only [zk,Zu,hk];simp only [rd,←hv];simp only [Z8] at hs;generalize x.v st=y at hs⊢
    cases y with
    |t z=>cases z<;>rfl
    |mp _=>simp [yL] at hs
    |gd c y=>
     cases y with
     |t z=>cases z<;>rfl
     |mp _=>simp [yL] at hs
     |_=>rfl
    |_=>rfl
   ·have hx:=ZV (st:=st) (st':=st') (gc:=gc) (x:=x) (fun t ht=>h t (by simp [AOp.zd,NOp.zd,ht]));simp only [zk,Zu];rw [hx,hk,hs]
  |z6r x=>
   rcases hs with hs|hs
   ·have hv:=yJ (st:=st) (st':=st') (x:=x) (fun t ht=>h t (by simp [AOp.zd,NOp.zd,ht]));simp only [zk,Zu];simp only [rd,←hv];simp only [Z8] at hs;generalize x.v st=y at hs⊢
    cases y with
    |ptr _ _=>simp [yL] at hs
    |gd c y=>
     cases y with
     |ptr _ _=>simp [yL] at hs
     |_=>rfl
    |_=>rfl
   ·have hx:=ZV (st:=st) (st':=st') (gc:=gc) (x:=x) (fun t ht=>h t (by simp [AOp.zd,NOp.zd,ht]));simp only [zk,Zu];rw [hx,hs]
  |zcu x=>
   simp only [zk,Zu];rw [ZV (st:=st) (st':=st') (gc:=gc) (x:=x) (fun t ht=>h t (by simp [AOp.zd,NOp.zd,ht]))]
  |eqn neg x=>
   simp only [zk,Zu];rw [ZV (st:=st) (st':=st') (gc:=gc) (x:=x) (fun t ht=>h t (by simp [AOp.zd,NOp.zd,ht]))]
  |zaO neg ks x y=>
   simp only [zk,Zu];rw [ZV (st:=st) (st':=st') (gc:=gc) (x:=x) (fun t ht=>h t (by simp [AOp.zd,NOp.zd,ht])),ZV (st:=st) (st':=st') (gc:=gc) (x:=y) (fun t ht=>h t (by simp [AOp.zd,NOp.zd,ht]))]
  |xcm x y=>
   simp only [zk,Zu];rw [ZV (st:=st) (st':=st') (gc:=gc) (x:=x) (fun t ht=>h t (by simp [AOp.zd,NOp.zd,ht])),ZV (st:=st) (st':=st') (gc:=gc) (x:=y) (fun t ht=>h t (by simp [AOp.zd,NOp.zd,ht]))]
  |xtr cnt x y=>
   simp only [zk,Zu];rw [ZV (st:=st) (st':=st') (gc:=gc) (x:=x) (fun t ht=>h t (by simp [AOp.zd,NOp.zd,ht])),ZV (st:=st) (st':=st') (gc:=gc) (x:=y) (fun t ht=>h t (by simp [AOp.zd,NOp.zd,ht]))]
  |_=>rfl
 |z7O x=>rfl
 |st n x v=>rfl
 |box n x=>rfl
 |alloc zs=>rfl
 |bsl a b c d=>rfl
 |app a b c d=>rfl
 |z3r a b=>rfl
 |qT x=>rfl
 |z2v a b c d=>rfl
 |call f a=>rfl
 |z1w x a=>rfl
theorem z8n {f:FuncId} {vs:List V} {base:Nat} {sto sto':List (Nat×z5)} {out:Out} (hs:out.rd=false∨sto=sto') (h:QQ P f vs base sto (· =out)):QQ P f vs base sto' (· =out):=by
 obtain ⟨o,h1,rfl⟩:=h;refine ⟨o,?_,rfl⟩
 rcases hs with hs|hs
 ·simp only [hs,w0k,w0r] at h1⊢;exact h1
 ·rw [←hs];exact h1
theorem z1K {f:FuncId} {vs:List V} {base:Nat} {sto sto':List (Nat×z5)} {out:Out} (hs:out.rd=false∨sto=sto') (h:qP P f vs base sto (· =out)):qP P f vs base sto' (· =out):=by
 obtain ⟨o,h1,rfl⟩:=h;refine ⟨o,?_,rfl⟩
 rcases hs with hs|hs
 ·simp only [hs,w0k,w0r] at h1⊢;exact h1
 ·rw [←hs];exact h1
theorem zbd {f:FuncId} {vs:List V} {base:Nat} {sto sto':List (Nat×z5)} {out:Out} (hs:∀k,k<base->zl sto' k=zl sto k) (h:QQ P f vs base sto (· =out)):QQ P f vs base sto' (· =out):=by
 obtain ⟨o,h1,rfl⟩:=h;refine ⟨o,?_,rfl⟩
 cases hr:o.rd with
 |false=>rw [hr] at h1;simpa using h1
 |true=>
  rw [hr] at h1;simp only [w0v] at h1⊢;exact fun s hk=>h1 s fun k hb=>(hk k hb).trans (hs k hb)
theorem za8 {base:Nat} {op:AOp} {out:Out} (h:∀t∈op.zd,look st.env t=look st'.env t) (hs:out.rd=false∨st.s.sto=st'.s.sto) (he:evX P base st (· =out) op):evX P base st' (· =out) op:=by
 have v1:∀(x:Ar),(∀t∈x.zd,t∈op.zd)->x.u st=x.u st':=fun x hx=>Qw fun t ht=>h t (hx t ht)
 cases op with
 |st n x v=>
  simp only [evX] at he⊢
  rw [←v1 x (fun t ht=>by simp [AOp.zd,ht]),←v1 v (fun t ht=>by simp [AOp.zd,ht])]
  rcases hs with hs|hs
  ·exfalso;split at he
   ·split at he
    ·split at he
     ·obtain ⟨_,rfl⟩:=he;simp at hs
     ·exact he
    ·exact he
   ·exact he
  ·rw [←hs];exact he
 |box n x=>simp only [evX] at he⊢;rw [←v1 x (fun t ht=>ht)];exact he
 |alloc zs=>exact he
 |bsl a b c d=>simp only [evX] at he⊢;rw [←qt (st:=st) (st':=st') h];exact he
 |app a b x y=>
  simp only [evX] at he⊢
  rw [←v1 x (fun t ht=>by simp [AOp.zd,ht]),←v1 y (fun t ht=>by simp [AOp.zd,ht])]
  rcases hs with hs|hs
  ·generalize (Ar.u st y).zF=cy at he⊢;generalize Ar.u st x=vx at he⊢
   cases cy with
   |none=>exact he
   |some z=>
    cases z with
    |lst ys=>
     cases vx with
     |zJ=>exact he
     |own k s xs=>
      exfalso;simp only at he;split at he
      ·obtain ⟨_,_,_,_,_,rfl⟩:=he;simp at hs
      ·exact he
     |_=>exact he
    |_=>exact he
  ·rw [←hs];exact he
 |z2v a b c n=>simp only [evX] at he⊢;rw [←v1 n (fun t ht=>ht)];exact he
 |call f args=>simp only [evX] at he⊢;rw [←wq (st:=st) (st':=st') h];exact z8n hs he
 |z1w x args=>
  simp only [evX] at he⊢
  rw [←v1 x (fun t ht=>by simp [AOp.zd,ht]),←wq (st:=st) (st':=st') (fun t ht=>h t (by simp [AOp.zd,ht]))]
  generalize Ar.u st x=vx at he⊢
  cases vx with
  |t z=>
   cases z with
   |fn f=>exact z1K hs he
   |_=>exact he
  |fn f caps=>exact z1K hs he
  |_=>exact he
 |z3r a b=>exact he
 |qT x=>
  simp only [evX] at he⊢;rw [←v1 x (fun t ht=>ht)]
  rcases hs with hs|hs
  ·exfalso;split at he
   ·split at he
    ·subst he;simp at hs
    ·exact he
   ·exact he
  ·rw [←hs];exact he
 |z7O x=>
  simp only [evX] at he⊢;rw [←v1 x (fun t ht=>ht)]
  rcases hs with hs|hs
  ·exfalso;split at he
   ·subst he;simp at hs
   ·split at he
    ·subst he;simp at hs
    ·exact he
   ·exact he
  ·rw [←hs];exact he
 |nw op=>
  have u1:∀(x:Ar),(∀t∈x.zd,t∈op.zd)->x.u st=x.u st':=fun x hx=>Qw fun t ht=>h t (by simp only [AOp.zd];exact hx t ht)
  have hrd:out.rd=true:=by
   simp only [evX] at he;unfold yg at he
   (repeat' split at he)<;>first |exact he.elim|(obtain ⟨_,rfl⟩:=he;rfl)|(subst he;rfl)
  have hs':st.s.sto=st'.s.sto:=by
   rcases hs with hs|hs
   ·rw [hrd] at hs;cases hs
   ·exact hs
  simp only [evX] at he⊢
  cases op with
  |zcg ks kag x k v=>simp only [yg] at he⊢;rw [←u1 x (fun t ht=>by simp [NOp.zd,ht]),←u1 k (fun t ht=>by simp [NOp.zd,ht]),←u1 v (fun t ht=>by simp [NOp.zd,ht]),←hs'];exact he
  |zaL ks kag x k=>simp only [yg] at he⊢;rw [←u1 x (fun t ht=>by simp [NOp.zd,ht]),←u1 k (fun t ht=>by simp [NOp.zd,ht]),←hs'];exact he
  |zdQ x=>simp only [yg] at he⊢;rw [←u1 x (fun t ht=>ht),←hs'];exact he
  |zcv ks kag zv x k=>simp only [yg] at he⊢;rw [←u1 x (fun t ht=>by simp [NOp.zd,ht]),←u1 k (fun t ht=>by simp [NOp.zd,ht]),←hs'];exact he
  |zcs x s v=>simp only [yg] at he⊢;rw [←u1 x (fun t ht=>by simp [NOp.zd,ht]),←u1 s (fun t ht=>by simp [NOp.zd,ht]),←u1 v (fun t ht=>by simp [NOp.zd,ht]),←hs'];exact he
  |_=>exact he.elim
 |_=>exact he.elim
theorem qW {sz:Nat}:∀{ps:List (Nat×Ar)} {cs:List V},(∀t∈yB ps,look st.env t=look st'.env t)->YN st sz cs ps=YN st' sz cs ps
 |[],_,_=>rfl
 |(i,x)::r,cs,h=>by
  simp only [YN];rw [Qw (st:=st) (st':=st') (fun t ht=>h t (by simp [yB,ht]))];have ih:=fun cs=>qW (sz:=sz) (ps:=r) (cs:=cs) (fun t ht=>h t (by simp [yB,ht]));simp only [ih]
theorem z2A {sz:Nat} {y:V} (hs:st.s.sto=st'.s.sto):z1Y st sz y=z1Y st' sz y:=by unfold z1Y;rw [hs]
theorem z7G {base:Nat} {op:AOp} {out:Out} (h:∀t∈op.zd,look st.env t=look st'.env t) (hs:out.rd=false∨st.s.sto=st'.s.sto) (he:z1b st base op out):z1b st' base op out:=by
 have v1:∀(x:Ar),(∀t∈x.zd,t∈op.zd)->x.u st=x.u st':=fun x hx=>Qw fun t ht=>h t (hx t ht)
 cases he with
 |@stG n x v _ _ _ _ _ _ hx hk hw hv hn ho hc=>
  have e:=hs.resolve_left (by simp)
  exact .stG (v1 x (fun t ht=>by simp [AOp.zd,ht])▸hx) (e▸hk) hw (v1 v (fun t ht=>by simp [AOp.zd,ht])▸hv) hn ho hc
 |@zcH _ _ x y _ _ hx hy hc h1 h2=>
  have e:=hs.resolve_left (by simp)
  exact .zcH (v1 x (fun t ht=>by simp [AOp.zd,ht])▸hx) (by rw [←z2A e,←v1 y (fun t ht=>by simp [AOp.zd,ht])];exact hy) hc h1 h2
 |@zau _ _ x y _ _ _ _ _ _ _ hx hk hw hl hy hc h1 h2=>
  have e:=hs.resolve_left (by simp)
  exact .zau (v1 x (fun t ht=>by simp [AOp.zd,ht])▸hx) (e▸hk) hw hl (by rw [←z2A e,←v1 y (fun t ht=>by simp [AOp.zd,ht])];exact hy) hc h1 h2
 |zaH hp=>
  exact .zaH (by rw [←qW (st:=st) (st':=st') (fun t ht=>h t (by simpa [AOp.zd] using ht))];exact hp)
 |@z80 _ _ x _ _ _ _ _ _ hx hk hw ho=>
  have e:=hs.resolve_left (by simp)
  exact .z80 (v1 x (fun t ht=>by simp [AOp.zd,NOp.zd,ht])▸hx) (e▸hk) hw ho
theorem z2z {base:Nat} {op:AOp} {out:Out} (h:∀t∈op.zd,look st.env t=look st'.env t) (hs:out.rd=false∨st.s.sto=st'.s.sto) (he:evX P base st (· =out) op∨evY base st (· =out) op):evX P base st' (· =out) op∨evY base st' (· =out) op:=by
 rcases he with he|⟨o',he,rfl⟩
 ·exact .inl (za8 h hs he)
 ·exact .inr ⟨_,z7G h hs he,rfl⟩
theorem z2P {base:Nat} {op:AOp} {out:Out} (he:evX P base st (· =out) op∨evY base st (· =out) op):Z8 st op=false:=by
 rcases he with he|⟨o',he,rfl⟩
 ·cases op with
  |nw op=>cases op<;>simp_all [Z8,evX,yg]
  |_=>simp_all [Z8,evX]
 ·cases he<;>rfl
theorem z4l {base:Nat} {ao:AO} {out:Out} (h:∀t∈ao.reads,look st.env t=look st'.env t) (hs:out.rd=false∨st.s.sto=st'.s.sto) (he:evO P base st ao (· =out)):evO P base st' ao (· =out):=by
 have hop:∀t∈ao.op.zd,look st.env t=look st'.env t:=fun t ht=>h t (by simp [AO.reads,ht]);unfold evO at he⊢
 cases hg:ao.g with
 |none=>
  simp only [hg] at he⊢;unfold evU at he⊢
  cases hev:zk true st ao.op with
  |some r=>
   obtain ⟨v,ps⟩:=r;simp only [hev] at he;obtain ⟨h1,rfl⟩:=he;rw [←wv hop (by simpa using hs),hev];simp only
   exact ⟨h1,by rw [qf (st:=st) (st':=st') hop]⟩
  |none=>
   simp only [hev] at he
   have:zk true st' ao.op=none:=by
    rw [←wv hop (.inl (z2P he))];exact hev
   rw [this];exact z2z hop hs he
 |some g=>
  obtain ⟨s,want⟩:=g;simp only [hg] at he⊢;rw [←h s (by simp [AO.reads,hg])]
  cases hc:z4s want (look st.env s) with
  |none=>simp only [hc] at he
  |some gc=>
   simp only [hc] at he⊢
   cases hev:zk gc st ao.op with
   |some r=>
    obtain ⟨v,ps⟩:=r;simp only [hev] at he;obtain ⟨h1,rfl⟩:=he;rw [←wv hop (by simpa using hs),hev];simp only
    exact ⟨h1,by rw [qf (st:=st) (st':=st') hop]⟩
   |none=>
    simp only [hev] at he
    rcases he with he|he
    ·have hcg:Q2 P gc base st' (· =out) ao.op:=by
      cases hao:ao.op<;>rw [hao] at he<;>try (exact he.elim)
      rename_i f args;simp only [Q2] at he⊢;rw [hao] at hop;rw [←wq (st:=st) (st':=st') hop];obtain ⟨o,h1,h2,rfl⟩:=he;refine ⟨o,fun hg=>?_,h2,rfl⟩;have:=h1 hg
      rcases hs with hs|hs
      ·simp only at hs;simp only [hs,w0k,w0r] at this⊢;exact this
      ·rw [←hs];exact this
     have hnone:zk gc st' ao.op=none:=by
      cases hao:ao.op<;>rw [hao] at hcg<;>first |exact hcg.elim|rfl
     rw [hnone];exact Or.inl hcg
    cases gc with
    |false=>
     have hout:=he.2 rfl;subst hout;rw [←wv hop (by simpa using hs),hev]
     exact Or.inr ⟨by simp,fun _=>by rw [qf (st:=st) (st':=st') hop]⟩
    |true=>
     have hx:=he.1 rfl
     have:zk true st' ao.op=none:=by
      rw [←wv hop (.inl (z2P hx))];exact hev
     simp only [this]
     exact Or.inr ⟨fun _=>z2z hop hs hx,by simp⟩
end
def stD (D:Nat->Bool):Nat->St->List AO->List Out->St
 |i,st,ao::r,out::os=>stD D (i+1) (if D i then st.app ao.dst out else st) r os
 |_,st,_,_=>st
def wg:List Out->Nat
 |[]=>0
 |o::r=>o.n+wg r
def z5F:List (List Nat)->List Nat->List Nat
 |[],acc=>acc
 |l::r,acc=>z5F r (acc++[l.foldl (fun s j=>s|||(2 ^ j|||acc.getD j 0)) 0])
def AO.zfU (a b:AO):Bool:=
 match a.dst with
 |some d=>b.reads.contains d
 |none=>false
def AO.same (a b:AO):Bool:=
 match a.dst with
 |some d=>b.dst==some d
 |none=>false
def AO.z1y (a b:AO):Bool:=(a.zfU b||b.zfU a)||(a.same b||b.same a)
def AO.wA (a:AO):Bool:=
 match a.g,a.op with
 |none,.ld _ _ (.s _)=>true
 |none,.nw (.lookup _ _ _ _ (.s _) _)=>true
 |none,.ia _ (.s _) _=>true
 |none,.fa _ (.s _)=>true
 |_,_=>false
def AO.z1z (a:AO):Bool:=
 match a.g,a.op with
 |none,.call _ _=>true
 |_,_=>false
theorem z8h {a:AO} (h:a.wA=true):a.z1z=false:=by
 obtain ⟨d,g,op⟩:=a;unfold AO.wA at h;unfold AO.z1z
 cases g with
 |some _=>rfl
 |none=>cases op<;>first |rfl|cases h
def Ar.still (env:List (Nat×V)) (rest:List AO):Ar->Bool
 | .c _=>true
 | .s t=>(match look env t with| .t _=>true|_=>false)&&rest.all (fun o=>!(o.dst==some t))
def z5X (env:List (Nat×V)) (rest:List AO) (a:AO):Option Nat:=
 match a.g,a.op with
 |none,.ld _ _ (.s t)=>
  match ((look env t).un true).1,rest.all (fun o=>!(o.dst==some t)) with
  | .ptr k _,true=>some k
  | .gpt k _ _,true=>some k
  | .fpt k _ _,true=>some k
  |_,_=>none
 |none,.fa _ (.s t)=>
  match ((look env t).un true).1,rest.all (fun o=>!(o.dst==some t)) with
  | .gpt k _ _,true=>some k
  |_,_=>none
 |none,.ia _ (.s t) i=>
  match ((look env t).un true).1,rest.all (fun o=>!(o.dst==some t)),i.still env rest with
  | .gsl k _ _ _ _,true,true=>some k
  |_,_,_=>none
 |_,_=>none
def storeAt (env:List (Nat×V)) (rest:List AO) (a:AO):Option Nat:=
 match a.g,a.op with
 |none,.st _ (.s t) _=>
  match (look env t).ug,rest.all (fun o=>!(o.dst==some t)) with
  | .ptr k _,true=>some k
  | .gpt k _ _,true=>some k
  | .fpt k _ _,true=>some k
  |_,_=>none
 |none,.app _ _ (.s t) _=>
  match (look env t).ug,rest.all (fun o=>!(o.dst==some t)) with
  | .own k _ _,true=>some k
  | .fow k _ _ _,true=>some k
  | .gsl k _ _ _ _,true=>some k
  |_,_=>none
 |none,.bsl _ _ _ _=>
  match a.dst with
  |some d=>
   match look env d,rest.tail.all (fun o=>!(o.dst==some d)) with
   | .fow k _ _ _,true=>some k
   |_,_=>none
  |none=>none
 |none,.box _ _=>
  match a.dst with
  |some d=>
   match look env d,rest.tail.all (fun o=>!(o.dst==some d)) with
   | .fpt k _ _,true=>some k
   |_,_=>none
  |none=>none
 |_,_=>none
def z4Y (aos:List AO) (env:List (Nat×V)) (a b:Nat):Bool:=
 match z5X env (aos.drop a) (aos.getD a ⟨none,none,.cst .top⟩),storeAt env (aos.drop b) (aos.getD b ⟨none,none,.cst .top⟩) with
 |some k,some q=>!(k==q)
 |_,_=>false
def z8c (bm:List Nat) (aos:List AO) (fl:List (Bool×Bool)) (env:List (Nat×V)) (j i:Nat):Bool:=
 (bm.getD i 0).testBit j||
  (!((aos.getD j ⟨none,none,.cst .top⟩).z1y (aos.getD i ⟨none,none,.cst .top⟩))&&!((fl.getD j (false,false)).1&&(fl.getD i (false,false)).2&&!((aos.getD j ⟨none,none,.cst .top⟩).wA&&!(fl.getD i (false,false)).1)&&!((aos.getD j ⟨none,none,.cst .top⟩).z1z&&!(fl.getD i (false,false)).1)&&!(z4Y aos env j i))&&
   !((fl.getD i (false,false)).1&&(fl.getD j (false,false)).2&&!((aos.getD i ⟨none,none,.cst .top⟩).wA&&!(fl.getD j (false,false)).1)&&!(z4Y aos env i j)))
def indep (aos:List AO) (after:List (List Nat)) (fl:List (Bool×Bool)) (env:List (Nat×V)):Bool:=
 (after.zipIdx.all fun p=>p.1.all fun j=>decide (j<p.2))&&
 (List.range aos.length).all fun i=>(List.range i).all fun j=>z8c (z5F after []) aos fl env j i
theorem z6C {aos:List AO} {env:List (Nat×V)} {a b:Nat} (h:z4Y aos env a b=true):∃k q,z5X env (aos.drop a) (aos.getD a ⟨none,none,.cst .top⟩)=some k/\storeAt env (aos.drop b) (aos.getD b ⟨none,none,.cst .top⟩)=some q/\k≠q:=by
 unfold z4Y at h;split at h
 ·rename_i k q h1 h2;exact ⟨k,q,h1,h2,by simpa using h⟩
 ·cases h
theorem z7Q {base:Nat} {st:St} {K:Out->Prop} {ag:Bool} {n:Nat} {x:Ar}:evY base st K (.ld ag n x)↔False:=⟨(by rintro ⟨_,h,_⟩;cases h),False.elim⟩
theorem QT {base:Nat} {st:St} {K:Out->Prop} {ks:List KSh} {kag:Bool} {zv:V} {ok:Bool} {x k:Ar}:evY base st K (.nw (.lookup ks kag zv ok x k))↔False:=⟨(by rintro ⟨_,h,_⟩;cases h),False.elim⟩
theorem z8w {base:Nat} {st:St} {K:Out->Prop} {sz:Nat} {x i:Ar}:evY base st K (.ia sz x i)↔False:=⟨(by rintro ⟨_,h,_⟩;cases h),False.elim⟩
theorem z8u {base:Nat} {st:St} {K:Out->Prop} {off:Nat} {x:Ar}:evY base st K (.fa off x)↔False:=⟨(by rintro ⟨_,h,_⟩;cases h),False.elim⟩
theorem z4z {env:List (Nat×V)} {rest:List AO} {a:AO} {k:Nat} (h:z5X env rest a=some k):a.wA=true/\∀s∈a.reads,(∀o∈rest,o.dst≠some s)/\∀q ps,((∃o,(look env s).un true=(.ptr q o,ps))∨(look env s).un true=(.mp q,ps)∨(∃i o,(look env s).un true=(.fpt q i o,ps))∨(∃ver o,0<ver/\(look env s).un true=(.gpt q ver o,ps))∨∃ver o l z,0<ver/\(look env s).un true=(.gsl q ver o l z,ps))->q=k:=by
 have hall:∀t,rest.all (fun o=>!(o.dst==some t))=true->∀o∈rest,o.dst≠some t:=fun t h2 o ho=>by
  have:=w0m.1 h2 o ho;simpa using this
 obtain ⟨dst,g,op⟩:=a;unfold z5X at h;split at h
 ·rename_i ag n t hg hop;simp only at hg hop;subst hg;subst hop;refine ⟨rfl,fun s hs=>?_⟩
  have hs':s=t:=by simpa [AO.reads,AOp.zd,Ar.zd] using hs
  subst hs';split at h
  ·rename_i q o h1 h2;simp only [w00] at h;subst h;refine ⟨hall _ h2,fun q' ps hq=>?_⟩
   rcases hq with ⟨o',hq⟩|hq|⟨_,_,hq⟩|⟨_,_,_,hq⟩|⟨_,_,_,_,_,hq⟩<;>rw [hq] at h1<;>simp at h1
   exact h1.1
  ·rename_i q r o h1 h2;simp only [w00] at h;subst h;refine ⟨hall _ h2,fun q' ps hq=>?_⟩
   rcases hq with ⟨o',hq⟩|hq|⟨_,_,hq⟩|⟨_,_,_,hq⟩|⟨_,_,_,_,_,hq⟩<;>rw [hq] at h1<;>simp at h1
   exact h1.1
  ·rename_i q r o h1 h2;simp only [w00] at h;subst h;refine ⟨hall _ h2,fun q' ps hq=>?_⟩
   rcases hq with ⟨o',hq⟩|hq|⟨_,_,hq⟩|⟨_,_,_,hq⟩|⟨_,_,_,_,_,hq⟩<;>rw [hq] at h1<;>simp at h1
   exact h1.1
  ·cases h
 ·rename_i off t hg hop;simp only at hg hop;subst hg;subst hop;refine ⟨rfl,fun s hs=>?_⟩
  have hs':s=t:=by simpa [AO.reads,AOp.zd,Ar.zd] using hs
  subst hs';split at h
  ·rename_i q r o h1 h2;simp only [w00] at h;subst h;refine ⟨hall _ h2,fun q' ps hq=>?_⟩
   rcases hq with ⟨o',hq⟩|hq|⟨_,_,hq⟩|⟨_,_,_,hq⟩|⟨_,_,_,_,_,hq⟩<;>rw [hq] at h1<;>simp at h1
   exact h1.1
  ·cases h
 ·rename_i sz t i hg hop;simp only at hg hop;subst hg;subst hop;refine ⟨rfl,fun s hs=>?_⟩;split at h
  ·rename_i q r o l z h1 h2 h3;simp only [w00] at h;subst h
   have hs':s=t∨s∈i.zd:=by simpa [AO.reads,AOp.zd,Ar.zd] using hs
   rcases hs' with rfl|hs'
   ·refine ⟨hall _ h2,fun q' ps hq=>?_⟩
    rcases hq with ⟨o',hq⟩|hq|⟨_,_,hq⟩|⟨_,_,_,hq⟩|⟨_,_,_,_,_,hq⟩<;>rw [hq] at h1<;>simp at h1
    exact h1.1
   ·cases i with
    |c v=>simp [Ar.zd] at hs'
    |s u=>
     have hu:s=u:=by simpa [Ar.zd] using hs'
     subst hu;simp only [Ar.still,w0a] at h3;refine ⟨hall _ h3.2,fun q' ps hq=>?_⟩;have h4:=h3.1;split at h4
     ·rename_i x hx;rw [hx] at hq;simp [V.un] at hq
     ·cases h4
  ·cases h
 ·cases h
theorem zdY {base:Nat} {st:St} {out:Out} {n k:Nat} {x v:Ar} (hx:(∃o,x.u st= .ptr k o)∨(∃r o,x.u st= .gpt k r o)∨∃i o,x.u st= .fpt k i o) (h:z1b st base (.st n x v) out):∀q y,(q,y)∈out.ob->q=k:=by
 cases h with
 |stG h=>
  rcases hx with ⟨o,hx⟩|⟨r,o,hx⟩|⟨i,o,hx⟩<;>rw [hx] at h<;>simp at h
  intro q y hq;simp at hq;rw [hq.1,h.1]
theorem zbJ {base:Nat} {st:St} {out:Out} {sz b k:Nat} {x v:Ar} (hx:(∃s xs,x.u st= .own k s xs)∨(∃i s xs,x.u st= .fow k i s xs)∨∃r o l s,x.u st= .gsl k r o l s) (h:z1b st base (.app sz b x v) out):∀q y,(q,y)∈out.ob->q=k:=by
 cases h with
 |zcH h=>rcases hx with ⟨s,xs,hx⟩|⟨i,s,xs,hx⟩|⟨r,o,l,s,hx⟩<;>rw [hx] at h<;>simp at h
 |zau h=>
  rcases hx with ⟨s,xs,hx⟩|⟨i,s,xs,hx⟩|⟨r,o,l,s,hx⟩<;>rw [hx] at h<;>simp at h
  intro q y hq;simp at hq;rw [hq.1,h.1]
theorem z7T {P:Program} {env:List (Nat×V)} {rest:List AO} {a:AO} {k:Nat} (h:storeAt env rest a=some k):(∃t,(∀o∈rest,o.dst≠some t)/\
  ∀(base:Nat) (st:St) (out:Out),look st.env t=look env t->evO P base st a (· =out)->∀q x,(q,x)∈out.ob->q=k)∨
  ∃d,a.dst=some d/\(∀o∈rest.tail,o.dst≠some d)/\∀(base:Nat) (st:St) (out:Out),look env d=out.v->evO P base st a (· =out)->∀q x,(q,x)∈out.ob->q=k:=by
 have hall:∀t,rest.all (fun o=>!(o.dst==some t))=true->∀o∈rest,o.dst≠some t:=fun t h2 o ho=>by
  have:=w0m.1 h2 o ho;simpa using this
 have hall2:∀t,rest.tail.all (fun o=>!(o.dst==some t))=true->∀o∈rest.tail,o.dst≠some t:=fun t h2 o ho=>by
  have:=w0m.1 h2 o ho;simpa using this
 obtain ⟨dst,g,op⟩:=a;unfold storeAt at h;split at h
 ·rename_i n t w hg hop;simp only at hg hop;subst hg;subst hop
  have key:∀(base:Nat) (st:St) (out:Out),((∃o,(Ar.s t).u st= .ptr k o)∨(∃r o,(Ar.s t).u st= .gpt k r o)∨∃i o,(Ar.s t).u st= .fpt k i o)->evO P base st ⟨dst,none,.st n (.s t) w⟩ (· =out)->∀q x,(q,x)∈out.ob->q=k:=by
   intro base st out hu hev q' x hx;simp only [evO,evU,zk] at hev
   rcases hev with hev|⟨o,hy,rfl⟩
   ·simp only [evX] at hev
    rcases hu with ⟨o,hu⟩|⟨r,o,hu⟩|⟨i,o,hu⟩<;>rw [hu] at hev<;>simp only at hev
    split at hev
    ·split at hev
     ·obtain ⟨_,rfl⟩:=hev;simp at hx;exact hx.1
     ·exact hev.elim
    ·exact hev.elim
   ·exact zdY hu hy q' x hx
  split at h
  ·rename_i q o h1 h2;simp only [w00] at h;subst h;exact .inl ⟨t,hall _ h2,fun base st out he=>key base st out (.inl ⟨o,by rw [Ar.u,Ar.v,he];exact h1⟩)⟩
  ·rename_i q r o h1 h2;simp only [w00] at h;subst h;exact .inl ⟨t,hall _ h2,fun base st out he=>key base st out (.inr (.inl ⟨r,o,by rw [Ar.u,Ar.v,he];exact h1⟩))⟩
  ·rename_i q i o h1 h2;simp only [w00] at h;subst h;exact .inl ⟨t,hall _ h2,fun base st out he=>key base st out (.inr (.inr ⟨i,o,by rw [Ar.u,Ar.v,he];exact h1⟩))⟩
  ·cases h
 ·rename_i sz b t w hg hop;simp only at hg hop;subst hg;subst hop
  have key:∀(base:Nat) (st:St) (out:Out),((∃s xs,(Ar.s t).u st= .own k s xs)∨(∃i s xs,(Ar.s t).u st= .fow k i s xs)∨∃r o l s,(Ar.s t).u st= .gsl k r o l s)->evO P base st ⟨dst,none,.app sz b (.s t) w⟩ (· =out)->∀q x,(q,x)∈out.ob->q=k:=by
   intro base st out hu hev q' x hx;simp only [evO,evU,zk] at hev
   rcases hev with hev|⟨o,hy,rfl⟩
   ·simp only [evX] at hev;split at hev
    ·rcases hu with ⟨s,xs,hu⟩|⟨i,s,xs,hu⟩|⟨r,o,l,s,hu⟩<;>rw [hu] at hev<;>simp only at hev
     split at hev
     ·obtain ⟨_,_,_,_,_,rfl⟩:=hev;simp at hx;exact hx.1
     ·exact hev.elim
    ·exact hev.elim
   ·exact zbJ hu hy q' x hx
  split at h
  ·rename_i q s xs h1 h2;simp only [w00] at h;subst h;exact .inl ⟨t,hall _ h2,fun base st out he=>key base st out (.inl ⟨s,xs,by rw [Ar.u,Ar.v,he];exact h1⟩)⟩
  ·rename_i q i s xs h1 h2;simp only [w00] at h;subst h;exact .inl ⟨t,hall _ h2,fun base st out he=>key base st out (.inr (.inl ⟨i,s,xs,by rw [Ar.u,Ar.v,he];exact h1⟩))⟩
  ·rename_i q r o l s h1 h2;simp only [w00] at h;subst h;exact .inl ⟨t,hall _ h2,fun base st out he=>key base st out (.inr (.inr ⟨r,o,l,s,by rw [Ar.u,Ar.v,he];exact h1⟩))⟩
  ·cases h
 ·rename_i ow sz zs ps hg hop;simp only at hg hop;subst hg;subst hop;split at h
  ·rename_i d hd;simp only at hd;subst hd;split at h
   ·rename_i q i s xs h1 h2;simp only [w00] at h;subst h;refine .inr ⟨d,rfl,hall2 _ h2,fun base st out he hev q' x hx=>?_⟩;rw [h1] at he;simp only [evO,evU,zk] at hev
    rcases hev with hev|⟨o,hy,rfl⟩
    ·simp only [evX] at hev;split at hev
     ·split at hev
      ·rcases hev.2 with hev|hev
       ·split at hev<;>subst hev<;>cases he
       ·subst hev;cases he
      ·have:=hev.2;subst this;cases he
     ·exact hev.elim
    ·cases hy with
     |zaH _=>cases he
   ·cases h
  ·cases h
 ·rename_i nb xb hg hop;simp only at hg hop;subst hg;subst hop;split at h
  ·rename_i d hd;simp only at hd;subst hd;split at h
   ·rename_i q i o' h1 h2;simp only [w00] at h;subst h;refine .inr ⟨d,rfl,hall2 _ h2,fun base st out he hev q' x hx=>?_⟩;rw [h1] at he;simp only [evO,evU,zk] at hev
    rcases hev with hev|⟨o,hy,rfl⟩
    ·simp only [evX] at hev;split at hev
     ·obtain ⟨_,hev⟩:=hev;subst hev;cases he
     ·exact hev.elim
    ·cases hy
   ·cases h
  ·cases h
 ·cases h
section
variable {P:Program} {ops:Array Oper}
theorem zeq {P:Program} {base:Nat} {st st':St} {ao:AO} {out:Out} (hc:ao.z1z=true) (h:∀t∈ao.reads,look st.env t=look st'.env t) (hs:∀k,k<base->zl st'.s.sto k=zl st.s.sto k) (he:evO P base st ao (· =out)):evO P base st' ao (· =out):=by
 obtain ⟨d,g,op⟩:=ao;unfold AO.z1z at hc;split at hc
 ·rename_i f args hg hop;simp only at hg hop;subst hg;subst hop;simp only [evO,evU,zk] at he⊢
  rcases he with he|⟨o,he,_⟩
  ·left;simp only [evX] at he⊢;rw [←wq (st:=st) (st':=st') (fun t ht=>h t (by simpa [AO.reads,AOp.zd] using ht))];exact zbd hs he
  ·cases he
 ·cases hc
structure Eqv (s t:St):Prop where
 env:∀x,look s.env x=look t.env x
 sto:∀k,zl s.s.sto k=zl t.s.sto k
theorem Eqv.refl (s:St):Eqv s s:=⟨fun _=>rfl,fun _=>rfl⟩
theorem Eqv.trans {a b c:St} (h:Eqv a b) (k:Eqv b c):Eqv a c:=⟨fun x=>(h.env x).trans (k.env x),fun x=>(h.sto x).trans (k.sto x)⟩
theorem Eqv.symm {a b:St} (h:Eqv a b):Eqv b a:=⟨fun x=>(h.env x).symm,fun x=>(h.sto x).symm⟩
theorem Z7.eqv {Λ:L} {s t:S} (h:Z7 Λ s) (e:∀k,zl s.sto k=zl t.sto k):Z7 Λ t:=
 ⟨fun k o hk=>h.sto k o (by rw [e];exact hk),h.inj,h.new,h.bnd,h.frz,h.wF,h.wh,h.z22⟩
theorem Rel.eqv {C:Ctx} {Λ:L} {s t:St} {a:Act} (h:Rel C Λ s a) (e:Eqv s t):Rel C Λ t a:=
 ⟨h.kp,h.size,h.defers,fun x=>by rw [←e.env];exact h.env x,h.s.eqv e.sto⟩
theorem Z3:∀(ob s:List (Nat×z5)) (k:Nat),(∀o,(k,o)∉ob)->zl (Zr s ob) k=zl s k
 |[],s,k,_=>rfl
 |(j,o)::r,s,k,h=>by
  have hj:j≠k:=by rintro rfl;exact h o (by simp)
  simp only [Zr];rw [Z3 r _ k (fun o' ho=>h o' (w08 _ ho)),Zf];simp [hj]
theorem Yf:∀(ob s s':List (Nat×z5)) (k:Nat),(∃o,(k,o)∈ob)->zl (Zr s ob) k=zl (Zr s' ob) k
 |[],s,s',k,h=>by obtain ⟨o,h⟩:=h;simp at h
 |(j,o)::r,s,s',k,h=>by
  simp only [Zr];by_cases hr:∃o',(k,o')∈r
  ·exact Yf r _ _ k hr
  ·have hr':∀o',(k,o')∉r:=fun o' ho=>hr ⟨o',ho⟩;rw [Z3 r _ k hr',Z3 r _ k hr',Zf,Zf]
   have:j=k:=by
    obtain ⟨o',ho⟩:=h
    rcases w17.1 ho with e|e
    ·simp at e;exact e.1.symm
    ·exact (hr' o' e).elim
   simp [this]
theorem z1j (ob s s':List (Nat×z5)) (h:∀k,zl s k=zl s' k) (k:Nat):zl (Zr s ob) k=zl (Zr s' ob) k:=by
 by_cases hk:∃o,(k,o)∈ob
 ·exact Yf ob s s' k hk
 ·have hk':∀o',(k,o')∉ob:=fun o' ho=>hk ⟨o',ho⟩;rw [Z3 ob _ k hk',Z3 ob _ k hk',h]
theorem Eqv.app {s t:St} (h:Eqv s t) (d:Option Nat) (o:Out):Eqv (s.app d o) (t.app d o):=by
 refine ⟨fun x=>?_,z1j _ _ _ h.sto⟩
 cases d with
 |none=>exact h.env x
 |some d=>simp only [St.app,Yq,h.env x]
theorem zbN (s:St) {d d':Option Nat} {o o':Out} (hd:∀x,d=some x->d'≠some x) (ho:∀k a b,(k,a)∈o.ob->(k,b)∉o'.ob):Eqv ((s.app d o).app d' o') ((s.app d' o').app d o):=by
 refine ⟨fun x=>?_,fun k=>?_⟩
 ·cases d with
  |none=>cases d'<;>simp [St.app,Yq]
  |some d=>
   cases d' with
   |none=>simp [St.app,Yq]
   |some d'=>
    have:d≠d':=by rintro rfl;exact hd d rfl rfl
    simp only [St.app,Yq];by_cases h1:d=x
    ·subst h1;simp [Ne.symm this]
    ·simp [h1]
 ·show zl (Zr (Zr s.s.sto o.ob) o'.ob) k=zl (Zr (Zr s.s.sto o'.ob) o.ob) k;by_cases hk:∃a,(k,a)∈o.ob
  ·obtain ⟨a,ha⟩:=hk;rw [Z3 o'.ob _ k (fun b=>ho k a b ha)];exact Yf _ _ _ k ⟨a,ha⟩
  ·have hk':∀a,(k,a)∉o.ob:=fun a ha=>hk ⟨a,ha⟩;rw [Z3 o.ob _ k hk'];by_cases hk2:∃b,(k,b)∈o'.ob
   ·exact Yf _ _ _ k hk2
   ·have hk2':∀b,(k,b)∉o'.ob:=fun b hb=>hk2 ⟨b,hb⟩;rw [Z3 o'.ob _ k hk2',Z3 o'.ob _ k hk2',Z3 o.ob _ k hk']
theorem z9j (D:Nat->Bool):∀(r:List AO) (os:List Out) (i:Nat) {s t:St},Eqv s t->Eqv (stD D i s r os) (stD D i t r os)
 |[],os,i,s,t,h=>by cases os<;>exact h
 |ao::r,[],i,s,t,h=>h
 |ao::r,o::os,i,s,t,h=>by
  simp only [stD];refine z9j D r os (i+1) ?_;split
  ·exact h.app _ _
  ·exact h
theorem z5A {D D':Nat->Bool}:∀(r:List AO) (os:List Out) (i:Nat) (s:St),(∀j,i<=j->j<i+r.length->D j=D' j)->stD D i s r os=stD D' i s r os
 |[],os,i,s,h=>by cases os<;>rfl
 |ao::r,[],i,s,h=>rfl
 |ao::r,o::os,i,s,h=>by
  simp only [stD,h i (w07 _) (by simp)];exact z5A r os (i+1) _ (fun j h1 h2=>h j (by omega) (by simp;omega))
theorem qQ {D:Nat->Bool}:∀(r:List AO) (os:List Out) (i:Nat) (s:St),(∀j,i<=j->D j=false)->stD D i s r os=s
 |[],os,i,s,h=>by cases os<;>rfl
 |ao::r,[],i,s,h=>rfl
 |ao::r,o::os,i,s,h=>by
  simp only [stD,h i (w07 _),w0k,w0r];exact qQ r os (i+1) _ (fun j h1=>h j (by omega))
theorem z7j:∀(r:List AO) (os:List Out) (i:Nat) (s:St) (n:Nat) (ao:AO) (o:Out),r[n]?=some ao->os[n]?=some o->stD (fun l=>decide (l<i+n+1)) i s r os=(stD (fun l=>decide (l<i+n)) i s r os).app ao.dst o
 |[],_,_,_,n,ao,o,h,_=>by simp at h
 |_::_,[],_,_,n,ao,o,_,h=>by simp at h
 |a::r,p::os,i,s,0,ao,o,h1,h2=>by
  simp at h1 h2;subst h1;subst h2
  have e1:decide (i<i+0+1)=true:=by simp
  have e2:decide (i<i+0)=false:=by simp
  simp only [stD,e1,e2,w0v]
  rw [qQ _ _ _ _ (fun j hj=>by simp;omega),qQ _ _ _ _ (fun j hj=>by simp;omega)]
  simp
 |a::r,p::os,i,s,n+1,ao,o,h1,h2=>by
  have e1:decide (i<i+(n+1)+1)=true:=by simp;omega
  have e2:decide (i<i+(n+1))=true:=by simp
  simp only [stD,e1,e2,w0v];have:=z7j r os (i+1) (s.app a.dst p) n ao o (by simpa using h1) (by simpa using h2)
  have a1:i+1+n+1=i+(n+1)+1:=by omega
  have a2:i+1+n=i+(n+1):=by omega
  rw [a1,a2] at this;exact this
theorem z30 {D D':Nat->Bool} {t:Nat}:∀(r:List AO) (os:List Out) (i:Nat) (s s':St),(∀j ao,r[j]?=some ao->ao.dst=some t->D (i+j)=D' (i+j))->look s.env t=look s'.env t->look (stD D i s r os).env t=look (stD D' i s' r os).env t
 |[],os,i,s,s',h,e=>by cases os<;>exact e
 |ao::r,[],i,s,s',h,e=>e
 |ao::r,o::os,i,s,s',h,e=>by
  simp only [stD]
  refine z30 r os (i+1) _ _ (fun j a hj hd=>by have:=h (j+1) a (by simpa using hj) hd;rw [w1e,w25 1 j];exact this) ?_
  by_cases hd:ao.dst=some t
  ·have:=h 0 ao rfl hd;simp only [w1s] at this;rw [this];split
   ·simp [St.app,hd,Yq]
   ·exact e
  ·have key:∀(u:St),look (u.app ao.dst o).env t=look u.env t:=by
    intro u
    cases hdd:ao.dst with
    |none=>rfl
    |some d=>
     have:d≠t:=by rintro rfl;exact hd hdd
     simp [St.app,Yq,this]
   have key2:∀(b:Bool) (u:St),look (if b then u.app ao.dst o else u).env t=look u.env t:=by
    intro b u;cases b
    ·rfl
    ·exact key u
   rw [key2,key2];exact e
theorem z8G {D D':Nat->Bool}:∀(r:List AO) (os:List Out) (i:Nat) (s s':St),(∀j o,os[j]?=some o->o.ob≠[]->D (i+j)=D' (i+j))->s.s.sto=s'.s.sto->(stD D i s r os).s.sto=(stD D' i s' r os).s.sto
 |[],os,i,s,s',h,e=>by cases os<;>exact e
 |ao::r,[],i,s,s',h,e=>e
 |ao::r,o::os,i,s,s',h,e=>by
  simp only [stD]
  refine z8G r os (i+1) _ _ (fun j a hj hd=>by have:=h (j+1) a (by simpa using hj) hd;rw [w1e,w25 1 j];exact this) ?_
  by_cases hob:o.ob=[]
  ·have key2:∀(b:Bool) (u:St),(if b then u.app ao.dst o else u).s.sto=u.s.sto:=by
    intro b u;cases b
    ·rfl
    ·simp [St.app,S.app,hob,Zr]
   rw [key2,key2];exact e
  ·have:=h 0 o rfl hob;simp only [w1s] at this;rw [this];split
   ·simp only [St.app,S.app,e]
   ·exact e
def V.names (v:V) (k:Nat):Prop:=∃ps,Z9 ps/\((∃o,v.un true=(.ptr k o,ps))∨v.un true=(.mp k,ps)∨(∃i o,v.un true=(.fpt k i o,ps))∨(∃ver o,0<ver/\v.un true=(.gpt k ver o,ps))∨∃ver o l z,0<ver/\v.un true=(.gsl k ver o l z,ps))
theorem V.z8x {Λ:L} {u:Value} {v:V} {k:Nat} (h:zy Λ u v) (hn:v.names k) (hf:ya Λ k):False:=by
 obtain ⟨ps,hp,hn⟩:=hn
 have key:∀y:V,zy Λ u y->((∃o,y= .ptr k o)∨y= .mp k∨(∃i o,y= .fpt k i o)∨(∃ver o,0<ver/\y= .gpt k ver o)∨∃ver o l z,0<ver/\y= .gsl k ver o l z)->False:=by
  intro y hy hh
  rcases hh with ⟨o,rfl⟩|rfl|⟨i,o,rfl⟩|⟨ver,o,hv,rfl⟩|⟨ver,o,l,z,hv,rfl⟩
  ·cases hy;exact hf.obj _ ‹_›
  ·cases hy;exact hf.obj _ ‹_›
  ·cases hy;exact hf.fob _ _ ‹_›
  ·cases hy with
   |gpt _ _ h3 _=>have:=hf.frf 0;omega
  ·cases hy with
   |gsl _ _ h3 _=>have:=hf.frf 0;omega
 cases v<;>simp only [V.un,w04] at hn
 case gd c x=>
  have hc:c=true:=by
   rcases hn with ⟨o,_,rfl⟩|⟨_,rfl⟩|⟨_,_,_,rfl⟩|⟨_,_,_,_,rfl⟩|⟨_,_,_,_,_,_,rfl⟩<;>simpa [Z9] using hp
  subst hc
  cases h with
  |gd h _=>
   refine key x (h Z) ?_
   rcases hn with ⟨o,h1,_⟩|⟨h1,_⟩|⟨i,o,h1,_⟩|⟨ver,o,h0,h1,_⟩|⟨ver,o,l,z,h0,h1,_⟩
   ·exact .inl ⟨o,h1⟩
   ·exact .inr (.inl h1)
   ·exact .inr (.inr (.inl ⟨i,o,h1⟩))
   ·exact .inr (.inr (.inr (.inl ⟨ver,o,h0,h1⟩)))
   ·exact .inr (.inr (.inr (.inr ⟨ver,o,l,z,h0,h1⟩)))
 all_goals
  refine key _ h ?_
  rcases hn with ⟨o,h1,_⟩|⟨h1,_⟩|⟨i,o,h1,_⟩|⟨ver,o,h0,h1,_⟩|⟨ver,o,l,z,h0,h1,_⟩
  ·exact .inl ⟨o,h1⟩
  ·exact .inr (.inl h1)
  ·exact .inr (.inr (.inl ⟨i,o,h1⟩))
  ·exact .inr (.inr (.inr (.inl ⟨ver,o,h0,h1⟩)))
  ·exact .inr (.inr (.inr (.inr ⟨ver,o,l,z,h0,h1⟩)))
theorem WG {a b:List Bool} (h:Z9 (a++b)):Z9 a:=by
 induction a with
 |nil=>trivial
 |cons x r ih=>exact ⟨h.1,ih h.2⟩
theorem z7X {ao:AO} {base:Nat} {st st':St} {out:Out} (hn:ao.wA=true) (h:∀t∈ao.reads,look st.env t=look st'.env t) (he:evO P base st ao (· =out))
  (hk:∀t,t∈ao.reads->∀k,(look st.env t).names k->zl st.s.sto k≠none->zl st.s.sto k=zl st'.s.sto k):evO P base st' ao (· =out):=by
 obtain ⟨dst,g,op⟩:=ao;unfold AO.wA at hn;split at hn
 ·rename_i ag n t hg hop;simp only at hg hop;subst hg;subst hop;have ht:=h t (by simp [AO.reads,AOp.zd,Ar.zd]);have hkt:=hk t (by simp [AO.reads,AOp.zd,NOp.zd,Ar.zd]);simp only [evO,evU,evX,z7Q,or_false,Z8,zk,rd,Ar.v] at he⊢;rw [←ht];generalize look st.env t=v at*
  cases hv:v.un true with
  |mk x p=>
   rw [hv] at he
   cases x with
   |ptr k o=>
    simp only at he⊢
    have:zl st.s.sto k=zl st'.s.sto k:=by
     cases ha:zl st.s.sto k with
     |none=>rw [ha] at he;exact he.elim
     |some ob=>
      rw [←ha];rw [ha] at he;refine hkt k ⟨p,?_,.inl ⟨o,hv⟩⟩ (by rw [ha];simp)
      cases ob with
      |cells cs=>
       simp only at he
       cases ag with
       |true=>
        simp only [w0v] at he;split at he
        ·rename_i v ps h1;split at h1
         ·simp at h1;obtain ⟨_,rfl⟩:=h1;exact he.1
         ·cases h1
        ·exact he.elim
       |false=>
        simp only [w0k,w0r] at he;split at he
        ·rename_i v ps h1;split at h1
         ·simp at h1;obtain ⟨_,rfl⟩:=h1;exact he.1
         ·cases h1
        ·exact he.elim
      |map a b c=>exact he.elim
      |arr a=>exact he.elim
      |iter a b c d=>exact he.elim
      |gro _ _=>exact he.elim
      |wo _=>exact he.elim
      |Ya _=>exact he.elim
      |WM _ _=>exact he.elim
    rw [←this];exact he
   |fpt k i o=>
    simp only at he⊢
    have:zl st.s.sto k=zl st'.s.sto k:=by
     cases ha:zl st.s.sto k with
     |none=>rw [ha] at he;exact he.elim
     |some ob=>
      rw [←ha];rw [ha] at he;refine hkt k ⟨p,?_,.inr (.inr (.inl ⟨i,o,hv⟩))⟩ (by rw [ha];simp)
      cases ob with
      |wo os=>
       simp only at he
       cases hos:os[i]? with
       |none=>rw [hos] at he;exact he.elim
       |some cs=>
        rw [hos] at he;simp only at he
        cases ag with
        |true=>
         simp only [w0v] at he;split at he
         ·rename_i v ps h1;split at h1
          ·simp at h1;obtain ⟨_,rfl⟩:=h1;exact he.1
          ·cases h1
         ·exact he.elim
        |false=>
         simp only [w0k,w0r] at he;split at he
         ·rename_i v ps h1;split at h1
          ·simp at h1;obtain ⟨_,rfl⟩:=h1;exact he.1
          ·cases h1
         ·exact he.elim
      |_=>exact he.elim
    rw [←this];exact he
   |gpt k ver o=>
    simp only at he⊢
    have:zl st.s.sto k=zl st'.s.sto k:=by
     cases ha:zl st.s.sto k with
     |none=>rw [ha] at he;exact he.elim
     |some ob=>
      rw [←ha];rw [ha] at he
      cases ob with
      |gro w cs=>
       simp only at he
       have hpp:Z9 (p++[decide (0<w),decide (ver=w)]):=by
        cases ag with
        |true=>
         simp only [w0v] at he;split at he
         ·rename_i v ps h1;split at h1
          ·simp at h1;obtain ⟨_,rfl⟩:=h1;simpa using he.1
          ·cases h1
         ·exact he.elim
        |false=>
         simp only [w0k,w0r] at he;split at he
         ·rename_i v ps h1;split at h1
          ·simp at h1;obtain ⟨_,rfl⟩:=h1;simpa using he.1
          ·cases h1
         ·exact he.elim
       have hm:=wX hpp;have m1:=zDT (hm (decide (0<w)) (by simp));have m2:=zDT (hm (decide (ver=w)) (by simp));exact hkt k ⟨p,WG hpp,.inr (.inr (.inr (.inl ⟨ver,o,by omega,hv⟩)))⟩ (by rw [ha];simp)
      |_=>exact he.elim
    rw [←this];exact he
   |t z=>cases z<;>exact he
   |_=>exact he
 ·rename_i ks kag zv ok t y hg hop;simp only at hg hop;subst hg;subst hop;have ht:=h t (by simp [AO.reads,AOp.zd,NOp.zd,Ar.zd]);have hy:rd true st y=rd true st' y:=ZV fun s hs=>h s (by simp [AO.reads,AOp.zd,NOp.zd,hs]);have hkt:=hk t (by simp [AO.reads,AOp.zd,NOp.zd,Ar.zd]);have e1:rd true st (.s t)=(look st.env t).un true:=rfl
  have e2:rd true st' (.s t)=(look st.env t).un true:=by rw [ht];rfl
  have e3:Ar.v st' (.s t)=look st.env t:=by rw [ht];rfl
  have e4:Ar.v st (.s t)=look st.env t:=rfl;simp only [evO,evU,evX,yg,QT,or_false,Z8,zk,Zu,←hy,e1,e2,e3,e4] at he⊢;generalize look st.env t=v at*
  cases hv:v.un true with
  |mk x p=>
   rw [hv] at he
   cases hyv:rd true st y with
   |mk vk p2=>
    simp only [hyv] at he⊢
    cases hc:qx ks kag vk with
    |none=>simp only [hc] at he
    |some cs=>
     simp only [hc] at he⊢
     cases x with
     |mp k=>
      simp only at he⊢
      have:zl st.s.sto k=zl st'.s.sto k:=by
       cases ha:zl st.s.sto k with
       |none=>rw [ha] at he;exact he.elim
       |some ob=>
        rw [←ha];rw [ha] at he;refine hkt k ⟨p,?_,.inr (.inl hv)⟩ (by rw [ha];simp)
        cases ob with
        |map a es c=>
         simp only at he
         cases hm:z3O cs es with
         |some w=>rw [hm] at he;exact WG he.1
         |none=>rw [hm] at he;exact WG he.1
        |cells a=>exact he.elim
        |arr a=>exact he.elim
        |iter a b c d=>exact he.elim
        |gro _ _=>exact he.elim
        |wo _=>exact he.elim
        |Ya _=>exact he.elim
        |WM _ _=>exact he.elim
      rw [←this];exact he
     |t z=>cases z<;>exact he
     |_=>exact he
 ·rename_i sz t y hg hop;simp only at hg hop;subst hg;subst hop;have ht:=h t (by simp [AO.reads,AOp.zd,Ar.zd]);have hy:rd true st y=rd true st' y:=ZV fun s hs=>h s (by simp [AO.reads,AOp.zd,hs]);have hkt:=hk t (by simp [AO.reads,AOp.zd,Ar.zd]);have e1:rd true st (.s t)=(look st.env t).un true:=rfl
  have e2:rd true st' (.s t)=(look st.env t).un true:=by rw [ht];rfl
  have e3:Ar.v st' (.s t)=look st.env t:=by rw [ht];rfl
  have e4:Ar.v st (.s t)=look st.env t:=rfl;simp only [evO,evU,evX,z8w,or_false,Z8,zk,←hy,e1,e2,e3,e4] at he⊢;generalize look st.env t=v at*
  cases hv:v.un true with
  |mk x p=>
   rw [hv] at he
   cases hyv:rd true st y with
   |mk vk p2=>
    simp only [hyv] at he⊢
    cases x with
    |gsl k ver off len sz'=>
     cases vk with
     |t z=>
      cases z with
      |int kd z=>
       simp only at he⊢
       have:zl st.s.sto k=zl st'.s.sto k:=by
        cases ha:zl st.s.sto k with
        |none=>rw [ha] at he;exact he.elim
        |some ob=>
         rw [←ha];rw [ha] at he
         cases ob with
         |gro w cs=>
          simp only at he
          have hpp:Z9 (p++(p2++[decide (0<=z),decide (z<(len:Int)),decide (0<w),decide (ver=w)])):=by
           split at he
           ·rename_i v ps h1;split at h1
            ·simp at h1;obtain ⟨_,rfl⟩:=h1;simpa using he.1
            ·cases h1
           ·exact he.elim
          have hm:=wX hpp;have m1:=zDT (hm (decide (0<w)) (by simp));have m2:=zDT (hm (decide (ver=w)) (by simp));exact hkt k ⟨p,WG hpp,.inr (.inr (.inr (.inr ⟨ver,off,len,sz',by omega,hv⟩)))⟩ (by rw [ha];simp)
         |_=>exact he.elim
       rw [←this];exact he
      |_=>exact he
     |_=>exact he
    |_=>
     cases vk with
     |t z=>cases z<;>exact he
     |_=>exact he
 ·rename_i off t hg hop;simp only at hg hop;subst hg;subst hop;have ht:=h t (by simp [AO.reads,AOp.zd,Ar.zd]);have hkt:=hk t (by simp [AO.reads,AOp.zd,Ar.zd]);have e1:rd true st (.s t)=(look st.env t).un true:=rfl
  have e2:rd true st' (.s t)=(look st.env t).un true:=by rw [ht];rfl
  have e3:Ar.v st' (.s t)=look st.env t:=by rw [ht];rfl
  have e4:Ar.v st (.s t)=look st.env t:=rfl;simp only [evO,evU,evX,z8u,or_false,Z8,zk,e1,e2,e3,e4] at he⊢;generalize look st.env t=v at*
  cases hv:v.un true with
  |mk x p=>
   rw [hv] at he
   cases x with
   |gpt k ver o=>
    simp only at he⊢
    have:zl st.s.sto k=zl st'.s.sto k:=by
     cases ha:zl st.s.sto k with
     |none=>rw [ha] at he;exact he.elim
     |some ob=>
      rw [←ha];rw [ha] at he
      cases ob with
      |gro w cs=>
       simp only at he
       have hpp:Z9 (p++[decide (0<w),decide (ver=w)]):=by simpa using he.1
       have hm:=wX hpp;have m1:=zDT (hm (decide (0<w)) (by simp));have m2:=zDT (hm (decide (ver=w)) (by simp));exact hkt k ⟨p,WG hpp,.inr (.inr (.inr (.inl ⟨ver,o,by omega,hv⟩)))⟩ (by rw [ha];simp)
      |_=>exact he.elim
    rw [←this];exact he
   |t z=>cases z<;>exact he
   |_=>exact he
 ·cases hn
theorem z7F {ao:AO} {base:Nat} {st:St} {out:Out} {o:Oper} {i:Nat} (ho:ops[i]?=some o) (hres:z3P P ops o=some ao) (hn:ao.wA=true) (h:evO P base st ao (· =out)) {C:Ctx} {Λ:L} {a:Act} {next:Act->World->Prop} {Q:Exit->Act->World->Prop} (hC:C.P=P) (hr:Rel C Λ st a)
  (hle:base+out.n<=Λ.nxt) (hfree:∀k,base<=k->k<base+out.n->k<Λ.nxt/\ya Λ k/\zl st.s.sto k=none)
  (hnext:∀v Λ',Kp Λ Λ'->Λ'.nxt=Λ.nxt->Z7 Λ' (st.s.app out)->zy Λ' v out.v->(∀k,ya Λ k->zl st.s.sto k=none->(base+out.n<=k∨k<base)->ya Λ' k)->next (a.put o.dst v) Λ'.w):
  ao.dst=o.dst/\wpOp P ops Q i next a Λ.w:=by
 obtain ⟨dst,g,op⟩:=ao
 have hg:g=none:=by
  unfold AO.wA at hn;split at hn
  ·rename_i h1 _;exact h1
  ·rename_i h1 _;exact h1
  ·rename_i h1 _;exact h1
  ·rename_i h1 _;exact h1
  ·cases hn
 subst hg
 have hev:∃v ps,zk true st op=some (v,ps)/\Z9 ps/\({v:=v,rd:=Z8 st op}:Out)=out:=by
  simp only [evO,evU] at h;split at h
  ·rename_i v ps he;exact ⟨v,ps,he,h.1,h.2⟩
  ·unfold AO.wA at hn;split at hn
   ·rename_i hop;simp only at hop;subst hop;exact (h.elim (fun h=>h) z7Q.1).elim
   ·rename_i hop;simp only at hop;subst hop;exact (h.elim (fun h=>h) QT.1).elim
   ·rename_i hop;simp only at hop;subst hop;exact (h.elim (fun h=>h) z8w.1).elim
   ·rename_i hop;simp only at hop;subst hop;exact (h.elim (fun h=>h) z8u.1).elim
   ·cases hn
 obtain ⟨v,ps,h1,h2,rfl⟩:=hev;unfold z3P at hres;split at hres
 ·simp at hres
 ·rename_i aop hop;split at hres
  ·rename_i hg;simp only [w00,AO.mk.injEq] at hres;obtain ⟨e1,_,e2⟩:=hres;subst e2;refine ⟨e1.symm,?_⟩
   have hw:Region.wanted o (yielded ops a.tmps)=true:=by simp [Region.wanted,hg]
   simp only [wpOp,ho,hw,w0v];refine .inl ?_
   exact Za.zfM (r:=false) (base:=base) (z1n hop h1 (wX h2)) C Λ a next Q hC hr hle hfree (fun u Λ' k1 k2 k3 k4 k5=>hnext u Λ' k1 k2 k3 k4 fun k f1 f2 hc=>k5 k f1 f2 (by
    rcases hc with hc|hc
    ·exact .inl hc
    ·exact .inr ⟨hc,rfl⟩))
  ·split at hres
   ·simp at hres
   ·cases hres
theorem z8U {ao:AO} {base:Nat} {st:St} {out:Out} (hn:ao.wA=true) (h:evO P base st ao (· =out)):out.ob=[]:=by
 obtain ⟨dst,g,op⟩:=ao
 have hg:g=none:=by
  unfold AO.wA at hn;split at hn
  ·rename_i h1 _;exact h1
  ·rename_i h1 _;exact h1
  ·rename_i h1 _;exact h1
  ·rename_i h1 _;exact h1
  ·cases hn
 subst hg;simp only [evO,evU] at h;split at h
 ·rw [←h.2]
 ·unfold AO.wA at hn;split at hn
  ·rename_i hop;simp only at hop;subst hop;exact (h.elim (fun h=>h) z7Q.1).elim
  ·rename_i hop;simp only at hop;subst hop;exact (h.elim (fun h=>h) QT.1).elim
  ·rename_i hop;simp only at hop;subst hop;exact (h.elim (fun h=>h) z8w.1).elim
  ·rename_i hop;simp only at hop;subst hop;exact (h.elim (fun h=>h) z8u.1).elim
  ·cases hn
theorem z7y {ao:AO} {base:Nat} {st:St} {out:Out} {o:Oper} {i:Nat} (ho:ops[i]?=some o) (hres:z3P P ops o=some ao) (h:evO P base st ao (· =out)) {C:Ctx} {Λ:L} {a:Act} {next:Act->World->Prop} {Q:Exit->Act->World->Prop} (hC:C.P=P) (hr:Rel C Λ st a)
  (hdst:∀(j:Nat) (p:Oper) (d:Nat),ops[j]?=some p->p.dst=some d->d<C.n)
  (hle:base+out.n<=Λ.nxt) (hfree:∀k,base<=k->k<base+out.n->k<Λ.nxt/\ya Λ k/\zl st.s.sto k=none)
  (hnext:∀v Λ',Kp Λ Λ'->Λ'.nxt=Λ.nxt->Z7 Λ' (st.s.app out)->zy Λ' v out.v->(∀k,ya Λ k->zl st.s.sto k=none->(base+out.n<=k∨(k<base/\(out.rd=false∨ao.wA=true)))->ya Λ' k)->next (a.put o.dst v) Λ'.w):
  ao.dst=o.dst/\wpOp P ops Q i next a Λ.w:=by
 cases hn:ao.wA with
 |true=>
  refine z7F ho hres hn h hC hr hle hfree fun v Λ' k1 k2 k3 k4 k5=>hnext v Λ' k1 k2 k3 k4 fun k f1 f2 hc=>k5 k f1 f2 ?_
  rcases hc with hc|hc
  ·exact .inl hc
  ·exact .inr hc.1
 |false=>
  refine z1l ho hres h hC hr hdst hle hfree fun v Λ' k1 k2 k3 k4 k5=>hnext v Λ' k1 k2 k3 k4 fun k f1 f2 hc=>k5 k f1 f2 ?_
  rcases hc with hc|⟨hc,hd⟩
  ·exact .inl hc
  ·rcases hd with hd|hd
   ·exact .inr ⟨hc,hd⟩
   ·rw [hn] at hd;cases hd
theorem z3i {D D':Nat->Bool} {k:Nat}:∀(r:List AO) (os:List Out) (i:Nat) (s s':St),(∀j o,os[j]?=some o->(∃x,(k,x)∈o.ob)->D (i+j)=D' (i+j))->zl s.s.sto k=zl s'.s.sto k->zl (stD D i s r os).s.sto k=zl (stD D' i s' r os).s.sto k
 |[],os,i,s,s',h,e=>by cases os<;>exact e
 |ao::r,[],i,s,s',h,e=>e
 |ao::r,o::os,i,s,s',h,e=>by
  simp only [stD]
  refine z3i r os (i+1) _ _ (fun j a hj hd=>by have:=h (j+1) a (by simpa using hj) hd;rw [w1e,w25 1 j];exact this) ?_
  by_cases hob:∃x,(k,x)∈o.ob
  ·have:=h 0 o rfl hob;simp only [w1s] at this;rw [this];split
   ·exact Yf o.ob _ _ k hob
   ·exact e
  ·have key2:∀(b:Bool) (u:St),zl (if b then u.app ao.dst o else u).s.sto k=zl u.s.sto k:=by
    intro b u;cases b
    ·rfl
    ·exact Z3 o.ob _ k fun x hx=>hob ⟨x,hx⟩
   rw [key2,key2];exact e
theorem z6W {D:Nat->Bool} {k:Nat}:∀(r:List AO) (os:List Out) (i:Nat) (s:St),zl (stD D i s r os).s.sto k≠none->zl s.s.sto k≠none∨∃(j:Nat) (o:Out),os[j]?=some o/\j<r.length/\D (i+j)=true/\∃x,(k,x)∈o.ob
 |[],os,i,s,h=>by cases os<;>exact .inl h
 |ao::r,[],i,s,h=> .inl h
 |ao::r,o::os,i,s,h=>by
  simp only [stD] at h
  rcases z6W r os (i+1) _ h with h|⟨j,p,h1,h2,h3,h4⟩
  ·by_cases hD:D i=true
   ·by_cases hob:∃x,(k,x)∈o.ob
    ·exact .inr ⟨0,o,rfl,by simp,by simpa using hD,hob⟩
    ·left;simp only [hD,w0v,St.app,S.app] at h;rw [Z3 o.ob _ k fun x hx=>hob ⟨x,hx⟩] at h;exact h
   ·left;simpa [hD] using h
  ·exact .inr ⟨j+1,p,by simpa using h1,by simp;omega,by rw [←w1e,Nat.add_right_comm];exact h3,h4⟩
structure zeF (ao:AO) (o:Out) (bo:AO) (p:Out):Prop where
 dst:∀x,ao.dst=some x->bo.dst≠some x
 ob:∀k a b,(k,a)∈o.ob->(k,b)∉p.ob
theorem z9o {D:Nat->Bool} {ao:AO} {o:Out}:∀(r:List AO) (os:List Out) (i:Nat) (s:St),(∀j bo p,r[j]?=some bo->os[j]?=some p->D (i+j)=true->zeF ao o bo p)->
  Eqv (stD D i (s.app ao.dst o) r os) ((stD D i s r os).app ao.dst o)
 |[],os,i,s,h=>by cases os<;>exact Eqv.refl _
 |bo::r,[],i,s,h=>Eqv.refl _
 |bo::r,p::os,i,s,h=>by
  simp only [stD];have ih:=fun u=>z9o (D:=D) (ao:=ao) (o:=o) r os (i+1) u (fun j b q hb hq hD=>h (j+1) b q (by simpa using hb) (by simpa using hq) (by rw [w1e,w25 1 j] at hD;exact hD));by_cases hD:D i=true
  ·simp only [hD,w0v];have hap:=h 0 bo p rfl rfl (by simpa using hD);exact (z9j D r os (i+1) (zbN s hap.dst hap.ob)).trans (ih _)
  ·simp only [hD,w0k,w0r];exact ih s
theorem z3o {D D':Nat->Bool} {n:Nat} {ao:AO} {o:Out}:∀(r:List AO) (os:List Out) (i:Nat) (s:St),r[n]?=some ao->os[n]?=some o->D (i+n)=false->D' (i+n)=true->(∀j,j≠i+n->D' j=D j)->
  (∀j bo p,r[j]?=some bo->os[j]?=some p->n<j->D (i+j)=true->zeF ao o bo p)->Eqv (stD D' i s r os) ((stD D i s r os).app ao.dst o)
 |[],os,i,s,h1,_,_,_,_,_=>by simp at h1
 |bo::r,[],i,s,_,h2,_,_,_,_=>by simp at h2
 |bo::r,p::os,i,s,h1,h2,h3,h4,h5,h6=>by
  cases n with
  |zero=>
   simp at h1 h2;subst h1;subst h2;simp only [w1s] at h3 h4 h5;simp only [stD,h3,h4,w0v,w0k,w0r];rw [z5A (D:=D') (D':=D) r os (i+1) _ (fun j h1 _=>h5 j (by omega))];exact z9o r os (i+1) s (fun j b q hb hq hD=>h6 (j+1) b q (by simpa using hb) (by simpa using hq) (by omega) (by rw [w1e,w25 1 j] at hD;exact hD))
  |succ n=>
   simp only [stD,h5 i (by omega)]
   have e:i+1+n=i+(n+1):=by omega
   exact z3o r os (i+1) _ (by simpa using h1) (by simpa using h2) (by rw [e];exact h3) (by rw [e];exact h4) (fun j hj=>h5 j (by omega)) (fun j b q hb hq hlt hD=>h6 (j+1) b q (by simpa using hb) (by simpa using hq) (by omega) (by rw [w1e,w25 1 j] at hD;exact hD))
theorem Ch.at:∀{r:List AO} {os:List Out} {i base:Nat} {s:St} {b':Nat} {s':St},Ch P base s r os b' s'->r.length=os.length/\b'=base+wg os/\s'=stD (fun _=>true) i s r os/\
  ∀(j:Nat) (ao:AO) (o:Out),r[j]?=some ao->os[j]?=some o->evO P (base+wg (os.take j)) (stD (fun l=>decide (l<i+j)) i s r os) ao (· =o)
 |[],[],i,base,s,b',s',h=>by obtain ⟨rfl,rfl⟩:=h;exact ⟨rfl,rfl,rfl,by simp⟩
 |ao::r,o::os,i,base,s,b',s',h=>by
  obtain ⟨h1,h2⟩:=h;obtain ⟨i1,i2,i3,i4⟩:=Ch.at (i:=i+1) h2
  refine ⟨by simp [i1],by simp only [wg];omega,by simp only [stD,w0v];exact i3,fun j a p ha hp=>?_⟩
  cases j with
  |zero=>
   simp at ha hp;subst ha;subst hp
   have:stD (fun l=>decide (l<i+0)) i s (ao::r) (o::os)=s:=qQ _ _ _ _ (fun j hj=>by simp;omega)
   rw [this];simpa [wg] using h1
  |succ j=>
   have:=i4 j a p (by simpa using ha) (by simpa using hp)
   have e1:base+o.n+wg (os.take j)=base+wg ((o::os).take (j+1)):=by simp [wg];omega
   have e2:i+1+j=i+(j+1):=by omega
   rw [e1,e2] at this
   have e3:decide (i<i+(j+1))=true:=by simp
   simp only [stD,e3,w0v];exact this
 |[],_::_,_,_,_,_,_,h=>h.elim
 |_::_,[],_,_,_,_,_,h=>h.elim
end
section
variable {P:Program} {ops:Array Oper}
theorem z4O (f:Nat->Nat) (x:Nat):∀(l:List Nat) (s:Nat),(l.foldl (fun s j=>s|||f j) s).testBit x=(s.testBit x||l.any fun j=>(f j).testBit x)
 |[],s=>by simp
 |j::r,s=>by simp only [w1t,w14];rw [z4O f x r];simp [Nat.testBit_or,Bool.or_assoc]
theorem z3f {D:Nat->Bool} {after:List (List Nat)} (hcl:∀i,D i=true->∀j∈after.getD i [],D j=true):∀(suf pre:List (List Nat)) (acc:List Nat),after=pre++suf->acc.length=pre.length->
  (∀i,(∀j∈after.getD i [],D j=true)->∀j,(acc.getD i 0).testBit j=true->D j=true)->∀i,(∀j∈after.getD i [],D j=true)->∀j,((z5F suf acc).getD i 0).testBit j=true->D j=true
 |[],pre,acc,_,_,h=>h
 |l::suf,pre,acc,e,hl,h=>by
  refine z3f hcl suf (pre++[l]) _ (by simp [e]) (by simp [hl]) fun i hi j hj=>?_;by_cases h1:i<acc.length
  ·rw [w0e,w0h h1,←w0e] at hj;exact h i hi j hj
  ·by_cases h2:i=acc.length
   ·subst h2;rw [w0e,w0i (w07 _)] at hj;simp only [Nat.sub_self,List.getElem?_cons_zero,w2q] at hj;rw [z4O (fun j=>2 ^ j|||acc.getD j 0)] at hj;simp only [Nat.zero_testBit,w1x,w2d] at hj;obtain ⟨q,hq,hb⟩:=hj
    have hlq:after.getD acc.length []=l:=by rw [e,hl,w0e];simp
    rw [hlq] at hi;have hDq:=hi q hq;simp only [Nat.testBit_or,w2j,Nat.testBit_two_pow,w0n] at hb
    rcases hb with rfl|hb
    ·exact hDq
    ·exact h q (hcl q hDq) j hb
   ·rw [w0e,w12 (by simp;omega)] at hj;simp at hj
theorem zdT {st:St} {op:NOp} {out:Out} (h:yg st (· =out) op):out.rd=true:=by
 unfold yg at h;split at h
 ·split at h
  ·split at h
   ·obtain ⟨_,rfl⟩:=h;rfl
   ·exact h.elim
  ·exact h.elim
 ·split at h
  ·split at h
   ·obtain ⟨_,rfl⟩:=h;rfl
   ·exact h.elim
  ·exact h.elim
 ·split at h
  ·split at h
   ·subst h;rfl
   ·exact h.elim
  ·exact h.elim
 ·split at h
  ·split at h
   ·split at h
    ·split at h
     ·obtain ⟨_,rfl⟩:=h;rfl
     ·exact h.elim
    ·obtain ⟨_,rfl⟩:=h;rfl
   ·exact h.elim
  ·exact h.elim
 ·split at h
  ·split at h
   ·split at h
    ·subst h;rfl
    ·exact h.elim
   ·exact h.elim
  ·exact h.elim
 ·exact h.elim
theorem zds {base:Nat} {st:St} {aop:AOp} {out:Out} (h:evX P base st (· =out) aop) (hr:out.rd=false):∀k o,(k,o)∈out.ob->base<=k/\k<base+out.n:=by
 have fnev:∀{f:FuncId} {vs:List V} {sto:List (Nat×z5)},QQ P f vs base sto (· =out)->∀k o,(k,o)∈out.ob->base<=k/\k<base+out.n:=by
  intro f vs sto h k o hk;obtain ⟨out',h1,rfl⟩:=h;rw [hr] at h1;simp only [w0k,w0r] at h1
  rcases (h1 []).2.1 k o hk with h|h
  ·simp [zl] at h
  ·exact h
 have fnevS:∀{f:FuncId} {vs:List V} {sto:List (Nat×z5)},qP P f vs base sto (· =out)->∀k o,(k,o)∈out.ob->base<=k/\k<base+out.n:=by
  intro f vs sto h k o hk;obtain ⟨out',h1,rfl⟩:=h;rw [hr] at h1;simp only [w0k,w0r] at h1
  rcases (h1 []).2.1 k o hk with h|h
  ·simp [zl] at h
  ·exact h
 unfold evX at h;split at h
 ·split at h
  ·split at h
   ·split at h
    ·obtain ⟨_,rfl⟩:=h;simp at hr
    ·exact h.elim
   ·exact h.elim
  ·exact h.elim
 ·split at h
  ·obtain ⟨_,rfl⟩:=h;intro j ob hj;simp at hj;simp;omega
  ·exact h.elim
 ·subst h;intro j ob hj;simp at hj;simp;omega
 ·split at h
  ·obtain ⟨_,h⟩:=h;split at h
   ·rcases h with h|h
    ·split at h
     ·subst h;intro j ob hj;simp at hj
     ·subst h;intro j ob hj;simp at hj;simp;omega
    ·subst h;intro j ob hj;simp at hj
   ·subst h;intro j ob hj;simp at hj
  ·exact h.elim
 ·split at h
  ·split at h
   ·obtain ⟨_,_,_,rfl⟩:=h;intro j ob hj;simp at hj;simp;omega
   ·split at h
    ·obtain ⟨_,_,_,_,_,rfl⟩:=h;simp at hr
    ·exact h.elim
   ·exact h.elim
  ·exact h.elim
 ·split at h
  ·obtain ⟨_,rfl⟩:=h;intro j ob hj;simp at hj;simp;omega
  ·exact h.elim
 ·exact fnev h
 ·split at h
  ·exact fnevS h
  ·exact fnevS h
  ·exact h.elim
 ·subst h;intro j ob hj;simp at hj;simp;omega
 ·split at h
  ·split at h
   ·subst h;simp at hr
   ·exact h.elim
  ·exact h.elim
 ·split at h
  ·subst h;simp at hr
  ·split at h
   ·subst h;simp at hr
   ·exact h.elim
  ·exact h.elim
 ·rename_i op;exact absurd hr (by rw [zdT h];simp)
 ·exact h.elim
theorem z6M {base:Nat} {st:St} {aop:AOp} {out:Out} (h:evX P base st (· =out) aop∨evY base st (· =out) aop) (hr:out.rd=false):∀k o,(k,o)∈out.ob->base<=k/\k<base+out.n:=by
 rcases h with h|⟨o',h,rfl⟩
 ·exact zds h hr
 ·cases h with
  |zaH _=>intro j ob hj;simp at hj;simp;omega
  |_=>simp at hr
theorem z5f {base:Nat} {st:St} {ao:AO} {out:Out} (h:evO P base st ao (· =out)) (hr:out.rd=false):∀k o,(k,o)∈out.ob->base<=k/\k<base+out.n:=by
 unfold evO at h;split at h
 ·unfold evU at h;split at h
  ·obtain ⟨_,rfl⟩:=h;intro j ob hj;simp at hj
  ·exact z6M h hr
 ·split at h
  ·exact h.elim
  ·rename_i gc _;split at h
   ·obtain ⟨_,rfl⟩:=h;intro j ob hj;simp at hj
   ·rcases h with h|h
    ·unfold Q2 at h;split at h
     ·obtain ⟨out0,_,⟨k2,_⟩,rfl⟩:=h;intro j ob hj;simp [k2] at hj
     ·exact h.elim
    cases gc with
    |true=>exact z6M (h.1 rfl) hr
    |false=>have:=h.2 rfl;subst this;intro j ob hj;simp at hj
theorem Wz:∀(os:List Out) (j:Nat) (o:Out),os[j]?=some o->(flags os).getD j (false,false)=(o.rd,!o.ob.isEmpty||decide (0<o.n))
 |[],j,o,h=>by simp at h
 |p::r,0,o,h=>by simp at h;subst h;rfl
 |p::r,j+1,o,h=>by simp only [flags,List.getD_cons_succ];exact Wz r j o (by simpa using h)
theorem wL:∀(os:List Out) (j:Nat) (o:Out),os[j]?=some o->wg (os.take (j+1))=wg (os.take j)+o.n
 |[],j,o,h=>by simp at h
 |p::r,0,o,h=>by simp at h;subst h;simp [wg]
 |p::r,j+1,o,h=>by have:=wL r j o (by simpa using h);simp [wg,this];omega
theorem yv:∀(os:List Out) (i j:Nat),i<=j->wg (os.take i)<=wg (os.take j)
 |[],i,j,_=>by simp
 |p::r,0,j,_=>by simp [wg]
 |p::r,i+1,0,h=>by omega
 |p::r,i+1,j+1,h=>by have:=yv r i j (by omega);simp [wg];omega
theorem z5E (os:List Out) (j:Nat):wg (os.take j)<=wg os:=by
 rcases Nat.le_total j os.length with h|h
 ·have:=yv os j os.length h;rwa [w1f] at this
 ·rw [w0w h];exact w07 _
def dOf (listed:Array Bool):Nat->Bool:=fun j=>listed.getD j false
theorem zdL (listed:Array Bool) {i:Nat} (hi:i<listed.size) (j:Nat):dOf (listed.setIfInBounds i true) j=if j=i then true else dOf listed j:=by
 unfold dOf;simp only [w1o,Array.getElem?_setIfInBounds];by_cases e:i=j
 ·subst e;simp [hi]
 ·simp [e,Ne.symm e]
theorem mem_ready {listed:Array Bool} (hs:listed.size=ops.size) {i:Nat}:i∈Region.ready .any ops listed↔i<ops.size/\dOf listed i=false/\∀j∈(we ops).getD i [],dOf listed j=true:=by
 unfold Region.ready;rw [w2a,w2o];refine ⟨fun ⟨h1,h2⟩=>⟨h1,?_⟩,fun ⟨h1,h2,h3⟩=>⟨h1,?_⟩⟩
 all_goals
  have ho:ops[i]?=some ops[i]:=by simp [h1]
  have hg:(we ops).getD i []=(ops[i].after.toList.filter (Region.binds .any)).map (·.on):=by
   unfold we;rw [w0e,w0f];simp [h1]
 ·rw [ho] at h2;simp only [Option.map_some,w2q,w0a,w22,Array.all_eq_true'] at h2;refine ⟨?_,fun j hj=>?_⟩
  ·unfold dOf;have:=h2.1;simp only [w1o] at this⊢;rw [w2p (by omega)] at this⊢;simpa using this
  ·rw [hg,w1a] at hj;obtain ⟨e,he,rfl⟩:=hj;rw [w2a] at he;have:=h2.2 e (by simpa using he.1);simp only [he.2,Bool.not_true,w1x] at this;exact this
 ·rw [ho];simp only [Option.map_some,w2q,w0a,w22,Array.all_eq_true'];refine ⟨?_,fun e he=>?_⟩
  ·unfold dOf at h2;simp only [w1o] at h2⊢;rw [w2p (by omega)] at h2⊢;simpa using h2
  ·by_cases hb:Region.binds .any e=true
   ·have:=h3 e.on (by rw [hg,w1a];exact ⟨e,by rw [w2a];exact ⟨by simpa using he,hb⟩,rfl⟩);unfold dOf at this;simp [this]
   ·simp [hb]
def unl (D:Nat->Bool):Nat->Nat
 |0=>0
 |n+1=>unl D n+(if D n then 0 else 1)
theorem z6U {D:Nat->Bool}:∀{n:Nat},unl D n=0->∀j,j<n->D j=true
 |0,_,j,h=>by omega
 |n+1,h,j,hj=>by
  simp only [unl] at h;by_cases e:j=n
  ·subst e;by_cases hd:D j=true
   ·exact hd
   ·simp [hd] at h
  ·exact z6U (n:=n) (by omega) j (by omega)
theorem z6J {D D':Nat->Bool}:∀{n:Nat},(∀j,j<n->D' j=D j)->unl D' n=unl D n
 |0,_=>rfl
 |n+1,h=>by simp only [unl,h n (by omega),z6J (n:=n) (fun j hj=>h j (by omega))]
theorem z9n {D D':Nat->Bool} {i:Nat} (hi:D i=false) (hi':D' i=true) (h:∀j,j≠i->D' j=D j):∀{n:Nat},i<n->unl D' n+1=unl D n
 |0,hn=>by omega
 |n+1,hn=>by
  simp only [unl];by_cases e:i=n
  ·subst e;rw [z6J (D:=D) (D':=D') (fun j hj=>h j (by omega))];simp [hi,hi']
  ·have:=z9n hi hi' h (n:=n) (by omega);rw [h n (Ne.symm e)];omega
theorem z9u {D:Nat->Bool}:∀{n:Nat},(∀j,j<n->D j=false)->unl D n=n
 |0,_=>rfl
 |n+1,h=>by simp [unl,h n (by omega),z9u (n:=n) (fun j hj=>h j (by omega))]
theorem z9U {C:Ctx} (hC:C.P=P) (hd:z9A C ops) {aos:List AO} (hres:z1M P ops ops.toList=some aos) {Q:Exit->Act->World->Prop} {base b' m:Nat} {st st':St} {outs:List Out}
  (hch:Ch P base st aos outs b' st') (hind:indep aos (we ops) (flags outs) st'.env=true) (hm:b'<=m) (hno:∀k,base<=k->k<b'->zl st.s.sto k=none) (hq:∀(a':Act) (Λ':L),Rel C Λ' st' a'->Λ'.nxt=m->Q .normal a' Λ'.w):
  ∀(fuel:Nat) (listed:Array Bool) (Λ:L) (a:Act),listed.size=ops.size->unl (dOf listed) ops.size<=fuel->(∀i,dOf listed i=true->∀j∈(we ops).getD i [],dOf listed j=true)->
   Rel C Λ (stD (dOf listed) 0 st aos outs) a->Λ.nxt=m->
   (∀i o,outs[i]?=some o->dOf listed i=false->∀k,base+wg (outs.take i)<=k->k<base+wg (outs.take (i+1))->ya Λ k/\zl (stD (dOf listed) 0 st aos outs).s.sto k=none)->
   wpAny P .any ops Q fuel listed a Λ.w:=by
 obtain ⟨hlen,hat⟩:=Qb hres;obtain ⟨hlo,hb',hst',hev⟩:=Ch.at (i:=0) hch
 have hn:aos.length=ops.size:=by rw [←hlen];simp
 simp only [indep,w0a,w0m,w0n] at hind;obtain ⟨hlt,hpair⟩:=hind
 have hafter:∀i,∀j∈(we ops).getD i [],j<i:=by
  intro i j hj;rw [w0e] at hj
  cases hg:(we ops)[i]? with
  |none=>rw [hg] at hj;simp at hj
  |some l=>
   rw [hg] at hj;have:=hlt (l,i) (by rw [List.mem_zipIdx_iff_getElem?];simpa using hg) j (by simpa using hj);exact this
 have hpre:∀(i:Nat),i<=outs.length->∀k,zl (stD (fun l=>decide (l<i)) 0 st aos outs).s.sto k≠none->zl st.s.sto k≠none∨k<base+wg (outs.take i):=by
  intro i
  induction i using Nat.strongRecOn with
  |_ i ih=>
   intro hi k hk
   rcases z6W aos outs 0 st hk with h|⟨j,o,h1,h2,h3,x,h4⟩
   ·exact .inl h
   ·simp only [w0t,w0n] at h3;have hoj:=hev j aos[j] o (by simp [h2]) h1;simp only [w0t] at hoj
    rcases Ql hoj k x h4 with h|⟨_,h⟩
    ·rcases ih j h3 (by omega) k h with h|h
     ·exact .inl h
     ·right;have:=yv outs j i (by omega);omega
    ·right;have:=wL outs j o h1;have:=yv outs (j+1) i (by omega);omega
 have hall:∀(listed:Array Bool),listed.size=ops.size->Region.ready .any ops listed=[]->∀i,i<ops.size->dOf listed i=true:=by
  intro listed hs hr i
  induction i using Nat.strongRecOn with
  |_ i ih=>
   intro hi
   cases hD:dOf listed i with
   |true=>rfl
   |false=>
    exfalso;have:i∈Region.ready .any ops listed:=(mem_ready hs).2 ⟨hi,hD,fun j hj=>ih j (hafter i j hj) (by have:=hafter i j hj;omega)⟩;rw [hr] at this;simp at this
 have hfin:∀(listed:Array Bool) (Λ:L) (a:Act),(∀i,i<ops.size->dOf listed i=true)->Rel C Λ (stD (dOf listed) 0 st aos outs) a->Λ.nxt=m->Q .normal a Λ.w:=by
  intro listed Λ a hl hr hx;refine hq a Λ ?_ hx;rw [z5A (D':=fun _=>true) aos outs 0 st (fun j _ hj=>hl j (by omega)),←hst'] at hr;exact hr
 intro fuel
 induction fuel with
 |zero=>
  intro listed Λ a hs hu hcl hr hx _;have hl:=z6U (Nat.le_zero.1 hu);refine ⟨?_,hfin listed Λ a hl hr hx⟩
  cases hrd:Region.ready .any ops listed with
  |nil=>rfl
  |cons i r=>
   have:i∈Region.ready .any ops listed:=by rw [hrd];simp
   obtain ⟨h1,h2,_⟩:=(mem_ready hs).1 this;rw [hl i h1] at h2;cases h2
 |succ fuel ih=>
  intro listed Λ a hs hu hcl hr hx hfr;refine ⟨fun h0=>hfin listed Λ a (hall listed hs h0) hr hx,fun i hi=>?_⟩;obtain ⟨hi1,hi2,hi3⟩:=(mem_ready hs).1 hi
  have hanc:=z3f hcl (we ops) [] [] rfl rfl (fun i _ j hj=>by simp at hj)
  have hia:i<aos.length:=by omega
  have hio:i<outs.length:=by omega
  have hao:aos[i]?=some aos[i]:=by simp [hia]
  have hou:outs[i]?=some outs[i]:=by simp [hio]
  have ho:ops[i]?=some ops[i]:=by simp [hi1]
  have hro:=hat i ops[i] aos[i] (by simp) hao
  have hord:∀j ao o,aos[j]?=some ao->outs[j]?=some o->j≠i->(decide (j<i)=dOf listed j)∨
    (ao.z1y aos[i]=false/\aos[i].z1y ao=false/\(outs[i].rd&&(!o.ob.isEmpty||decide (0<o.n))&&!(aos[i].wA&&!o.rd)&&!(aos[i].z1z&&!o.rd&&decide (i<j))&&!(z4Y aos st'.env i j))=false/\(o.rd&&(!outs[i].ob.isEmpty||decide (0<outs[i].n))&&!(ao.wA&&!outs[i].rd)&&!(ao.z1z&&!outs[i].rd&&decide (j<i))&&!(z4Y aos st'.env j i))=false):=by
   intro j ao o hj ho' hne;have hjl:=(w02.1 hj).1
   have e1:aos.getD j ⟨none,none,.cst .top⟩=ao:=by rw [w0e,hj];rfl
   have e2:aos.getD i ⟨none,none,.cst .top⟩=aos[i]:=by rw [w0e,hao];rfl
   have clash_symm:∀x y:AO,x.z1y y=false->y.z1y x=false:=by
    intro x y h;unfold AO.z1y at h⊢;simp only [w21] at h⊢;exact ⟨⟨h.1.2,h.1.1⟩,⟨h.2.2,h.2.1⟩⟩
   rcases Nat.lt_or_gt_of_ne hne with hlt|hlt
   ·have hp:=hpair i (w2o.2 hia) j (w2o.2 hlt);unfold z8c at hp;rw [Wz outs j o ho',Wz outs i outs[i] hou,e1,e2] at hp;simp only [w2j,w0a,w22] at hp
    rcases hp with hp|⟨⟨h1,h2⟩,h3⟩
    ·left;rw [hanc i hi3 j hp];simpa using hlt
    ·right;refine ⟨h1,clash_symm _ _ h1,?_,?_⟩
     ·rw [show decide (i<j)=false from decide_eq_false (by omega),Bool.and_false,w2e,w2l];exact h3
     ·rw [show decide (j<i)=true from decide_eq_true hlt,w2l];exact h2
   ·have hp:=hpair j (w2o.2 hjl) i (w2o.2 hlt);unfold z8c at hp;rw [Wz outs j o ho',Wz outs i outs[i] hou,e1,e2] at hp;simp only [w2j,w0a,w22] at hp
    rcases hp with hp|⟨⟨h1,h2⟩,h3⟩
    ·left
     cases hD:dOf listed j with
     |false=>simp;omega
     |true=>
      have:=hanc j (hcl j hD) i hp;rw [this] at hi2;cases hi2
    ·right;refine ⟨clash_symm _ _ h1,h1,?_,?_⟩
     ·rw [show decide (i<j)=true from decide_eq_true hlt,w2l];exact h2
     ·rw [show decide (j<i)=false from decide_eq_false (by omega),Bool.and_false,w2e,w2l];exact h3
  have hoffs:∀a b:Nat,∀ha:a<aos.length,aos[a].wA=false->z4Y aos st'.env a b=false:=by
   intro a b ha hn
   cases ho:z4Y aos st'.env a b with
   |false=>rfl
   |true=>
    obtain ⟨k1,q1,g1,_,_⟩:=z6C ho
    have e1:aos.getD a ⟨none,none,.cst .top⟩=aos[a]:=by rw [w0e];simp [ha]
    rw [e1] at g1;rw [(z4z g1).1] at hn;cases hn
  have hend:∀(a t:Nat),a<=aos.length->(∀o∈aos.drop a,o.dst≠some t)->look (stD (fun l=>decide (l<a)) 0 st aos outs).env t=look st'.env t:=by
   intro a t ha hw;rw [hst'];refine z30 aos outs 0 st st (fun j ao hj hdst=>?_) Z;simp only [w0t,w0n];apply Classical.byContradiction;intro hlt;refine hw ao ?_ hdst;rw [w0y];refine ⟨j - a,?_⟩;rw [w0z]
   have:a+(j - a)=j:=by omega
   rw [this];exact hj
  have hself:decide (i<i)=dOf listed i:=by rw [hi2];simp
  have hidx:∀j:Nat,∃o:Out,∀ao:AO,aos[j]?=some ao->outs[j]?=some o:=by
   intro j;by_cases hj:j<outs.length
   ·exact ⟨outs[j],fun _ _=>by simp [hj]⟩
   ·exact ⟨outs[i],fun ao h=>by have:=(w02.1 h).1;omega⟩
  have hevi:=hev i aos[i] outs[i] hao hou;simp only [w0t] at hevi
  have hlk:∀t∈aos[i].reads,look (stD (fun l=>decide (l<i)) 0 st aos outs).env t=look (stD (dOf listed) 0 st aos outs).env t:=by
   intro t ht;refine z30 aos outs 0 st st (fun j ao hj hdst=>?_) Z;simp only [w0t];by_cases e:j=i
   ·subst e;exact hself
   ·obtain ⟨o,hoo⟩:=hidx j
    rcases hord j ao o hj (hoo ao hj) e with h|⟨h,_⟩
    ·exact h
    ·unfold AO.z1y at h;simp only [w21] at h;have:=h.1.1;unfold AO.zfU at this;simp only [hdst,List.contains_eq_mem,w1u] at this;exact (this ht).elim
  have hevD:evO P (base+wg (outs.take i)) (stD (dOf listed) 0 st aos outs) aos[i] (· =outs[i]):=by
   by_cases hrd:outs[i].rd=true
   ·cases hnear:aos[i].wA with
    |false=>
     cases hcall:aos[i].z1z with
     |true=>
      refine zeq hcall hlk (fun k hk=>?_) hevi;refine (z3i aos outs 0 st st (fun j o hj hob=>?_) Z).symm;simp only [w0t];by_cases e:j=i
      ·subst e;exact hself
      ·have hjl:j<aos.length:=by rw [hlo];exact (w02.1 hj).1
       rcases hord j aos[j] o (by simp [hjl]) hj e with h|⟨_,_,h,_⟩
       ·exact h
       ·exfalso;obtain ⟨x,hx⟩:=hob
        have hne:o.ob.isEmpty=false:=by cases hh:o.ob with|nil=>rw [hh] at hx;simp at hx|cons _ _=>rfl
        have hof:=hoffs i j hia hnear;simp [hrd,hne,hnear,hof,hcall] at h;have hoj:=hev j aos[j] o (by simp [hjl]) hj;simp only [w0t] at hoj;have n1:=z5f hoj h.1 k x hx;have m1:=yv outs i j (by omega);omega
     |false=>
     refine z4l hlk (.inr (z8G aos outs 0 st st (fun j o hj hob=>?_) Z)) hevi;simp only [w0t];by_cases e:j=i
     ·subst e;exact hself
     ·have hjl:j<aos.length:=by rw [hlo];exact (w02.1 hj).1
      rcases hord j aos[j] o (by simp [hjl]) hj e with h|⟨_,_,h,_⟩
      ·exact h
      ·have hof:=hoffs i j hia hnear;simp [hrd,hob,hnear,hof,hcall] at h
    |true=>
     refine z7X hnear hlk hevi fun t ht k hnm hsome=>?_;refine z3i aos outs 0 st st (fun j o hj hob=>?_) Z;simp only [w0t];by_cases e:j=i
     ·subst e;exact hself
     ·have hjl:j<aos.length:=by rw [hlo];exact (w02.1 hj).1
      rcases hord j aos[j] o (by simp [hjl]) hj e with h|⟨_,_,h,_⟩
      ·exact h
      ·obtain ⟨x,hx⟩:=hob
       have hne:o.ob.isEmpty=false:=by cases hh:o.ob with|nil=>rw [hh] at hx;simp at hx|cons _ _=>rfl
       cases hof:z4Y aos st'.env i j with
       |true=>
        exfalso;obtain ⟨k1,q1,g1,g2,hne1⟩:=z6C hof
        have e1:aos.getD i ⟨none,none,.cst .top⟩=aos[i]:=by rw [w0e,hao];rfl
        have e2:aos.getD j ⟨none,none,.cst .top⟩=aos[j]:=by rw [w0e];simp [hjl]
        rw [e1] at g1;rw [e2] at g2;obtain ⟨_,a1⟩:=z4z g1;obtain ⟨a2,a3⟩:=a1 t ht
        have hk1:k=k1:=by
         obtain ⟨ps,_,hnm⟩:=hnm;rw [hend i t (by omega) a2] at hnm;exact a3 k ps hnm
        have hoj:=hev j aos[j] o (by simp [hjl]) hj;simp only [w0t] at hoj
        have hk2:k=q1:=by
         rcases z7T (P:=P) g2 with ⟨t2,b1,b2⟩|⟨d,b0,b1,b2⟩
         ·exact b2 _ _ _ (hend j t2 (by omega) b1) hoj k x hx
         ·refine b2 _ _ _ ?_ hoj k x hx;rw [←hend (j+1) d (by omega) (by rw [←List.tail_drop];exact b1)];have hjo:j<outs.length:=(w02.1 hj).1;have hs:=z7j aos outs 0 st j aos[j] o (by simp [hjl]) hj;simp only [w0t] at hs;rw [hs];simp only [St.app,b0,Yq,w0v]
        exact hne1 (hk1.symm.trans hk2)
       |false=>
        have hord':o.rd=false:=by simpa [hrd,hne,hnear,hof,z8h hnear] using h
        have hoj:=hev j aos[j] o (by simp [hjl]) hj;have n1:=z5f hoj hord' k x hx;have n2:=wL outs j o hj
        cases hD:dOf listed j with
        |false=>
         exfalso;have hf:=(hfr j o hj hD k n1.1 (by omega)).1;have hv:=hr.env t;rw [←hlk t ht] at hv;exact V.z8x hv hnm hf
        |true=>
         simp only [w0n]
         rcases Nat.lt_or_gt_of_ne e with h|h
         ·exact h
         ·exfalso;have m1:=yv outs i j (by omega);have m2:=z5E outs (j+1)
          rcases hpre i (by omega) k hsome with g|g
          ·exact g (hno k (by omega) (by omega))
          ·omega
   ·exact z4l hlk (.inl (by simpa using hrd)) hevi
  have hdst:aos[i].dst=ops[i].dst:=by
   have:=hro;unfold z3P at this;split at this
   ·cases this
   ·split at this
    ·simp only [w00] at this;rw [←this]
    ·split at this
     ·simp only [w00] at this;rw [←this]
     ·cases this
  have hsucc:=wL outs i outs[i] hou;have hle1:=z5E outs (i+1);refine (z7y ho hro hevD hC hr hd (by omega) (fun k k1 k2=>?_) fun v Λ' k1 k2 k3 k4 k5=>?_).2
  ·obtain ⟨f1,f2⟩:=hfr i outs[i] hou hi2 k k1 (by omega)
   exact ⟨by omega,f1,f2⟩
  ·have hr1:Rel C Λ' ((stD (dOf listed) 0 st aos outs).app aos[i].dst outs[i]) (a.put aos[i].dst v):=hr.step k1 (fun x hx=>hd i _ x ho (by rw [←hdst];exact hx)) k4 k3;have hset:=zdL listed (i:=i) (by omega)
   have heq:Eqv (stD (dOf (listed.setIfInBounds i true)) 0 st aos outs) ((stD (dOf listed) 0 st aos outs).app aos[i].dst outs[i]):=by
    refine z3o (n:=i) aos outs 0 st hao hou (by simpa using hi2) (by simp [hset]) (fun j hj=>by rw [hset];simp at hj;simp [hj]) (fun j bo p hb hp hlt hD=>?_)
    simp only [w0t] at hD
    rcases hord j bo p hb hp (by omega) with h|⟨h1,h2,h3,h4⟩
    ·rw [hD] at h;simp at h;omega
    ·refine ⟨fun x hx hbx=>?_,fun k x y hx hy=>?_⟩
     ·unfold AO.z1y at h2;simp only [w21] at h2;have:=h2.2.1;unfold AO.same at this;simp [hx,hbx] at this
     ·have hob:outs[i].ob.isEmpty=false:=by cases hh:outs[i].ob with|nil=>rw [hh] at hx;simp at hx|cons _ _=>rfl
      have hpb:p.ob.isEmpty=false:=by cases hh:p.ob with|nil=>rw [hh] at hy;simp at hy|cons _ _=>rfl
      have hni:aos[i].wA=false:=by
       cases hh:aos[i].wA with
       |false=>rfl
       |true=>have:=z8U hh hevi;rw [this] at hx;simp at hx
      have hnb:bo.wA=false:=by
       cases hh:bo.wA with
       |false=>rfl
       |true=>have:=z8U hh (hev j bo p hb hp);rw [this] at hy;simp at hy
      have hbl:j<aos.length:=(w02.1 hb).1;have hbe:aos[j]=bo:=(w02.1 hb).2;simp only [hpb,hni,hoffs i j hia hni,w2e,w2i,w2l,w15] at h3;simp only [hob,hnb,hoffs j i hbl (by rw [hbe];exact hnb),show decide (j<i)=false from decide_eq_false (by omega),Bool.and_false,w2e,w2i,w2l,w15] at h4;have n2:=z5f (hev j bo p hb hp) h4 k y hy;have m1:=yv outs (i+1) j (by omega);have m2:=z5E outs (j+1);have m3:=wL outs j p hp
      rcases Ql hevi k x hx with g|⟨_,g⟩
      ·rcases hpre i (by omega) k g with g|g
       ·exact g (hno k (by omega) (by omega))
       ·omega
      ·omega
   have hr2:=hr1.eqv heq.symm;rw [←hdst];have hnm:=Ql hevD;refine ih (listed.setIfInBounds i true) Λ' _ (by simpa using hs) ?_ (fun j hj l hl=>?_) hr2 (by omega) (fun j o hj hD k h1 h2=>?_)
   ·have:=z9n (D:=dOf listed) (D':=dOf (listed.setIfInBounds i true)) (i:=i) hi2 (by simp [hset]) (fun j hj=>by simp [hset,hj]) hi1
    omega
   ·rw [hset] at hj⊢;split
    ·rfl
    ·by_cases e:j=i
     ·subst e;exact hi3 l hl
     ·simp only [e,w0r] at hj;exact hcl j hj l hl
   ·rw [hset] at hD
    have hne:j≠i:=by rintro rfl;simp at hD
    simp only [hne,w0r] at hD;obtain ⟨f1,f2⟩:=hfr j o hj hD k h1 h2
    have hout:k<base+wg (outs.take i)∨base+wg (outs.take i)+outs[i].n<=k:=by
     rcases Nat.lt_or_gt_of_ne hne with h|h
     ·have:=yv outs (j+1) i (by omega);left;omega
     ·have:=yv outs (i+1) j (by omega);right;omega
    have hout':base+wg (outs.take i)+outs[i].n<=k∨(k<base+wg (outs.take i)/\(outs[i].rd=false∨aos[i].wA=true)):=by
     rcases hout with h|h
     ·right;refine ⟨h,?_⟩
      have hon:0<o.n:=by have:=wL outs j o hj;omega
      have hjl:j<aos.length:=by rw [hlo];exact (w02.1 hj).1
      rcases hord j aos[j] o (by simp [hjl]) hj hne with e|⟨_,_,e,_⟩
      ·rw [hD] at e;simp at e;have:=yv outs (i+1) j (by omega);omega
      ·cases hn1:outs[i].rd with
       |false=>exact .inl rfl
       |true=>
        cases hn2:aos[i].wA with
        |true=>exact .inr rfl
        |false=>
         rw [show decide (i<j)=false from decide_eq_false (by intro hlt;have:=yv outs (i+1) j (by omega);omega)] at e;simp [hn1,hn2,hon,hoffs i j hia hn2] at e
     ·exact .inl h
    exact ⟨k5 k f1 f2 hout',by rw [heq.sto];exact z2u hnm f2 hout _⟩
end
inductive YJ where
 |normal
 |exit (id:Nat)
 |ret
def Zx:Exit->Option YJ
 | .normal=>some .normal
 | .exit id=>some (.exit id)
 | .ret=>some .ret
 |_=>none
def codeOk (n:Nat):Code->Bool
 | .region _ ops _=>ops.all fun o=>match o.dst with|some d=>decide (d<n)|none=>true
 | .seq a b=>codeOk n a&&codeOk n b
 | .cond _ a b=>codeOk n a&&codeOk n b
 | .block _ c=>codeOk n c
 | .loop c=>codeOk n c
 | .scope c=>codeOk n c
 |_=>true
def We (live:List Nat):List (Nat×V)->List (Nat×V)
 |[]=>[]
 |(t,x)::r=>if live.contains t then (t,x)::We live r else We live r
theorem QR (live:List Nat):∀(e:List (Nat×V)) (t:Nat),look (We live e) t=look e t∨look (We live e) t= .top
 |[],t=> .inl rfl
 |(k,x)::r,t=>by
  simp only [We];by_cases hk:live.contains k=true
  ·simp only [hk,w0v];by_cases e:k=t
   ·subst e;left;simp [look,zl]
   ·have:=QR live r t;simpa [look,zl,e] using this
  ·simp only [hk,w0k,w0r];by_cases e:k=t
   ·subst e;right
    have:∀r:List (Nat×V),look (We live r) k= .top:=by
     intro r
     induction r with
     |nil=>rfl
     |cons h r ih=>
      obtain ⟨j,y⟩:=h;simp only [We];by_cases hj:live.contains j=true
      ·have hne:j≠k:=by rintro rfl;exact hk hj
       simp only [hj,w0v];simpa [look,zl,hne] using ih
      ·simp only [hj,w0k,w0r];exact ih
    exact this r
   ·have:=QR live r t;simpa [look,zl,e] using this
def z8p (C:Ctx) (Q:YJ->St->Prop):Exit->Act->World->Prop:=fun e a w=>∃x st Λ,Zx e=some x/\Q x st/\Rel C Λ st a/\Λ.nxt=st.s.nxt/\Λ.w=w
def Sat (P:Program) (n m:Nat) (c:zV) (st:St) (Q:YJ->St->Prop):Prop:=
 ∀(code:Code),Yv P code=some c.bare->codeOk n code=true->P.follows .mixedOrders=true->∀(C:Ctx) (Λ:L) (a:Act),C.P=P->C.n=n->C.Λ.nxt=m->Rel C Λ st a->Λ.nxt=st.s.nxt->
  code.wp P (z8p C Q) a Λ.w
section
variable {P:Program} {n m:Nat} {st:St} {Q:YJ->St->Prop}
theorem Sat.mono {c:zV} {Q':YJ->St->Prop} (h:Sat P n m c st Q) (hq:∀e st,Q e st->Q' e st):Sat P n m c st Q':=by
 intro code h1 h2 h3 C Λ a h4 h5 h6 h7 h8;exact wp_mono (h code h1 h2 h3 C Λ a h4 h5 h6 h7 h8) fun e a w ⟨x,s,Λ',k1,k2,k3⟩=>⟨x,s,Λ',k1,hq _ _ k2,k3⟩
theorem ZS {code:Code} {c:zV} (h:Yv P code=some c):
  match c with
  | .skip=>code= .skip
  | .region draw l after live=>∃id ops,code= .region id ops draw/\z1M P ops ops.toList=some l/\(draw=true->after=we ops)/\live=[]
  | .seq a b=>∃x y,code= .seq x y/\Yv P x=some a/\Yv P y=some b
  | .cond z a b=>∃c x y,code= .cond c x y/\opA c=some z/\Yv P x=some a/\Yv P y=some b
  | .block id a=>∃x,code= .block id x/\Yv P x=some a
  | .loop a=>∃x,code= .loop x/\Yv P x=some a
  | .exit id=>code= .exit id
  | .ret=>code= .ret
  | .scope a=>∃x,code= .scope x/\Yv P x=some a
  | .lbl=>∃l,code= .label l:=by
 cases code with
 |skip=>simp [Yv] at h;subst h;rfl
 |region id ops draw=>
  simp only [Yv] at h;split at h
  ·rename_i l hl;simp at h;subst h;refine ⟨id,ops,rfl,hl,fun hd=>?_,rfl⟩;simp [hd]
  ·cases h
 |seq a b=>
  simp only [Yv] at h;split at h
  ·rename_i x y h1 h2;simp at h;subst h;exact ⟨a,b,rfl,h1,h2⟩
  ·cases h
 |cond c a b=>
  simp only [Yv] at h;split at h
  ·rename_i z x y h1 h2 h3;simp at h;subst h;exact ⟨c,a,b,rfl,h1,h2,h3⟩
  ·cases h
 |block id c=>simp only [Yv,w05] at h;obtain ⟨x,h1,rfl⟩:=h;exact ⟨c,rfl,h1⟩
 |loop c=>simp only [Yv,w05] at h;obtain ⟨x,h1,rfl⟩:=h;exact ⟨c,rfl,h1⟩
 |exit id=>simp [Yv] at h;subst h;rfl
 |ret=>simp [Yv] at h;subst h;rfl
 |scope c=>simp only [Yv,w05] at h;obtain ⟨x,h1,rfl⟩:=h;exact ⟨c,rfl,h1⟩
 |label l=>simp [Yv] at h;subst h;exact ⟨l,rfl⟩
 |_=>simp [Yv] at h
theorem Sat.skip (h:Q .normal st):Sat P n m .skip st Q:=by
 intro code h1 h2 _ C Λ a h4 h5 h6 h7 h8;have:=ZS h1;simp only [zV.bare] at this;subst this;exact wp_skip ⟨.normal,st,Λ,rfl,h,h7,h8,rfl⟩
theorem Sat.lbl (h:Q .normal st):Sat P n m .lbl st Q:=by
 intro code h1 h2 _ C Λ a h4 h5 h6 h7 h8;have:=ZS h1;simp only [zV.bare] at this;obtain ⟨l,rfl⟩:=this;exact wp_label ⟨.normal,st,Λ,rfl,h,h7,h8,rfl⟩
theorem Sat.scope {a:zV} (h:Sat P n m a st Q):Sat P n m (.scope a) st Q:=by
 intro code h1 h2 h3 C Λ ac h4 h5 h6 h7 h8;have:=ZS h1;simp only [zV.bare] at this;obtain ⟨x,rfl,hx⟩:=this;simp only [codeOk] at h2;refine wp_scope_straight (wp_mono (h x hx h2 h3 C Λ ac h4 h5 h6 h7 h8) fun e a' w' hp=>?_);obtain ⟨z,st',Λ',k1,k2,k3,k4,rfl⟩:=hp
 cases e with
 |normal=>exact ⟨z,st',Λ',k1,k2,k3,k4,rfl⟩
 |exit id'=>exact ⟨z,st',Λ',k1,k2,k3,k4,rfl⟩
 |ret=>exact ⟨z,st',Λ',k1,k2,k3,k4,rfl⟩
 |goto l=>simp [Zx] at k1
 |panic c=>simp [Zx] at k1
 |outgrown=>simp [Zx] at k1
theorem Sat.ret (h:Q .ret st):Sat P n m .ret st Q:=by
 intro code h1 h2 _ C Λ a h4 h5 h6 h7 h8;have:=ZS h1;simp only [zV.bare] at this;subst this;exact wp_ret ⟨.ret,st,Λ,rfl,h,h7,h8,rfl⟩
theorem Sat.exit {id:Nat} (h:Q (.exit id) st):Sat P n m (.exit id) st Q:=by
 intro code h1 h2 _ C Λ a h4 h5 h6 h7 h8;have:=ZS h1;simp only [zV.bare] at this;subst this;exact wp_exit ⟨.exit id,st,Λ,rfl,h,h7,h8,rfl⟩
def z1C (K:St->Prop) (Q:YJ->St->Prop):YJ->St->Prop
 | .normal,st=>K st
 |e,st=>Q e st
theorem Sat.seq {a b:zV} (h:Sat P n m a st (z1C (fun st'=>Sat P n m b st' Q) Q)):Sat P n m (.seq a b) st Q:=by
 intro code h1 h2 h3 C Λ ac h4 h5 h6 h7 h8;have:=ZS h1;simp only [zV.bare] at this;obtain ⟨x,y,rfl,hx,hy⟩:=this;simp only [codeOk,w0a] at h2;refine wp_seq (wp_mono (h x hx h2.1 h3 C Λ ac h4 h5 h6 h7 h8) fun e a' w' hp=>?_);obtain ⟨z,st',Λ',k1,k2,k3,k4,rfl⟩:=hp
 cases e with
 |normal=>
  simp [Zx] at k1;subst k1;exact k2 y hy h2.2 h3 C Λ' a' h4 h5 h6 k3 k4
 |exit id=>simp [Zx] at k1;subst k1;exact ⟨_,st',Λ',rfl,k2,k3,k4,rfl⟩
 |ret=>simp [Zx] at k1;subst k1;exact ⟨_,st',Λ',rfl,k2,k3,k4,rfl⟩
 |goto l=>simp [Zx] at k1
 |panic c=>simp [Zx] at k1
 |outgrown=>simp [Zx] at k1
theorem Sat.cond {z:Ar} {a b:zV} {t:Bool} (hz:z.v st= .t (.bool t)) (h:Sat P n m (if t then a else b) st Q):Sat P n m (.cond z a b) st Q:=by
 intro code h1 h2 h3 C Λ ac h4 h5 h6 h7 h8;have:=ZS h1;simp only [zV.bare] at this;obtain ⟨c,x,y,rfl,hc,hx,hy⟩:=this;simp only [codeOk,w0a] at h2;have hv:=h7.opd hc;rw [hz] at hv;refine wp_cond hv.ZW.Yh ?_
 cases t with
 |true=>exact h x hx h2.1 h3 C Λ ac h4 h5 h6 h7 h8
 |false=>exact h y hy h2.2 h3 C Λ ac h4 h5 h6 h7 h8
def z6H (id:Nat) (Q:YJ->St->Prop):YJ->St->Prop
 | .exit id',st=>if id'=id then Q .normal st else Q (.exit id') st
 |e,st=>Q e st
theorem Sat.block {id:Nat} {a:zV} (h:Sat P n m a st (z6H id Q)):Sat P n m (.block id a) st Q:=by
 intro code h1 h2 h3 C Λ ac h4 h5 h6 h7 h8;have:=ZS h1;simp only [zV.bare] at this;obtain ⟨x,rfl,hx⟩:=this;simp only [codeOk] at h2;refine wp_block (wp_mono (h x hx h2 h3 C Λ ac h4 h5 h6 h7 h8) fun e a' w' hp=>?_);obtain ⟨z,st',Λ',k1,k2,k3,k4,rfl⟩:=hp
 cases e with
 |normal=>simp [Zx] at k1;subst k1;exact ⟨_,st',Λ',rfl,k2,k3,k4,rfl⟩
 |exit id'=>
  simp [Zx] at k1;subst k1;simp only [z6H] at k2;simp only [Exit.inBlock];split
  ·rename_i e;simp only [e,w0v] at k2;exact ⟨_,st',Λ',rfl,k2,k3,k4,rfl⟩
  ·rename_i e;simp only [e,w0r] at k2;exact ⟨_,st',Λ',rfl,k2,k3,k4,rfl⟩
 |ret=>simp [Zx] at k1;subst k1;exact ⟨_,st',Λ',rfl,k2,k3,k4,rfl⟩
 |goto l=>simp [Zx] at k1
 |panic c=>simp [Zx] at k1
 |outgrown=>simp [Zx] at k1
def zdW (P:Program) (c:Code) (Q:Exit->Act->World->Prop) (a:Act) (w:World):Prop:=
 ∀(b:Frame) (k:List Item) (cs:List Frame),∃e a' w',Q e a' w'/\Arrives P (lone (b.at a (.code c:: .inLoop c::k)) cs w) b k cs e a' w'
theorem zbL {c:Code} {Q:Exit->Act->World->Prop} {a:Act} {w:World} (h:zdW P c Q a w):(Code.loop c).wp P Q a w:=by
 intro b k cs;obtain ⟨e,a',w',hq,harr⟩:=h b k cs;exact ⟨e,a',w',hq,.of_steps (.one step_loop) harr⟩
theorem zaR {c:Code} {Q:Exit->Act->World->Prop} {a:Act} {w:World} (h:c.wp P (Exit.then (zdW P c Q) Q) a w):zdW P c Q a w:=by
 intro b k cs;obtain ⟨e,a₁,w₁,hq,harr⟩:=h b (.inLoop c::k) cs
 cases e with
 |normal=>
  obtain ⟨e₂,a₂,w₂,hq₂,harr₂⟩:=hq b k cs;exact ⟨e₂,a₂,w₂,hq₂,.of_steps (Steps.trans harr (.one step_inLoop)) harr₂⟩
 |exit id=>exact ⟨_,a₁,w₁,hq,.pass (x:= .inLoop c) rfl (fun _ _=> .inl (by simp)) harr⟩
 |goto l=>exact ⟨_,a₁,w₁,hq,.pass (x:= .inLoop c) rfl (fun _ _=> .inl (by simp)) harr⟩
 |ret=>exact ⟨_,a₁,w₁,hq,.pass (x:= .inLoop c) rfl (fun _ _=> .inl (by simp)) harr⟩
 |panic ch=>exact ⟨_,a₁,w₁,hq,.pass (x:= .inLoop c) rfl (fun _ _=> .inl (by simp)) harr⟩
 |outgrown=>exact ⟨_,a₁,w₁,hq,.pass (x:= .inLoop c) rfl (fun _ _=> .inl (by simp)) harr⟩
def z3J (P:Program) (n m:Nat) (c:zV) (st:St) (Q:YJ->St->Prop):Prop:=
 ∀(code:Code),Yv P code=some c.bare->codeOk n code=true->P.follows .mixedOrders=true->∀(C:Ctx) (Λ:L) (a:Act),C.P=P->C.n=n->C.Λ.nxt=m->Rel C Λ st a->Λ.nxt=st.s.nxt->
  zdW P code (z8p C Q) a Λ.w
theorem Sat.loop {c:zV} (h:z3J P n m c st Q):Sat P n m (.loop c) st Q:=by
 intro code h1 h2 h3 C Λ ac h4 h5 h6 h7 h8;have:=ZS h1;simp only [zV.bare] at this;obtain ⟨x,rfl,hx⟩:=this;simp only [codeOk] at h2;exact zbL (h x hx h2 h3 C Λ ac h4 h5 h6 h7 h8)
theorem z3J.wQ {c:zV} (h:Sat P n m c st (z1C (fun st'=>z3J P n m c st' Q) Q)):z3J P n m c st Q:=by
 intro code h1 h2 h3 C Λ ac h4 h5 h6 h7 h8;refine zaR (wp_mono (h code h1 h2 h3 C Λ ac h4 h5 h6 h7 h8) fun e a' w' hp=>?_);obtain ⟨z,st',Λ',k1,k2,k3,k4,rfl⟩:=hp
 cases e with
 |normal=>
  simp [Zx] at k1;subst k1;exact k2 code h1 h2 h3 C Λ' a' h4 h5 h6 k3 k4
 |exit id=>simp [Zx] at k1;subst k1;exact ⟨_,st',Λ',rfl,k2,k3,k4,rfl⟩
 |ret=>simp [Zx] at k1;subst k1;exact ⟨_,st',Λ',rfl,k2,k3,k4,rfl⟩
 |goto l=>simp [Zx] at k1
 |panic c=>simp [Zx] at k1
 |outgrown=>simp [Zx] at k1
theorem Sat.QA {c:zV} {st':St} (k:Nat) (h:Sat P n m c st' Q) (h1:m<=k) (h2:k<=st.s.nxt) (h3:k<=st'.s.nxt) (he:LeE k st'.s.nxt st.env st'.env) (hs:LeS k st'.s.nxt st.s.sto st'.s.sto):Sat P n m c st Q:=by
 intro code e1 e2 e3 C Λ a e4 e5 e6 e7 e8;exact h code e1 e2 e3 C (Λ.cut k st'.s.nxt) a e4 e5 e6 (e7.QA (by omega) (by omega) h3 he hs) Z
theorem z3J.QA {c:zV} {st':St} (k:Nat) (h:z3J P n m c st' Q) (h1:m<=k) (h2:k<=st.s.nxt) (h3:k<=st'.s.nxt) (he:LeE k st'.s.nxt st.env st'.env) (hs:LeS k st'.s.nxt st.s.sto st'.s.sto):z3J P n m c st Q:=by
 intro code e1 e2 e3 C Λ a e4 e5 e6 e7 e8;exact h code e1 e2 e3 C (Λ.cut k st'.s.nxt) a e4 e5 e6 (e7.QA (by omega) (by omega) h3 he hs) Z
def z1F (live:List Nat) (b:Nat) (st:St):St:={env:=We live st.env,s:={st.s with nxt:=b}}
theorem Rel.yq {C:Ctx} {Λ:L} {a:Act} (h:Rel C Λ st a) (live:List Nat) (b:Nat):Rel C Λ (z1F live b st) a:=by
 refine ⟨h.kp,h.size,h.defers,fun t=>?_,⟨h.s.sto,h.s.inj,h.s.new,h.s.bnd,h.s.frz,h.s.wF,h.s.wh,h.s.z22⟩⟩
 rcases QR live st.env t with e|e
 ·simp only [z1F,e];exact h.env t
 ·simp only [z1F,e];exact .top
def z4g (draw:Bool) (ops:List AO) (after:List (List Nat)) (fl:List (Bool×Bool)) (env:List (Nat×V)):Prop:=draw=true->indep ops after fl env=true
theorem Sat.region {draw:Bool} {ops:List AO} {after:List (List Nat)} {live:List Nat} (h:evR P st.s.nxt st ops [] (fun b st' fl=>z4g draw ops after fl st'.env/\Q .normal (z1F live b st'))):Sat P n m (.region draw ops after live) st Q:=by
 intro code h1 h2 h3 C Λ a h4 h5 h6 h7 h8;have:=ZS h1;simp only [zV.bare] at this;obtain ⟨id,os,rfl,hres,haft,_⟩:=this;obtain ⟨outs,b',st',hch,hok,hq⟩:=z18 h;simp only [w1y] at hok
 have hd:z9A C os:=by
  intro j p d hp hpd;simp only [codeOk,Array.all_eq_true'] at h2;have:=h2 p (Array.mem_of_getElem? hp);rw [hpd] at this;rw [h5];simpa using this
 have hle:=Ch.le hch;have hr':=h7.up (m:=b') (by omega)
 have hfree:∀k,st.s.nxt<=k->ya Λ k/\zl st.s.sto k=none:=by
  intro k hk;refine ⟨h7.s.free (by omega),?_⟩
  cases ha:zl st.s.sto k with
  |none=>rfl
  |some o=>have:=(h7.s.sto k o ha).1;omega
 have hfin:∀(a':Act) (Λ':L),Rel C Λ' st' a'->Λ'.nxt=b'->z8p C Q .normal a' Λ'.w:=fun a' Λ' k1 k2=>⟨.normal,_,Λ',rfl,hq,k1.yq live b',k2,rfl⟩;obtain ⟨hlen,_⟩:=Qb hres
 cases draw with
 |false=>
  refine wp_region ?_;have:=z5M (Q:=z8p C Q) h4 hd hres b' ops 0 st.s.nxt st outs (Λ.up b') a rfl hch hr' rfl (w07 _) (fun k k1 k2=>⟨⟨(hfree k k1).1.obj,(hfree k k1).1.arr,(hfree k k1).1.fro,(hfree k k1).1.fob,(hfree k k1).1.far,(hfree k k1).1.frf⟩,(hfree k k1).2⟩) hfin;rw [List.range_eq_range'];rw [←hlen,w1m] at this;exact this
 |true=>
  refine wp_region_any h3 ?_;rw [haft rfl] at hok
  have h0:∀j,dOf (Array.replicate os.size false) j=false:=by
   intro j;unfold dOf;simp [w1o,Array.getElem?_replicate]
   split<;>rfl
  have hst0:stD (dOf (Array.replicate os.size false)) 0 st ops outs=st:=qQ _ _ _ _ (fun j _=>h0 j)
  have hdrew:Rel C {Λ.up b' with w:={Λ.w with drawn:=Λ.w.drawn+1}} st a:=by
   have hk:Kp (Λ.up b') {Λ.up b' with w:={Λ.w with drawn:=Λ.w.drawn+1}}:=
    ⟨⟨rfl,rfl,rfl,w07 _,fun _ _ _ h=>⟨h,rfl⟩,fun _ _ _ _ h o ho=>⟨by simp [Rd,h,ho],rfl⟩,fun _ _ _ _ _ h o ho=>⟨by simp [Rd,h,ho],rfl⟩⟩,w07 _,fun _ _ _ h=>h,fun _ _ _ _ _ h _=>⟨h,rfl⟩,fun _ _=>w07 _,fun _ _ _ _ h=>⟨h,fun _ h=>h⟩,fun _ _ _ _ _ _ h _=>⟨h,rfl⟩,fun _ _ _=>w07 _,fun _ _ _ _ _ _ h=>h⟩
   refine ⟨hr'.kp.trans hk,hr'.size,hr'.defers,fun t=>(hr'.env t).mono hk,hr'.s.step hk Z (fun k o ho=> .inl ⟨ho,fun _ _=>rfl,rfl⟩) hr'.s.inj hr'.s.new hr'.s.bnd hr'.s.frz ⟨fun _ _ _=>Iff.rfl,fun _ _ _ _=>Iff.rfl,rfl,fun _ _ _ _=>rfl,fun _ _ _ _ _ _=>rfl⟩⟩
  have:=z9U (Q:=z8p C Q) h4 hd hres hch (hok rfl) (w07 _) (fun k k1 _=>(hfree k (by omega)).2) hfin os.size (Array.replicate os.size false) {Λ.up b' with w:={Λ.w with drawn:=Λ.w.drawn+1}} a (by simp) (by rw [z9u (fun j _=>h0 j)];exact w07 _)
   (fun i hi=>by rw [h0] at hi;cases hi) (by rw [hst0];exact hdrew) rfl (fun i o _ _ k k1 k2=>by
    rw [hst0]
    have hk:st.s.nxt<=k:=by omega
    exact ⟨⟨(hfree k hk).1.obj,(hfree k hk).1.arr,(hfree k hk).1.fro,(hfree k hk).1.fob,(hfree k hk).1.far,(hfree k hk).1.frf⟩,(hfree k hk).2⟩)
  exact this
end
inductive qy where
 |tmp (t:Nat)
 |cell (a:Nat) (ag:Bool) (n:Nat)
def z6S (P:Program):ResultVar->Option qy
 | .tmp t=>some (.tmp t)
 | .cell a t=>
  match ZO P t,P.underlying t with
  |some n,some _=>some (.cell a (Zd P t) n)
  |_,_=>none
def qy.v (st:St):qy->Option V
 | .tmp t=>some (look st.env t)
 | .cell a ag n=>
  match look st.env a with
  | .ptr k o=>
   match zl st.s.sto k with
   |some (.cells cs)=>if ag then (if o+n<=cs.length then some (.agg ((cs.drop o).take n)) else none) else cs[o]?
   |_=>none
  |_=>none
def z1S (st:St):List qy->Option V
 |[]=>some (.tup [])
 |[r]=>r.v st
 |[r,q]=>match r.v st,q.v st with|some x,some y=>some (.tup [x,y])|_,_=>none
 |[r,q,p]=>match r.v st,q.v st,p.v st with|some x,some y,some z=>some (.tup [x,y,z])|_,_,_=>none
 |_=>none
def z9 (P:Program) (f:FuncId):Option (Nat×zV×List qy):=
 match P.funcs[f]? with
 |some fn=>
  match fn.body with
  |some c=>
   match Yv P c,fn.results.toList.mapM (z6S P) with
   |some a,some rs=>if codeOk fn.ntmps c&&!(fn.name== "runtime.NumGoroutine") then some (fn.ntmps,a,rs) else none
   |_,_=>none
  |none=>none
 |none=>none
def qZ:Nat->List V->List (Nat×V)
 |_,[]=>[]
 |i,x::r=>(i,x)::qZ (i+1) r
theorem z3E:∀(vs:List V) (i t:Nat),look (qZ i vs) t=if i<=t then (vs[t - i]?).getD .top else .top
 |[],i,t=>by simp [qZ,look,zl]
 |x::r,i,t=>by
  simp only [qZ];by_cases e:i=t
  ·subst e;simp [look,zl]
  ·have:=z3E r (i+1) t;simp only [look,zl,e,w0r] at this⊢;rw [this];by_cases h:i<=t
   ·have:t - i=(t - (i+1))+1:=by omega
    rw [w0c (by omega),w0c h,this];simp
   ·rw [w0d (by omega),w0d h]
def z6 (P:Program) (f:FuncId) (vs:List V) (s:S) (out:Out):Prop:=
 zfx P f/\∀(Λ:L) (args:Array Value),Z7 Λ s->Λ.nxt=s.nxt->args.size=vs.length->(∀(j:Nat) (v:Value) (x:V),args[j]?=some v->vs[j]?=some x->zy Λ v x)->
  Calls P f args Λ.w fun e w'=>∃v Λ',e= .returned v/\Λ'.w=w'/\Kp Λ Λ'/\Λ'.nxt=s.nxt+out.n/\Z7 Λ' ⟨Zr s.sto out.ob,0⟩/\zy Λ' v out.v
def LeR (m:Nat) (s:S) (r r':V):Prop:=∀(Λ:L) (v:Value),m<=Λ.nxt->Z7 Λ s->zy Λ v r->zy (Λ.cut m m) v r'
theorem LeR.le {m:Nat} {s:S} {r r':V} (h:LeX m m r r'):LeR m s r r':=fun _ _ hm _ hr=>h.cut (w07 _) hm hr
inductive z8g (m:Nat) (s:S):List V->List V->Prop
 |nil:z8g m s [] []
 |cons {x y:V} {xs ys:List V} (h:LeR m s x y) (t:z8g m s xs ys):z8g m s (x::xs) (y::ys)
theorem z8g.spec {m:Nat} {s:S} {xs ys:List V} (h:z8g m s xs ys):xs.length=ys.length/\∀(j:Nat) (c d:V),xs[j]?=some c->ys[j]?=some d->LeR m s c d:=by
 induction h with
 |nil=>exact ⟨rfl,fun j c d h=>by simp at h⟩
 |cons h _ ih=>
  refine ⟨by simp [ih.1],fun j c d h1 h2=>?_⟩
  cases j with
  |zero=>simp at h1 h2;subst h1;subst h2;exact h
  |succ j=>exact ih.2 j c d (by simpa using h1) (by simpa using h2)
theorem LeR.tup {m:Nat} {s:S} {xs ys:List V} (h:z8g m s xs ys):LeR m s (.tup xs) (.tup ys):=by
 intro Λ v hm hr hv;obtain ⟨h1,h2⟩:=h.spec
 cases hv with
 |tup hs hv=>
  refine .tup (hs.trans h1) fun j u d hj hd=>?_
  have hlt:j<xs.length:=by rw [h1];exact (w02.1 hd).1
  exact h2 j xs[j] d (by simp [hlt]) hd Λ u hm hr (hv j u _ hj (by simp [hlt]))
theorem LeR.agg {m:Nat} {s:S} {xs ys:List V} (h:z8g m s xs ys):LeR m s (.agg xs) (.agg ys):=by
 intro Λ v hm hr hv;obtain ⟨h1,h2⟩:=h.spec
 cases hv with
 |agg hs hv=>
  refine .agg (hs.trans h1) fun j u d hj hd=>?_
  have hlt:j<xs.length:=by rw [h1];exact (w02.1 hd).1
  exact h2 j xs[j] d (by simp [hlt]) hd Λ u hm hr (hv j u _ hj (by simp [hlt]))
section
variable {P:Program}
def zfP (tmps:Array Value):ResultVar->Sem Value
 | .tmp t=>pure (tmps.getD t undef)
 | .cell a t=>do loadVar t (←asAddr (tmps.getD a undef))
theorem QO (fn:Func) (tmps:Array Value):results fn tmps=(do let vs ←fn.results.mapM (zfP tmps);pure (if h:vs.size=1 then vs[0] else .tuple vs)):=by
 unfold results;congr 2
theorem Qf {C:Ctx} {Λ:L} {st:St} {a:Act} (hr:Rel C Λ st a) {rv:ResultVar} {r:qy} {x:V} (h1:z6S P rv=some r) (h2:r.v st=some x):
  ∃v,(zfP a.tmps rv).run P Λ.w= .ok v Λ.w/\zy Λ v x:=by
 cases rv with
 |tmp t=>simp [z6S] at h1;subst h1;simp [qy.v] at h2;subst h2;exact ⟨_,rfl,hr.env t⟩
 |cell ad t=>
  simp only [z6S] at h1;split at h1
  ·rename_i n d hn hu;simp at h1;subst h1;simp only [qy.v] at h2;split at h2
   ·rename_i k o hl;split at h2
    ·rename_i cs hk;have hx:=hr.env ad;rw [hl] at hx;simp only [zfP];generalize a.tmps.getD ad undef=u at hx⊢
     cases hx with
     |@ptr b _ _ _ hb=>
      obtain ⟨arr,e,e1,e2,e3⟩:=hr.s.qB hk hb;split at h2
      ·rename_i hag;split at h2
       ·rename_i hle;simp at h2;subst h2
        have hvl:((arr.toList.drop o).take n).length=n:=by simp;omega
        have hcell:∀(j:Nat) (v:Value),((arr.toList.drop o).take n)[j]?=some v->Λ.w.cell? ⟨b,o+j,none⟩=some v:=by
         intro j v hj;rw [w0p] at hj;split at hj
         ·rw [w0z] at hj;rw [cell_of_row Λ.w b _ arr e _ e1];simpa using hj
         ·cases hj
        have:=YH (P:=P) hn hag hvl hcell;simp [Instr.loadAt,Instr.sureAddr] at this
        exact ⟨.agg ((arr.toList.drop o).take n).toArray,by simp [asAddr,this],zy.zf4 (vs:=arr.toList) (fun j v c a1 a2=>e3 j v c (by simpa using a1) a2) (by simpa using e2) o n⟩
       ·cases h2
      ·rename_i hag;have hlt:o<cs.length:=(w02.1 h2).1
       have hcell:Λ.w.cell? ⟨b,o,none⟩=some (arr[o]'(by omega)):=by rw [cell_of_row Λ.w b o arr e _ e1];simp [e2,hlt]
       have:=Yy (P:=P) hu (by simpa using hag) hcell;simp [Instr.loadAt,Instr.sureAddr] at this
       exact ⟨arr[o]'(by omega),by simp [asAddr,this],e3 o _ x (by simp) h2⟩
    ·cases h2
   ·cases h2
  ·cases h1
theorem z6G {C:Ctx} {Λ:L} {st:St} {a:Act} (hr:Rel C Λ st a) {fn:Func} {rs:List qy} {x:V} (h1:fn.results.toList.mapM (z6S P)=some rs) (h2:z1S st rs=some x):
  ∃v,(results fn a.tmps).run P Λ.w= .ok v Λ.w/\zy Λ v x:=by
 have hmap:∀(l:List ResultVar) (rs:List qy),l.mapM (z6S P)=some rs->l.length=rs.length/\∀(j:Nat) (x:ResultVar) (y:qy),l[j]?=some x->rs[j]?=some y->z6S P x=some y:=by
  intro l
  induction l with
  |nil=>intro c h;simp at h;subst h;simp
  |cons d cs ih=>
   intro c h;simp only [List.mapM_cons,w03,Option.pure_def,w01] at h;obtain ⟨y,hy,c',hc',h⟩:=h;simp at h;subst h;obtain ⟨i1,i2⟩:=ih c' hc'
   refine ⟨by simp [i1],fun j e z h1 h2=>?_⟩
   cases j with
   |zero=>simp at h1 h2;subst h1;subst h2;exact hy
   |succ j=>exact i2 j e z (by simpa using h1) (by simpa using h2)
 obtain ⟨k1,k2⟩:=hmap _ _ h1;unfold z1S at h2;split at h2
 ·simp at h2;subst h2
  have:fn.results=#[]:=by simpa using k1
  exact ⟨.tuple #[],by simp [results,this],.tup rfl (by simp)⟩
 ·rename_i r
  have:∃x0,fn.results=#[x0]:=by
   match hfn:fn.results.toList,k1 with
   |[x0],_=>exact ⟨x0,by apply w24;simpa using hfn⟩
  obtain ⟨x0,he⟩:=this;have hr0:=k2 0 x0 r (by simp [he]) rfl;obtain ⟨v,e1,e2⟩:=Qf hr hr0 h2;refine ⟨v,?_,e2⟩;rw [QO];simp [he,e1]
 ·rename_i r q
  have:∃x0 x1,fn.results=#[x0,x1]:=by
   match hfn:fn.results.toList,k1 with
   |[x0,x1],_=>exact ⟨x0,x1,by apply w24;simpa using hfn⟩
  obtain ⟨x0,x1,he⟩:=this;split at h2
  ·rename_i y0 y1 g0 g1;simp at h2;subst h2;obtain ⟨v0,a1,a2⟩:=Qf hr (k2 0 x0 r (by simp [he]) rfl) g0;obtain ⟨v1,b1,b2⟩:=Qf hr (k2 1 x1 q (by simp [he]) rfl) g1;refine ⟨.tuple #[v0,v1],?_,.tup Z fun j v c hv hc=>?_⟩
   ·rw [QO];simp [he,a1,b1]
   ·match j,hv,hc with
    |0,hv,hc=>simp at hv hc;subst hv;subst hc;exact a2
    |1,hv,hc=>simp at hv hc;subst hv;subst hc;exact b2
  ·cases h2
 ·rename_i r q p
  have:∃x0 x1 x2,fn.results=#[x0,x1,x2]:=by
   match hfn:fn.results.toList,k1 with
   |[x0,x1,x2],_=>exact ⟨x0,x1,x2,by apply w24;simpa using hfn⟩
  obtain ⟨x0,x1,x2,he⟩:=this;split at h2
  ·rename_i y0 y1 y2 g0 g1 g2;simp at h2;subst h2;obtain ⟨v0,a1,a2⟩:=Qf hr (k2 0 x0 r (by simp [he]) rfl) g0;obtain ⟨v1,b1,b2⟩:=Qf hr (k2 1 x1 q (by simp [he]) rfl) g1;obtain ⟨v2,c1,c2⟩:=Qf hr (k2 2 x2 p (by simp [he]) rfl) g2;refine ⟨.tuple #[v0,v1,v2],?_,.tup Z fun j v c hv hc=>?_⟩
   ·rw [QO];simp [he,a1,b1,c1]
   ·match j,hv,hc with
    |0,hv,hc=>simp at hv hc;subst hv;subst hc;exact a2
    |1,hv,hc=>simp at hv hc;subst hv;subst hc;exact b2
    |2,hv,hc=>simp at hv hc;subst hv;subst hc;exact c2
  ·cases h2
 ·cases h2
def z3W (m:Nat) (s:S) (sto':List (Nat×z5)):Prop:=∀(Λ:L),m<=Λ.nxt->Z7 Λ s->Z7 (Λ.cut m m) ⟨sto',0⟩
theorem z3W.le {m:Nat} {s:S} {sto':List (Nat×z5)} (h:LeS m m s.sto sto'):z3W m s sto':=fun _ hm hr=>hr.QA (s':=⟨sto',0⟩) hm (w07 _) h
def z5.bd (m:Nat):z5->Bool
 | .cells cs=>V.bds m cs
 | .map _ es _=>V.bds m (es.map (·.2))
 | .arr _=>true
 | .iter q _ _ _=>decide (q<m)
 | .gro _ cs=>V.bds m cs
 | .wo os=>os.all (V.bds m)
 | .Ya _=>true
 | .WM _ _=>true
def zP (m:Nat):List (Nat×z5)->Bool
 |[]=>true
 |(k,o)::r=>decide (k<m)&&o.bd m&&zP m r
theorem qX {m:Nat}:∀{s:List (Nat×z5)},zP m s=true->∀k o,zl s k=some o->k<m/\o.bd m=true
 |[],_,k,o,h=>by simp [zl] at h
 |(j,x)::r,hb,k,o,h=>by
  simp only [zP,w0a,w0n] at hb;by_cases e:j=k
  ·subst e;simp [zl] at h;subst h;exact ⟨hb.1.1,hb.1.2⟩
  ·simp only [zl,e,w0r] at h;exact qX hb.2 k o h
theorem WV.cut {Λ:L} {m m' k:Nat} {o:z5} (hm:m<=m') (hk:k<m) (hb:o.bd m=true) (h:WV Λ k o):WV (Λ.cut m m') k o:=by
 cases o with
 |cells cs=>
  obtain ⟨b,arr,e,e1,e2,e3,e4⟩:=h;exact ⟨b,arr,e,yr e1 hk,e2,e3,fun j v c a1 a2=>(e4 j v c a1 a2).cut hm (V.ZL (by simpa [z5.bd] using hb) j c a2)⟩
 |map kag es sx=>
  obtain ⟨b,ents,clock,e1,e2,e3⟩:=h;exact ⟨b,ents,clock,yr e1 hk,e2,e3.yq (fun _ _ h=>h.cut) (fun i kv v hi hv=>hv.cut hm (V.ZL (by simpa [z5.bd] using hb) i kv.2 (by simp [hi])))⟩
 |arr n=>unfold WV at*;simp [L.cut,hk,h]
 |iter q s seen c=>
  have hq:q<m:=by simpa [z5.bd] using hb
  obtain ⟨b,bm,e1,e2,e3,e4⟩:=h;exact ⟨b,bm,yr e1 hk,e2,yr e3 hq,w06 hq hm⟩
 |gro r cs=>
  obtain ⟨h0,hr⟩:=h
  refine ⟨by simp [L.cut,hk,h0],?_⟩
  rcases hr with ⟨e1,e2⟩|⟨b,arr,e,⟨i,e1,e1'⟩,e2,e3,e4⟩
  ·exact .inl ⟨e1,fun b i hb=>e2 b i (Z0 hb).1⟩
  ·exact .inr ⟨b,arr,e,⟨i,wG e1 hk,fun b' i' h'=>e1' b' i' (Z0 h').1⟩,e2,e3,fun j v c a1 a2=>(e4 j v c a1 a2).cut hm (V.ZL (by simpa [z5.bd] using hb) j c a2)⟩
 |wo os=>
  obtain ⟨h0,hr⟩:=h;refine ⟨fun b i hbi=>h0 b i (Z0 hbi).1,fun i cs hi=>?_⟩;obtain ⟨b,arr,e,e1,e2,e3,e4⟩:=hr i cs hi
  have hbs:V.bds m cs=true:=by
   have:=hb;simp only [z5.bd,w0m] at this;exact this cs (zMG hi)
  exact ⟨b,arr,e,wG e1 hk,e2,e3,fun j v c a1 a2=>(e4 j v c a1 a2).cut hm (V.ZL hbs j c a2)⟩
 |Ya ns=>intro i;have:=h i;simpa [L.cut,hk] using this
 |WM kag I=>
  obtain ⟨b,ents,clock,e1,e2,e3,e4,e5⟩:=h;refine ⟨b,ents,clock,yr e1 hk,e2,e3,e4,fun i e hi=>?_⟩;obtain ⟨cs,v,g1,g2,g3⟩:=e5 i e hi;exact ⟨cs,v,g1.yq fun _ _ h=>h.cut,g2.cut,g3⟩
theorem z3W.same {m:Nat} {s:S} {sto':List (Nat×z5)} (h:∀k o,zl sto' k=some o->zl s.sto k=some o/\k<m/\o.bd m=true):z3W m s sto':=by
 intro Λ hm hr
 refine ⟨fun k o hk=>?_,fun b b' k h1 h2=>hr.inj b b' k (Yr h1).1 (Yr h2).1,fun b hb=>z28 (hr.new b hb),fun b k hb=>?_,fun k hk=>by have hk':m<=k:=hk;simp [L.cut];omega,fun b b' k i h1 h2=>hr.wF b b' k i (Z0 h1).1 (Z0 h2).1,fun b k hb=>?_,fun k i hk=>by have hk':m<=k:=hk;simp [L.cut];omega⟩
 ·obtain ⟨h1,h2,h3⟩:=h k o hk;exact ⟨h2,(hr.sto k o h1).2.cut (w07 _) h2 h3⟩
 ·rcases hb with hb|⟨n,hb⟩
  ·exact (Yr hb).2
  ·exact (z1H hb).2
 ·rcases hb with ⟨i,hb⟩|⟨i,n,hb⟩
  ·exact (Z0 hb).2
  ·exact (z1X hb).2
def z4 (s:S) (out:Out) (rs:List qy):YJ->St->Prop
 | .exit _,_=>False
 |_,st=>∃r,z1S st rs=some r/\s.nxt+out.n<=st.s.nxt/\LeR (s.nxt+out.n) st.s r out.v/\z3W (s.nxt+out.n) st.s (Zr s.sto out.ob)
theorem z6j {f:FuncId} {n:Nat} {ac:zV} {rs:List qy} (h:z9 P f=some (n,ac,rs)):∃fn c,P.funcs[f]?=some fn/\fn.body=some c/\Yv P c=some ac/\fn.results.toList.mapM (z6S P)=some rs/\codeOk n c=true/\fn.ntmps=n/\zfx P f:=by
 unfold z9 at h;split at h
 ·rename_i fn hfn;split at h
  ·rename_i c hc;split at h
   ·rename_i a r h1 h2;split at h
    ·rename_i hok;simp at h;obtain ⟨rfl,rfl,rfl⟩:=h;simp only [w0a,w22] at hok;refine ⟨fn,c,hfn,hc,h1,h2,hok.1,rfl,fun args w=>?_⟩;simp only [callFunc];simp [program,Sem.run,hfn,hc];have:=hok.2;simp at this;simp [this]
    ·cases h
   ·cases h
  ·cases h
 ·cases h
theorem z6.zfN {f:FuncId} {n:Nat} {ac:zV} {rs:List qy} {vs:List V} {s:S} {out:Out} (hi:z9 P f=some (n,ac.bare,rs)) (hm:P.follows .mixedOrders=true) (hn:vs.length<=n)
  (h:Sat P n s.nxt ac {env:=qZ 0 vs,s:=s} (z4 s out rs)):z6 P f vs s out:=by
 obtain ⟨fn,c,h1,h2,h3,h4,h5,h6,h7⟩:=z6j hi;refine ⟨h7,fun Λ args hs hx hsz hargs=>?_⟩;refine calls_of_wp h1 h2 ?_
 have hrel:Rel {P:=P,n:=n,Λ:=Λ} Λ {env:=qZ 0 vs,s:=s} {tmps:=args++Array.replicate (fn.ntmps - args.size) undef,defers:=[]}:=by
  refine ⟨Kp.refl _,by simp [h6];omega,rfl,fun t=>?_,hs⟩
  simp only;rw [z3E,w0c (Nat.zero_le _),Nat.sub_zero]
  cases hv:vs[t]? with
  |none=>exact .top
  |some x=>
   have hlt:t<args.size:=by rw [hsz];exact (w02.1 hv).1
   have he:(args++Array.replicate (fn.ntmps - args.size) undef).getD t undef=args[t]:=by
    rw [w1o,w1r hlt];simp [hlt]
   rw [he];exact hargs t args[t] x (by simp [hlt]) hv
 refine wp_mono (h c h3 h5 hm {P:=P,n:=n,Λ:=Λ} Λ _ Z Z hx hrel hx) fun e a' w' hp=>?_;obtain ⟨x,st',Λ',k1,k2,k3,k4,rfl⟩:=hp
 have fin:(∃r,z1S st' rs=some r/\s.nxt+out.n<=st'.s.nxt/\LeR (s.nxt+out.n) st'.s r out.v/\z3W (s.nxt+out.n) st'.s (Zr s.sto out.ob))->
   a'.defers=[]/\∃v,(results fn a'.tmps).run P Λ'.w= .ok v Λ'.w/\∃v' Λ'',Ending.returned v= .returned v'/\Λ''.w=Λ'.w/\Kp Λ Λ''/\Λ''.nxt=s.nxt+out.n/\Z7 Λ'' ⟨Zr s.sto out.ob,0⟩/\zy Λ'' v' out.v:=by
  rintro ⟨r,e1,e2,e3,e4⟩;obtain ⟨v,f1,f2⟩:=z6G k3 h4 e1;refine ⟨k3.defers,v,f1,v,Λ'.cut (s.nxt+out.n) (s.nxt+out.n),rfl,rfl,k3.kp.cut (by simp;omega) (w07 _),rfl,?_,e3 Λ' v (by omega) k3.s f2⟩;exact e4 Λ' (by omega) k3.s
 cases e with
 |normal=>simp [Zx] at k1;subst k1;exact fin k2
 |ret=>simp [Zx] at k1;subst k1;exact fin k2
 |exit id=>simp [Zx] at k1;subst k1;exact k2.elim
 |goto l=>simp [Zx] at k1
 |panic ch=>simp [Zx] at k1
 |outgrown=>simp [Zx] at k1
def L.qY (Λ:L):L where
 lab:=fun b=>match Λ.lab b with
  | .obj _=> .fix (some 0)
  | .arr _ fr=> .fix (some fr)
  | .fob _ _=> .fix (some 0)
  | .far _ _ fr=> .fix (some fr)
  |x=>x
 fro:=fun _=>0
 nxt:=0
 w:=Λ.w
 frf:=fun _ _=>0
theorem qK (Λ:L) (b:Nat):∃fr,Λ.qY.lab b= .fix fr:=by
 simp only [L.qY]
 cases Λ.lab b with
 |fix fr=>exact ⟨_,rfl⟩
 |obj k=>exact ⟨_,rfl⟩
 |arr k n=>exact ⟨_,rfl⟩
 |fob k i=>exact ⟨_,rfl⟩
 |far k i n=>exact ⟨_,rfl⟩
theorem z8I {Λ:L} {b o:Nat}:Rd Λ.qY.lab b o↔Rd Λ.lab b o:=by
 unfold Rd;simp only [L.qY]
 cases Λ.lab b with
 |fix fr=>exact Iff.rfl
 |obj k=>simp
 |arr k n=>simp
 |fob k i=>simp
 |far k i n=>simp
theorem zR.qY {Λ:L} {v:Value} {x:T} (h:zR Λ.lab Λ.w v x):zR Λ.qY.lab Λ.qY.w v x:=h.yq fun _ _ _ _ hr=>⟨z8I.2 hr,rfl⟩
theorem zy.qY {Λ:L} {v:Value} {x:V} (h:zy Λ v x) (hb:x.bd 0=true):zy Λ.qY v x:=by
 induction h with
 |t h=>exact .t h.qY
 |zJ=>exact .zJ
 |own _ _ _ _ _=>simp [V.bd] at hb
 |slc _ _ _=>simp [V.bd] at hb
 |agg hs _ ih=>exact .agg hs fun j v c h1 h2=>ih j v c h1 h2 (V.ZL (by simpa [V.bd] using hb) j c h2)
 |tup hs _ ih=>exact .tup hs fun j v c h1 h2=>ih j v c h1 h2 (V.ZL (by simpa [V.bd] using hb) j c h2)
 |ptr _ _=>simp [V.bd] at hb
 |mp _ _=>simp [V.bd] at hb
 |@fn f vs cs hs h=>
  refine .fn hs fun j v c h1 h2=>?_;simp only [V.bd,w0m] at hb;have:=hb c (zMG h2);simp at this
 |gd _ h' ih=>exact .gd (fun hc=>ih hc (by simpa [V.bd] using hb)) h'
 |top=>exact .top
 |ub h h'=>exact .ub h h'
 |fpt _ _=>simp [V.bd] at hb
 |gpt _ _ _ _=>simp [V.bd] at hb
 |gsl _ _ _ _=>simp [V.bd] at hb
 |fow _ _ _ _ _=>simp [V.bd] at hb
theorem Z7.qY {Λ:L} {sto:List (Nat×z5)} (h:Z7 Λ ⟨sto,Λ.nxt⟩):Z7 Λ.qY ⟨[],0⟩:=by
 refine ⟨by simp [zl],fun b b' k h1=>?_,fun b hb=>?_,fun b k hb=>?_,fun _ _=>rfl,fun b b' k i h1=>?_,fun b k hb=>?_,fun _ _ _=>rfl⟩
 ·obtain ⟨fr,e⟩:=qK Λ b;rw [e] at h1;simp at h1
 ·simp only [L.qY,h.new b hb]
 ·obtain ⟨fr,e⟩:=qK Λ b;rw [e] at hb;simp at hb
 ·obtain ⟨fr,e⟩:=qK Λ b;rw [e] at h1;simp at h1
 ·obtain ⟨fr,e⟩:=qK Λ b;rw [e] at hb;simp at hb
def L.back (Λ Λ':L):L where
 lab:=fun b=>if b<Λ.w.heap.size then Λ.lab b else Λ'.lab b
 fro:=Λ.fro
 nxt:=Λ.nxt
 w:=Λ'.w
 frf:=Λ.frf
theorem z6.pure {f:FuncId} {vs:List V} {x:V} {base:Nat} {s:List (Nat×z5)} (h:z6 P f vs ⟨[],0⟩ {v:=x}) (hb:V.bds 0 vs=true) (hx:x.bd 0=true):w4 P f vs base s {v:=x}:=by
 refine ⟨h.1,by simp,fun Λ args hs _ _ hsz hargs=>?_⟩
 refine (h.2 Λ.qY args hs.qY Z hsz fun j v y h1 h2=>(hargs j v y h1 h2).qY (V.ZL hb j y h2)).mono fun e w' he=>?_;obtain ⟨v,Λ',rfl,rfl,k1,k2,k3,k4⟩:=he;simp only [Zr,w1s] at k2 k3
 have hnl:∀b,∃fr,Λ'.lab b= .fix fr:=by
  intro b
  cases hl:Λ'.lab b with
  |fix fr=>exact ⟨fr,rfl⟩
  |obj k=>have:=k3.bnd b k (.inl hl);omega
  |arr k n=>have:=k3.bnd b k (.inr ⟨n,hl⟩);omega
  |fob k i=>have:=k3.wh b k (.inl ⟨i,hl⟩);omega
  |far k i n=>have:=k3.wh b k (.inr ⟨i,n,hl⟩);omega
 have hold:∀b,b<Λ.w.heap.size->Λ'.lab b=Λ.qY.lab b/\Λ'.w.heap[b]?=Λ.w.heap[b]?:=by
  intro b hb;obtain ⟨fr,e⟩:=qK Λ b;obtain ⟨e1,e2⟩:=k1.fr.fix b hb fr e
  exact ⟨by rw [e1,e],e2⟩
 have hlt:∀{b:Nat},b<Λ.w.heap.size->(Λ.back Λ').lab b=Λ.lab b:=fun h=>by simp [L.back,h]
 have hlow:∀{b:Nat} {x:Lab},Λ.lab b=x->x≠ .fix none->b<Λ.w.heap.size:=by
  intro b x hl hx
  rcases w1b b Λ.w.heap.size with h|h
  ·exact h
  ·rw [hs.new b h] at hl;exact absurd hl.symm hx
 have hinv:∀b,(∀fr,(Λ.back Λ').lab b≠ .fix fr)->(Λ.back Λ').lab b=Λ.lab b:=by
  intro b hb
  rcases w1b b Λ.w.heap.size with h|h
  ·exact hlt h
  ·exfalso;obtain ⟨fr,e⟩:=hnl b;exact hb fr (by simp [L.back,Nat.not_lt.2 h,e])
 have hinv':∀{b:Nat} {x:Lab},(Λ.back Λ').lab b=x->(∀fr,x≠ .fix fr)->Λ.lab b=x:=by
  intro b x hl hx;rw [←hl];exact (hinv b (fun fr e=>hx fr (hl.symm.trans e))).symm
 have hgo:∀{b:Nat} {x:Lab},Λ.lab b=x->x≠ .fix none->(Λ.back Λ').lab b=x/\(Λ.back Λ').w.heap[b]?=Λ.w.heap[b]?:=by
  intro b x hl hx;have hb:=hlow hl hx
  exact ⟨by rw [hlt hb];exact hl,(hold b hb).2⟩
 have hkp:Kp Λ (Λ.back Λ'):=by
  refine ⟨⟨k1.fr.os,k1.fr.tape,k1.fr.output,k1.fr.size,fun b hb fr hl=>⟨by rw [hlt hb];exact hl,(hold b hb).2⟩,fun b hb k fr hl o ho=>⟨by simp only [Rd,hlt hb,hl];exact ho,cell?_heap (hold b hb).2⟩,fun b hb k i fr hl o ho=>⟨by simp only [Rd,hlt hb,hl];exact ho,cell?_heap (hold b hb).2⟩⟩,w07 _,fun b k _ hl=>(hgo hl (by simp)).1,fun b k n _ hb hl _=>⟨by rw [hlt hb];exact hl,(hold b hb).2⟩,fun _ _=>w07 _,
   fun b k i _ hl=>⟨(hgo hl (by simp)).1,fun N hN=>by unfold ZG at hN⊢;rw [(hgo hl (by simp)).2];exact hN⟩,fun b k i n _ hb hl _=>hgo hl (by simp),fun _ _ _=>w07 _,fun b k i _ _ _ hl=>hinv' hl (by simp)⟩
 have hF:Ze Λ (Λ.back Λ'):=⟨fun b k i=>⟨fun hl=>hinv' hl (by simp),fun hl=>(hgo hl (by simp)).1⟩,fun b k i n=>⟨fun hl=>hinv' hl (by simp),fun hl=>(hgo hl (by simp)).1⟩,rfl,fun b k i hl=>(hgo hl (by simp)).2,fun b k i n _ hl=>(hgo hl (by simp)).2⟩;refine ⟨v,Λ.back Λ',rfl,rfl,hkp,rfl,?_,?_,fun k hk _ _=>hk.yq hF (fun b hb=>hk.obj b (hinv' hb (by simp))) (fun b n hb=>hk.arr b n (hinv' hb (by simp))) hk.fro⟩
 ·refine hs.step hkp Z (fun k o ho=> .inl ⟨ho,fun b hb=>(hgo hb (by simp)).2,rfl⟩) (fun b b' k h1 h2=>hs.inj b b' k (hinv' h1 (by simp)) (hinv' h2 (by simp))) (fun b hb=>?_) (fun b k hb=>?_) hs.frz hF
  ·have hsz:Λ.w.heap.size<=b:=w0u k1.fr.size hb
   have:(Λ.back Λ').lab b=Λ'.lab b:=by simp [L.back,Nat.not_lt.2 hsz]
   rw [this];exact k3.new b hb
  ·rcases hb with hb|⟨n,hb⟩
   ·exact hs.bnd b k (.inl (hinv' hb (by simp)))
   ·exact hs.bnd b k (.inr ⟨n,hinv' hb (by simp)⟩)
 ·have hrep:∀{u:Value} {y:T},zR Λ'.lab Λ'.w u y->zR (Λ.back Λ').lab (Λ.back Λ').w u y:=by
   intro u y hy;refine hy.yq fun b o _ _ hr=>⟨?_,rfl⟩
   rcases w1b b Λ.w.heap.size with h|h
   ·unfold Rd;rw [hlt h];have:Rd Λ'.lab b o:=hr;unfold Rd at this;rw [(hold b h).1] at this;exact z8I.1 this
   ·have e:(Λ.back Λ').lab b=Λ'.lab b:=by simp [L.back,Nat.not_lt.2 h]
    unfold Rd;rw [e];exact hr
  clear hb h
  simp only at k4⊢;generalize x=y at k4 hx
  induction k4 with
  |t h=>exact .t (hrep h)
  |zJ=>exact .zJ
  |own _ _ _ _ _=>simp [V.bd] at hx
  |slc _ _ _=>simp [V.bd] at hx
  |agg hs _ ih=>exact .agg hs fun j v c h1 h2=>ih j v c h1 h2 (V.ZL (by simpa [V.bd] using hx) j c h2)
  |tup hs _ ih=>exact .tup hs fun j v c h1 h2=>ih j v c h1 h2 (V.ZL (by simpa [V.bd] using hx) j c h2)
  |ptr _ _=>simp [V.bd] at hx
  |mp _ _=>simp [V.bd] at hx
  |@fn f vs cs hs h=>
   refine .fn hs fun j v c h1 h2=>?_;simp only [V.bd,w0m] at hx;have:=hx c (zMG h2);simp at this
  |gd _ h' ih=>exact .gd (fun hc=>ih hc (by simpa [V.bd] using hx)) h'
  |top=>exact .top
  |ub h h'=>exact .ub h h'
  |fpt _ _=>simp [V.bd] at hx
  |gpt _ _ _ _=>simp [V.bd] at hx
  |gsl _ _ _ _=>simp [V.bd] at hx
  |fow _ _ _ _ _=>simp [V.bd] at hx
def L.zB (Λ:L) (m:Nat):L where
 lab:=fun b=>match Λ.lab b with
  | .obj k=>if k<m then .obj k else .fix (some 0)
  | .arr k fr=>if k<m then .arr k fr else .fix (some fr)
  | .fob k i=>if k<m then .fob k i else .fix (some 0)
  | .far k i fr=>if k<m then .far k i fr else .fix (some fr)
  |x=>x
 fro:=fun k=>if k<m then Λ.fro k else 0
 nxt:=m
 w:=Λ.w
 frf:=fun k i=>if k<m then Λ.frf k i else 0
def L.high (Λ:L) (m b:Nat):Bool:=
 match Λ.lab b with
 | .obj k=>decide (m<=k)
 | .arr k _=>decide (m<=k)
 | .fob k _=>decide (m<=k)
 | .far k _ _=>decide (m<=k)
 |_=>false
theorem z4V {Λ:L} {m b:Nat} (h:Λ.high m b=false):(Λ.zB m).lab b=Λ.lab b:=by
 unfold L.high at h;simp only [L.zB]
 cases hl:Λ.lab b with
 |fix fr=>rfl
 |obj k=>rw [hl] at h;simp at h;simp [h]
 |arr k fr=>rw [hl] at h;simp at h;simp [h]
 |fob k i=>rw [hl] at h;simp at h;simp [h]
 |far k i fr=>rw [hl] at h;simp at h;simp [h]
theorem z9m {Λ:L} {m b:Nat} (h:Λ.high m b=true):∃fr,(Λ.zB m).lab b= .fix (some fr)/\((∃k,Λ.lab b= .obj k/\m<=k/\fr=0)∨(∃k,Λ.lab b= .arr k fr/\m<=k)∨(∃k i,Λ.lab b= .fob k i/\m<=k/\fr=0)∨∃k i,Λ.lab b= .far k i fr/\m<=k):=by
 unfold L.high at h;simp only [L.zB]
 cases hl:Λ.lab b with
 |fix fr=>rw [hl] at h;simp at h
 |obj k=>rw [hl] at h;simp at h;exact ⟨0,by simp;omega,.inl ⟨k,rfl,h,rfl⟩⟩
 |arr k fr=>rw [hl] at h;simp at h;exact ⟨fr,by simp;omega,.inr (.inl ⟨k,rfl,h⟩)⟩
 |fob k i=>rw [hl] at h;simp at h;exact ⟨0,by simp;omega,.inr (.inr (.inl ⟨k,i,rfl,h,rfl⟩))⟩
 |far k i fr=>rw [hl] at h;simp at h;exact ⟨fr,by simp;omega,.inr (.inr (.inr ⟨k,i,rfl,h⟩))⟩
theorem zgq {Λ:L} {m b o:Nat}:Rd (Λ.zB m).lab b o↔Rd Λ.lab b o:=by
 cases hh:Λ.high m b with
 |false=>unfold Rd;rw [z4V hh]
 |true=>
  obtain ⟨fr,h1,h2⟩:=z9m hh;unfold Rd
  rcases h2 with ⟨k,e,_,rfl⟩|⟨k,e,_⟩|⟨k,i,e,_,rfl⟩|⟨k,i,e,_⟩<;>rw [h1,e]<;>simp
theorem Wn {Λ:L} {m b k:Nat} (h:Λ.lab b= .obj k) (hk:k<m):(Λ.zB m).lab b= .obj k:=by simp [L.zB,h,hk]
theorem zbG {Λ:L} {m b k n:Nat} (h:Λ.lab b= .arr k n) (hk:k<m):(Λ.zB m).lab b= .arr k n:=by simp [L.zB,h,hk]
theorem z08 {Λ:L} {m b k:Nat} (h:(Λ.zB m).lab b= .obj k):Λ.lab b= .obj k/\k<m:=by
 simp only [L.zB] at h
 cases hl:Λ.lab b with
 |fix fr=>simp [hl] at h
 |obj j=>simp only [hl] at h;split at h<;>simp_all
 |arr j n=>simp only [hl] at h;split at h<;>simp_all
 |fob j n=>simp only [hl] at h;split at h<;>simp_all
 |far j n q=>simp only [hl] at h;split at h<;>simp_all
theorem z14 {Λ:L} {m b k i:Nat} (h:Λ.lab b= .fob k i) (hk:k<m):(Λ.zB m).lab b= .fob k i:=by simp [L.zB,h,hk]
theorem zbC {Λ:L} {m b k i n:Nat} (h:Λ.lab b= .far k i n) (hk:k<m):(Λ.zB m).lab b= .far k i n:=by simp [L.zB,h,hk]
theorem yH {Λ:L} {m b k i:Nat} (h:(Λ.zB m).lab b= .fob k i):Λ.lab b= .fob k i/\k<m:=by
 simp only [L.zB] at h
 cases hl:Λ.lab b with
 |fix fr=>simp [hl] at h
 |obj j=>simp only [hl] at h;split at h<;>simp_all
 |arr j n=>simp only [hl] at h;split at h<;>simp_all
 |fob j n=>simp only [hl] at h;split at h<;>simp_all
 |far j n q=>simp only [hl] at h;split at h<;>simp_all
theorem z7V {Λ:L} {m b k i n:Nat} (h:(Λ.zB m).lab b= .far k i n):Λ.lab b= .far k i n/\k<m:=by
 simp only [L.zB] at h
 cases hl:Λ.lab b with
 |fix fr=>simp [hl] at h
 |obj j=>simp only [hl] at h;split at h<;>simp_all
 |arr j n=>simp only [hl] at h;split at h<;>simp_all
 |fob j n=>simp only [hl] at h;split at h<;>simp_all
 |far j n q=>simp only [hl] at h;split at h<;>simp_all
theorem z8b {Λ:L} {m b k n:Nat} (h:(Λ.zB m).lab b= .arr k n):Λ.lab b= .arr k n/\k<m:=by
 simp only [L.zB] at h
 cases hl:Λ.lab b with
 |fix fr=>simp [hl] at h
 |obj j=>simp only [hl] at h;split at h<;>simp_all
 |arr j n=>simp only [hl] at h;split at h<;>simp_all
 |fob j n=>simp only [hl] at h;split at h<;>simp_all
 |far j n q=>simp only [hl] at h;split at h<;>simp_all
theorem zR.hf {Λ:L} {m:Nat} {v:Value} {x:T} (h:zR Λ.lab Λ.w v x):zR (Λ.zB m).lab (Λ.zB m).w v x:=h.yq fun _ _ _ _ hr=>⟨zgq.2 hr,rfl⟩
theorem zy.hf {Λ:L} {m:Nat} {v:Value} {x:V} (h:zy Λ v x) (hb:x.bd m=true):zy (Λ.zB m) v x:=by
 induction h with
 |t h=>exact .t h.hf
 |zJ=>exact .zJ
 |@own v k sz xs h hsz hl hn ho=>
  have hk:k<m:=by simpa [V.bd] using hb
  have hf:(Λ.zB m).fro k=Λ.fro k:=by simp [L.zB,hk]
  refine .own h.hf hsz hk (by rw [hf];exact hn) fun he=>?_
  rcases ho (by rw [←hf];exact he) with ho|⟨b,cap,arr,e,hv,hb',hh,hc,hn'⟩
  ·exact .inl ho
  ·exact .inr ⟨b,cap,arr,e,hv,zbG hb' hk,hh,hc,hn'⟩
 |@slc b k off len cap sz hl hc h=>
  have hk:k<m:=by simpa [V.bd] using hb
  exact .slc hk hc (Wn h hk)
 |agg hs _ ih=>exact .agg hs fun j v c h1 h2=>ih j v c h1 h2 (V.ZL (by simpa [V.bd] using hb) j c h2)
 |tup hs _ ih=>exact .tup hs fun j v c h1 h2=>ih j v c h1 h2 (V.ZL (by simpa [V.bd] using hb) j c h2)
 |@ptr b k off hl h=>
  have hk:k<m:=by simpa [V.bd] using hb
  exact .ptr hk (Wn h hk)
 |@mp b k hl h=>
  have hk:k<m:=by simpa [V.bd] using hb
  exact .mp hk (Wn h hk)
 |fn hs h=>
  refine .fn hs fun j v c h1 h2=>?_;obtain ⟨b,e1,e2,e3⟩:=h j v c h1 h2
  have hk:c.1<m:=by
   simp only [V.bd,w0m,w0n] at hb;exact hb c (zMG h2)
  exact ⟨b,e1,Wn e2 hk,hk⟩
 |gd _ h' ih=>exact .gd (fun hc=>ih hc (by simpa [V.bd] using hb)) h'
 |top=>exact .top
 |ub h h'=>exact .ub h h'
 |@fpt b k i off hl h=>
  have hk:k<m:=by simpa [V.bd] using hb
  exact .fpt hk (z14 h hk)
 |@gpt v k ver off hv hl hn h=>
  have hk:k<m:=by simpa [V.bd] using hb
  have hf:(Λ.zB m).frf k 0=Λ.frf k 0:=by simp [L.zB,hk]
  refine .gpt hv hk (by rw [hf];exact hn) fun he=>?_;obtain ⟨b,e1,i,e2,e3⟩:=h (by rw [←hf];exact he);exact ⟨b,e1,i,z14 e2 hk,fun b' i' h'=>e3 b' i' (yH h').1⟩
 |@gsl v k ver off len sz hv hl hn h=>
  have hk:k<m:=by simpa [V.bd] using hb
  have hf:(Λ.zB m).frf k 0=Λ.frf k 0:=by simp [L.zB,hk]
  refine .gsl hv hk (by rw [hf];exact hn) fun he=>?_
  rcases h (by rw [←hf];exact he) with h|⟨b,cap,N,hv,hc,⟨i,e2,e3⟩,hN,he'⟩
  ·exact .inl h
  ·exact .inr ⟨b,cap,N,hv,hc,⟨i,z14 e2 hk,fun b' i' h'=>e3 b' i' (yH h').1⟩,hN,he'⟩
 |@fow v k i sz xs h hsz hl hn ho=>
  have hk:k<m:=by simpa [V.bd] using hb
  have hf:(Λ.zB m).frf k i=Λ.frf k i:=by simp [L.zB,hk]
  refine .fow h.hf hsz hk (by rw [hf];exact hn) fun he=>?_
  rcases ho (by rw [←hf];exact he) with ho|⟨b,cap,arr,e,hv,hb',hh,hc,hn'⟩
  ·exact .inl ho
  ·exact .inr ⟨b,cap,arr,e,hv,zbC hb' hk,hh,hc,hn'⟩
theorem Z7.hf {Λ:L} {m:Nat} {sto:List (Nat×z5)} (h:Z7 Λ ⟨sto,Λ.nxt⟩) (hs:zP m sto=true):Z7 (Λ.zB m) ⟨sto,m⟩:=by
 refine ⟨fun k o hk=>?_,fun b b' k h1 h2=>h.inj b b' k (z08 h1).1 (z08 h2).1,fun b hb=>?_,fun b k hb=>?_,fun k hk=>?_,fun b b' k i h1 h2=>h.wF b b' k i (yH h1).1 (yH h2).1,fun b k hb=>?_,fun k i hk=>?_⟩
 ·obtain ⟨h1,h2⟩:=qX hs k o hk;refine ⟨h1,?_⟩;have hr:=(h.sto k o hk).2
  cases o with
  |cells cs=>
   obtain ⟨b,arr,e,e1,e2,e3,e4⟩:=hr;exact ⟨b,arr,e,Wn e1 h1,e2,e3,fun j v c a1 a2=>(e4 j v c a1 a2).hf (V.ZL (by simpa [z5.bd] using h2) j c a2)⟩
  |map kag es sx=>
   obtain ⟨b,ents,clock,e1,e2,e3⟩:=hr;exact ⟨b,ents,clock,Wn e1 h1,e2,e3.yq (fun _ _ h=>h.hf) (fun i kv v hi hv=>hv.hf (V.ZL (by simpa [z5.bd] using h2) i kv.2 (by simp [hi])))⟩
  |arr n=>unfold WV at*;simp [L.zB,h1,hr]
  |iter q s seen c=>
   have hq:q<m:=by simpa [z5.bd] using h2
   obtain ⟨b,bm,e1,e2,e3,e4⟩:=hr;exact ⟨b,bm,Wn e1 h1,e2,Wn e3 hq,hq⟩
  |gro r cs=>
   obtain ⟨h0,hr⟩:=hr
   refine ⟨by simp [L.zB,h1,h0],?_⟩
   rcases hr with ⟨e1,e2⟩|⟨b,arr,e,⟨i,e1,e1'⟩,e2,e3,e4⟩
   ·exact .inl ⟨e1,fun b i hb=>e2 b i (yH hb).1⟩
   ·exact .inr ⟨b,arr,e,⟨i,z14 e1 h1,fun b' i' h'=>e1' b' i' (yH h').1⟩,e2,e3,fun j v c a1 a2=>(e4 j v c a1 a2).hf (V.ZL (by simpa [z5.bd] using h2) j c a2)⟩
  |wo os=>
   obtain ⟨h0,hr⟩:=hr;refine ⟨fun b i hbi=>h0 b i (yH hbi).1,fun i cs hi=>?_⟩;obtain ⟨b,arr,e,e1,e2,e3,e4⟩:=hr i cs hi
   have hbs:V.bds m cs=true:=by
    have:=h2;simp only [z5.bd,w0m] at this;exact this cs (zMG hi)
   exact ⟨b,arr,e,z14 e1 h1,e2,e3,fun j v c a1 a2=>(e4 j v c a1 a2).hf (V.ZL hbs j c a2)⟩
  |Ya ns=>intro i;have:=hr i;simpa [L.zB,h1] using this
  |WM kag I=>
   obtain ⟨b,ents,clock,e1,e2,e3,e4,e5⟩:=hr;refine ⟨b,ents,clock,Wn e1 h1,e2,e3,e4,fun i e hi=>?_⟩;obtain ⟨cs,v,g1,g2,g3⟩:=e5 i e hi;exact ⟨cs,v,g1.yq fun _ _ h=>h.hf,g2.hf,g3⟩
 ·simp only [L.zB,h.new b hb]
 ·rcases hb with hb|⟨n,hb⟩
  ·exact (z08 hb).2
  ·exact (z8b hb).2
 ·have hk':m<=k:=hk;simp [L.zB];omega
 ·rcases hb with ⟨i,hb⟩|⟨i,n,hb⟩
  ·exact (yH hb).2
  ·exact (z7V hb).2
 ·have hk':m<=k:=hk;simp [L.zB];omega
end
section
variable {P:Program} {n m:Nat} {st:St} {Q:YJ->St->Prop}
theorem Sat.ite {z:Ar} {a b:zV} {t:Bool} (hz:z.v st= .t (.bool t)) (h1:t=true->Sat P n m a st Q) (h2:t=false->Sat P n m b st Q):Sat P n m (.cond z a b) st Q:=by
 refine Sat.cond hz ?_
 cases t with
 |true=>exact h1 rfl
 |false=>exact h2 rfl
theorem zcx {f:FuncId} {vs:List V} {x:V} {base:Nat} {sto:List (Nat×z5)} {K:Out->Prop} (h:z6 P f vs ⟨[],0⟩ {v:=x}) (hb:V.bds 0 vs=true) (hx:x.bd 0=true) (hk:K {v:=x}):QQ P f vs base sto K:=
 ⟨{v:=x},by simp only [w0k,w0r];exact fun s=>h.pure hb hx,hk⟩
theorem z7M {gc:Bool} {op:AOp} {base:Nat} {K:Out->Prop} (h1:gc=true->evX P base st K op) (h2:gc=false->K {v:= .gd false .top,rd:=Z8 st op}):zd7 P gc base st K op:= .inr ⟨fun hg=> .inl (h1 hg),h2⟩
theorem z4.go {rs:List qy} {x:V} (h:match z1S st rs with|some r=>LeR 0 st.s r x|none=>False):z4 ⟨[],0⟩ {v:=x} rs .ret st:=by
 cases hr:z1S st rs with
 |none=>rw [hr] at h;exact h.elim
 |some r=>rw [hr] at h;exact ⟨r,hr,Nat.zero_le _,h,.le trivial⟩
theorem LeR.t {m:Nat} {s:S} {x y:T} (h:x=y):LeR m s (.t x) (.t y):= .le (.tEq h)
theorem LeR.own {m:Nat} {s:S} {k sz:Nat} {xs ys:List (List T)} (h:xs=ys):LeR m s (.own k sz xs) (.t (.lst ys)):= .le (h▸ .Zc)
theorem LeR.nil {m:Nat} {s:S} {ys:List (List T)} (h:[]=ys):LeR m s .zJ (.t (.lst ys)):= .le (h▸ .Zb)
theorem LeR.wx {m:Nat} {s:S} {a b c d:V} (h1:LeR m s a c) (h2:LeR m s b d):LeR m s (.tup [a,b]) (.tup [c,d]):= .tup (.cons h1 (.cons h2 .nil))
end
theorem wrap64 {x:Int} (h1:-9223372036854775808<=x) (h2:x<=9223372036854775807):IntKind.i64.wrap x=x:=by rw [IntKind.wrap_i64];omega
theorem Qc {α:Type} {l:List α} {i:Nat} {x:α} {r:List α} (h:l.drop i=x::r):l[i]?=some x/\l.drop (i+1)=r/\i<l.length:=by
 have h1:l[i]?=some x:=by
  have:=w0z (xs:=l) (i:=i) (j:=0);rw [h] at this;simpa using this.symm
 refine ⟨h1,?_,(w02.1 h1).1⟩;rw [←List.drop_drop,h];rfl
theorem zcO {α:Type} {l:List α} {i:Nat} (h:l.drop i=[]):l.length<=i:=List.drop_eq_nil_iff.1 h
end Go.GB
