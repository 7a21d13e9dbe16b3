/-
  YtablikngmojchaaGreatP2: lemmas. No conditions.
-/
import Derived.Test.YtablikngmojchaaGreatP1
import Derived.LoopN
import Derived.Scope
set_option linter.all false
set_option maxRecDepth 100000
set_option maxHeartbeats 16000000
namespace Go.GB
section
variable {P:Program} {ops:Array Oper}
def Ch (P:Program):Nat->St->List AO->List Out->Nat->St->Prop
 |base,st,[],[],b',s'=>b'=base/\s'=st
 |base,st,ao::r,out::os,b',s'=>evO P base st ao (· =out)/\Ch P (base+out.n) (st.app ao.dst out) r os b' s'
 |_,_,_,_,_,_=>False
def flags:List Out->List (Bool×Bool)
 |[]=>[]
 |o::r=>(o.rd,!o.ob.isEmpty||decide (0<o.n))::flags r
theorem z2h:∀{aos:List AO} {base:Nat} {st:St} {fl:List (Bool×Bool)} {K:Nat->St->List (Bool×Bool)->Prop},evR P base st aos fl K->∃outs b' st',Ch P base st aos outs b' st'/\K b' st' (fl++flags outs)
 |[],base,st,fl,K,h=>⟨[],base,st,⟨rfl,rfl⟩,by simpa [flags,evR] using h⟩
 |ao::r,base,st,fl,K,h=>by
  obtain ⟨out,h1,h2⟩:=zcW h;obtain ⟨outs,b',st',h3,h4⟩:=z2h h2
  exact ⟨out::outs,b',st',⟨h1,h3⟩,by simpa [flags] using h4⟩
theorem Ch.le:∀{aos:List AO} {base:Nat} {st:St} {outs:List Out} {b':Nat} {s':St},Ch P base st aos outs b' s'->base<=b'
 |[],_,_,[],_,_,h=>by rw [h.1];exact w09 _
 |_::r,_,_,_::os,_,_,h=>by have:=Ch.le h.2;omega
 |[],_,_,_::_,_,_,h=>h.elim
 |_::_,_,_,[],_,_,h=>h.elim
def zb0 (base:Nat) (st:St) (out:Out):Prop:=∀k o,(k,o)∈out.ob->zj st.s.sto k≠none∨(base<=k/\k<base+out.n)
theorem z8q {base:Nat} {st:St} {op:NOp} {out:Out} (h:yi st (· =out) op):zb0 base st out:=by
 unfold yi at h;split at h
 ·split at h
  ·split at h
   ·rename_i hk;obtain ⟨_,rfl⟩:=h;intro j ob hj;simp at hj;rw [hj.1,hk];exact .inl (by simp)
   ·exact h.elim
  ·exact h.elim
 ·split at h
  ·split at h
   ·rename_i hk;obtain ⟨_,rfl⟩:=h;intro j ob hj;simp at hj;rw [hj.1,hk];exact .inl (by simp)
   ·exact h.elim
  ·exact h.elim
 ·split at h
  ·split at h
   ·rename_i hk;subst h;intro j ob hj;simp at hj;rw [hj.1,hk];exact .inl (by simp)
   ·exact h.elim
  ·exact h.elim
 ·split at h
  ·split at h
   ·rename_i hk;split at h
    ·split at h
     ·obtain ⟨_,rfl⟩:=h;intro j ob hj;simp at hj;rw [hj.1,hk];exact .inl (by simp)
     ·exact h.elim
    ·obtain ⟨_,rfl⟩:=h;intro j ob hj;simp at hj;rw [hj.1,hk];exact .inl (by simp)
   ·exact h.elim
  ·exact h.elim
 ·split at h
  ·split at h
   ·rename_i hk;split at h
    ·subst h;intro j ob hj;simp at hj;rw [hj.1,hk];exact .inl (by simp)
    ·exact h.elim
   ·exact h.elim
  ·exact h.elim
 ·exact h.elim
theorem zb9 {base:Nat} {st:St} {aop:AOp} {out:Out} (h:evX P base st (· =out) aop):zb0 base st out:=by
 unfold evX at h;split at h
 ·split at h
  ·split at h
   ·rename_i hk;split at h
    ·obtain ⟨_,rfl⟩:=h;intro j ob hj;simp at hj;rw [hj.1,hk];exact .inl (by simp)
    ·exact h.elim
   ·exact h.elim
  ·exact h.elim
 ·split at h
  ·obtain ⟨_,rfl⟩:=h;intro j ob hj;simp at hj;exact .inr (by simp;omega)
  ·exact h.elim
 ·subst h;intro j ob hj;simp at hj;exact .inr (by simp;omega)
 ·split at h
  ·obtain ⟨_,h⟩:=h;split at h
   ·rcases h with h|h
    ·split at h
     ·subst h;intro j ob hj;simp at hj
     ·subst h;intro j ob hj;simp at hj;exact .inr (by simp;omega)
    ·subst h;intro j ob hj;simp at hj
   ·subst h;intro j ob hj;simp at hj
  ·exact h.elim
 ·split at h
  ·split at h
   ·obtain ⟨_,_,_,rfl⟩:=h;intro j ob hj;simp at hj;exact .inr (by simp;omega)
   ·split at h
    ·rename_i hk;obtain ⟨_,_,_,_,_,rfl⟩:=h;intro j ob hj;simp at hj;rw [hj.1,hk];exact .inl (by simp)
    ·exact h.elim
   ·exact h.elim
  ·exact h.elim
 ·split at h
  ·obtain ⟨_,rfl⟩:=h;intro j ob hj;simp at hj;exact .inr (by simp;omega)
  ·exact h.elim
 ·exact (zav h).2.1
 ·split at h
  ·exact (z1s h).2.1
  ·exact (z1s h).2.1
  ·exact h.elim
 ·subst h;intro j ob hj;simp at hj;exact .inr (by simp;omega)
 ·split at h
  ·split at h
   ·subst h;intro j ob hj;simp at hj;exact .inr (by simp;omega)
   ·exact h.elim
  ·exact h.elim
 ·split at h
  ·subst h;intro j ob hj;simp at hj
  ·split at h
   ·subst h;intro j ob hj;simp at hj
   ·exact h.elim
  ·exact h.elim
 ·exact z8q h
 ·exact h.elim
theorem zbQ {base:Nat} {st:St} {aop:AOp} {out:Out} (h:z1Y st base aop out):zb0 base st out:=by
 cases h with
 |stG hx hk|zcP hx hk|z9t hx hk=>intro j ob hj;simp at hj;rw [hj.1,hk];exact .inl (by simp)
 |zc4|zb7=>intro j ob hj;simp at hj;exact .inr (by simp;omega)
theorem z4l {base:Nat} {st:St} {aop:AOp} {out:Out} (h:evX P base st (· =out) aop∨evY base st (· =out) aop):zb0 base st out:=by
 rcases h with h|⟨out',h,rfl⟩
 ·exact zb9 h
 ·exact zbQ h
theorem QZ {base:Nat} {st:St} {ao:AO} {out:Out} (h:evO P base st ao (· =out)):zb0 base st out:=by
 unfold evO at h;split at h
 ·unfold evU at h;split at h
  ·obtain ⟨_,rfl⟩:=h;intro j ob hj;simp at hj
  ·exact z4l h
 ·split at h
  ·exact h.elim
  ·rename_i gc _;split at h
   ·obtain ⟨_,rfl⟩:=h;intro j ob hj;simp at hj
   ·rcases h with h|h
    ·unfold Qr at h;split at h
     ·obtain ⟨out0,_,⟨k2,_⟩,rfl⟩:=h;intro j ob hj;simp [k2] at hj
     ·exact h.elim
    cases gc with
    |true=>exact z4l (h.1 rfl)
    |false=>have:=h.2 rfl;subst this;intro j ob hj;simp at hj
theorem Qb:∀(ob:List (Nat×zd)) (s:List (Nat×zd)) (k:Nat),zj s k=none->(∀o,(k,o)∉ob)->zj (Zf s ob) k=none
 |[],s,k,h,_=>h
 |(j,o)::r,s,k,h,hn=>by
  refine Qb r (Ym s j o) k ?_ (fun o' ho'=>hn o' (w0k _ ho'));rw [Zb]
  have:j≠k:=by rintro rfl;exact hn o (by simp)
  simp [this,h]
theorem z3C {base:Nat} {st:St} {out:Out} (hn:zb0 base st out) {k:Nat} (hk:zj st.s.sto k=none) (ho:k<base∨base+out.n<=k) (d:Option Nat):zj (st.app d out).s.sto k=none:=by
 refine Qb _ _ _ hk fun o h=>?_
 rcases hn k o h with h|h
 ·exact h hk
 ·omega
def zae (C:Ctx) (ops:Array Oper):Prop:=∀(j:Nat) (p:Oper) (d:Nat),ops[j]?=some p->p.dst=some d->d<C.n
theorem Qx:∀{l:List Oper} {aos:List AO},z2t P ops l=some aos->l.length=aos.length/\∀(j:Nat) (o:Oper) (ao:AO),l[j]?=some o->aos[j]?=some ao->z4G P ops o=some ao
 |[],aos,h=>by simp [z2t] at h;subst h;simp
 |o::r,aos,h=>by
  simp only [z2t] at h;split at h
  ·rename_i a l h1 h2;simp at h;subst h;obtain ⟨i1,i2⟩:=Qx h2
   refine ⟨by simp [i1],fun j p ao hp ha=>?_⟩
   cases j with
   |zero=>simp at hp ha;subst hp;subst ha;exact h1
   |succ j=>exact i2 j p ao (by simpa using hp) (by simpa using ha)
  ·simp at h
theorem z6U {C:Ctx} (hC:C.P=P) (hd:zae C ops) {aos:List AO} (hres:z2t P ops ops.toList=some aos) {Q:Exit->Act->World->Prop} {b':Nat} {st':St} (m:Nat):
  ∀(r:List AO) (i:Nat) (base:Nat) (st:St) (outs:List Out) (Λ:L) (a:Act),aos.drop i=r->Ch P base st r outs b' st'->Rel C Λ st a->Λ.nxt=m->b'<=m->
   (∀k,base<=k->k<m->ZU Λ k/\zj st.s.sto k=none)->(∀(a':Act) (Λ':L),Rel C Λ' st' a'->Λ'.nxt=m->Q .normal a' Λ'.w)->wpOps P ops Q (List.range' i r.length) a Λ.w
 |[],i,base,st,outs,Λ,a,_,hch,hr,hm,_,_,hq=>by
  cases outs with
  |nil=>obtain ⟨rfl,rfl⟩:=hch;simp only [w16,List.range'_zero,wpOps];exact hq a Λ hr hm
  |cons _ _=>exact hch.elim
 |ao::r,i,base,st,outs,Λ,a,hdrop,hch,hr,hm,hb,hf,hq=>by
  cases outs with
  |nil=>exact hch.elim
  |cons out os=>
   obtain ⟨h1,h2⟩:=hch;obtain ⟨hlen,hat⟩:=Qx hres
   have hi:i<aos.length:=by
    rcases w1a i aos.length with h|h
    ·exact h
    ·rw [w1m h] at hdrop;cases hdrop
   have hao:aos[i]?=some ao:=by
    have:=w0z (xs:=aos) (i:=i) (j:=0);rw [hdrop] at this;simpa using this.symm
   have hopi:i<ops.size:=by rw [←w1o,hlen];exact hi
   have ho:ops[i]?=some ops[i]:=by simp [hopi]
   have hro:=hat i ops[i] ao (by simp) hao;have hle:=Ch.le h2;have hnm:=QZ h1;simp only [w0d,List.range'_succ];rw [wpOps_cons];refine (z2f ho hro h1 hC hr hd (by omega) (fun k k1 k2=>?_) fun v Λ' k1 k2 k3 k4 k5=>?_).2
   ·obtain ⟨f1,f2⟩:=hf k k1 (by omega)
    exact ⟨by omega,f1,f2⟩
   ·have hdst:ao.dst=ops[i].dst:=(z2f (next:=fun _ _=>True) (Q:=Q) ho hro h1 hC hr hd (by omega) (fun k k1 k2=>by
     obtain ⟨f1,f2⟩:=hf k k1 (by omega);exact ⟨by omega,f1,f2⟩) (fun _ _ _ _ _ _ _=>trivial)).1
    have hr':Rel C Λ' (st.app ao.dst out) (a.put ao.dst v):=hr.step k1 (fun x hx=>hd i _ x ho (by rw [←hdst];exact hx)) k4 k3;rw [←hdst];refine z6U hC hd hres m r (i+1) _ _ os Λ' _ (by rw [←List.drop_drop,hdrop];rfl) h2 hr' (by omega) hb (fun k k6 k7=>?_) hq;obtain ⟨f1,f2⟩:=hf k (by omega) k7;exact ⟨k5 k f1 f2 (.inl k6),z3C hnm f2 (.inr k6) _⟩
end
def Ar.z8:Ar->List Nat
 | .s t=>[t]
 | .c _=>[]
def Ar.z3k:Option Ar->List Nat
 |some x=>x.z8
 |none=>[]
def Yo:List Ar->List Nat
 |[]=>[]
 |x::r=>x.z8++Yo r
def wS:List (Nat×Nat×Ar)->List Nat
 |[]=>[]
 |(_,_,x)::r=>x.z8++wS r
def yw:List (Nat×Ar)->List Nat
 |[]=>[]
 |(_,x)::r=>x.z8++yw r
def NOp.z8:NOp->List Nat
 | .lookup _ _ _ _ x k=>x.z8++k.z8
 | .zda _ _ x k v=>x.z8++(k.z8++v.z8)
 | .zaK _ _ x k=>x.z8++k.z8
 | .ze8 _ _ _ x k=>x.z8++k.z8
 | .zen x s v=>x.z8++(s.z8++v.z8)
 | .zf2 x=>x.z8
 | .nxt x=>x.z8
 | .z7v x=>x.z8
 | .xtr _ x y=>x.z8++y.z8
 | .xcm x y=>x.z8++y.z8
 | .bad=>[]
 | .zcc _ _ x=>x.z8
 | .eqn _ x=>x.z8
 | .zbb _ _ x y=>x.z8++y.z8
 | .zdr x=>x.z8
def AOp.z8:AOp->List Nat
 | .nw op=>op.z8
 | .cst _=>[]
 | .mv x=>x.z8
 | .pick c a b=>c.z8++(a.z8++b.z8)
 | .un _ x=>x.z8
 | .bin _ x y=>x.z8++y.z8
 | .eqb _ x y=>x.z8++y.z8
 | .eqp _ x=>x.z8
 | .eqm _ x=>x.z8
 | .conv _ x=>x.z8
 | .z9X x=>x.z8
 | .z5L x=>x.z8
 | .fa _ x=>x.z8
 | .ld _ _ x=>x.z8
 | .ia _ x i=>x.z8++i.z8
 | .zcw _ _ x i=>x.z8++i.z8
 | .ixs x i=>x.z8++i.z8
 | .ixa _ _ _ x i=>x.z8++i.z8
 | .len x=>x.z8
 | .lens x=>x.z8
 | .sls x lo hi=>x.z8++(Ar.z3k lo++Ar.z3k hi)
 | .sll _ x lo hi=>x.z8++(Ar.z3k lo++Ar.z3k hi)
 | .fld _ _ _ x=>x.z8
 | .zeC x y=>x.z8++y.z8
 | .zdZ x y=>x.z8++y.z8
 | .build _ ps=>wS ps
 | .ze7 _ caps=>Yo caps
 | .z94 x=>x.z8
 | .st _ x v=>x.z8++v.z8
 | .box _ x=>x.z8
 | .alloc _=>[]
 | .bsl _ _ _ ps=>yw ps
 | .app _ _ x y=>x.z8++y.z8
 | .ext x _=>x.z8
 | .z3t _ _=>[]
 | .Qq x=>x.z8
 | .z97 _ _ _ n=>n.z8
 | .call _ args=>Yo args
 | .z13 x args=>x.z8++Yo args
def AO.reads (ao:AO):List Nat:=(match ao.g with|some (s,_)=>[s]|none=>[])++ao.op.z8
section
variable {P:Program} {st st':St}
theorem yA {x:Ar} (h:∀t∈x.z8,look st.env t=look st'.env t):x.v st=x.v st':=by
 cases x with
 |s t=>exact h t (by simp [Ar.z8])
 |c v=>rfl
theorem z04 {x:Ar} (h:∀t∈x.z8,look st.env t=look st'.env t):x.u st=x.u st':=by unfold Ar.u;rw [yA h]
theorem ZM {gc:Bool} {x:Ar} (h:∀t∈x.z8,look st.env t=look st'.env t):rd gc st x=rd gc st' x:=by
 unfold rd;rw [yA h]
theorem QW {gc:Bool} {x:Option Ar} {d:Int} (h:∀t∈Ar.z3k x,look st.env t=look st'.env t):bnd x gc st d=bnd x gc st' d:=by
 cases x with
 |none=>rfl
 |some x=>simp only [bnd];rw [ZM (st:=st) (st':=st') h]
theorem z2N {gc:Bool}:∀{ps:List (Nat×Nat×Ar)} {cs:List V},(∀t∈wS ps,look st.env t=look st'.env t)->z1C st gc cs ps=z1C st' gc cs ps
 |[],_,_=>rfl
 |(off,n,x)::r,cs,h=>by
  simp only [z1C];rw [ZM (st:=st) (st':=st') (fun t ht=>h t (by simp [wS,ht]))];have ih:=fun cs=>z2N (gc:=gc) (ps:=r) (cs:=cs) (fun t ht=>h t (by simp [wS,ht]));simp only [ih]
theorem z1E:∀{xs:List Ar},(∀t∈Yo xs,look st.env t=look st'.env t)->Q3 st xs=Q3 st' xs
 |[],_=>rfl
 |x::r,h=>by
  simp only [Q3];rw [yA (st:=st) (st':=st') (fun t ht=>h t (by simp [Yo,ht])),z1E (xs:=r) (fun t ht=>h t (by simp [Yo,ht]))]
theorem wT:∀{xs:List Ar},(∀t∈Yo xs,look st.env t=look st'.env t)->yk st xs=yk st' xs
 |[],_=>rfl
 |x::r,h=>by
  simp only [yk];rw [z04 (st:=st) (st':=st') (fun t ht=>h t (by simp [Yo,ht])),wT (xs:=r) (fun t ht=>h t (by simp [Yo,ht]))]
theorem Qd {sz:Nat}:∀{ps:List (Nat×Ar)} {xs:List (List T)},(∀t∈yw ps,look st.env t=look st'.env t)->ZA st sz xs ps=ZA st' sz xs ps
 |[],_,_=>rfl
 |(i,x)::r,xs,h=>by
  simp only [ZA];rw [z04 (st:=st) (st':=st') (fun t ht=>h t (by simp [yw,ht]))];have ih:=fun xs=>Qd (sz:=sz) (ps:=r) (xs:=xs) (fun t ht=>h t (by simp [yw,ht]));simp only [ih]
theorem Q7 {op:AOp} (h:∀t∈op.z8,look st.env t=look st'.env t):Z2 st op=Z2 st' op:=by
 cases op<;>simp only [Z2]
 case ld ag n x=>rw [yA (st:=st) (st':=st') (fun t ht=>h t (by simp [AOp.z8,ht]))]
 case eqp a x=>rw [yA (st:=st) (st':=st') (fun t ht=>h t (by simp [AOp.z8,ht]))]
 case z5L x=>rw [yA (st:=st) (st':=st') (fun t ht=>h t (by simp [AOp.z8,ht]))]
 case fa a x=>rw [yA (st:=st) (st':=st') (fun t ht=>h t (by simp [AOp.z8,ht]))]
 case ia a x i=>rw [yA (st:=st) (st':=st') (fun t ht=>h t (by simp [AOp.z8,ht]))]
 case len x=>rw [yA (st:=st) (st':=st') (fun t ht=>h t (by simp [AOp.z8,ht]))]
 case sll a x lo hi=>rw [yA (st:=st) (st':=st') (fun t ht=>h t (by simp [AOp.z8,ht]))]
 case nw op=>
  cases op<;>simp only
  case lookup a b c d x k=>rw [yA (st:=st) (st':=st') (fun t ht=>h t (by simp [AOp.z8,NOp.z8,ht]))]
  case z7v x=>rw [yA (st:=st) (st':=st') (fun t ht=>h t (by simp [AOp.z8,NOp.z8,ht]))]
def V.ng:V->Bool
 | .gpt _ _ _=>false
 | .gsl _ _ _ _ _=>false
 |_=>true
theorem z64 {gc:Bool} {x:Ar} (h:wj (x.v st)=false):(rd gc st x).1.ng=true:=by
 unfold rd;generalize x.v st=y at h⊢
 cases y with
 |gpt _ _ _=>simp [wj] at h
 |gsl _ _ _ _ _=>simp [wj] at h
 |gd c y=>
  cases y with
  |gpt _ _ _=>simp [wj] at h
  |gsl _ _ _ _ _=>simp [wj] at h
  |_=>rfl
 |_=>rfl
theorem wW {gc:Bool} {op:AOp} (h:∀t∈op.z8,look st.env t=look st'.env t) (hs:Z2 st op=false∨st.s.sto=st'.s.sto):zk gc st op=zk gc st' op:=by
 have r1:∀(g:Bool) (x:Ar),(∀t∈x.z8,t∈op.z8)->rd g st x=rd g st' x:=fun g x hx=>ZM fun t ht=>h t (hx t ht)
 cases op with
 |cst v=>rfl
 |mv x=>simp only [zk];rw [r1 gc x (fun t ht=>ht)]
 |pick c a b=>simp only [zk];rw [r1 gc c (fun t ht=>by simp [AOp.z8,ht])];simp only [r1 _ a (fun t ht=>by simp [AOp.z8,ht]),r1 _ b (fun t ht=>by simp [AOp.z8,ht])]
 |un op x=>cases op<;>simp only [zk]<;>rw [r1 gc x (fun t ht=>ht)]
 |bin op x y=>simp only [zk];rw [r1 gc x (fun t ht=>by simp [AOp.z8,ht]),r1 gc y (fun t ht=>by simp [AOp.z8,ht])]
 |eqb op x y=>simp only [zk];rw [r1 gc x (fun t ht=>by simp [AOp.z8,ht]),r1 gc y (fun t ht=>by simp [AOp.z8,ht])]
 |eqp op x=>
  have hx:=r1 gc x (fun t ht=>by simp [AOp.z8,ht])
  rcases hs with hs|hs
  ·have h0:=z64 (gc:=gc) (by simpa [Z2] using hs);simp only [zk,←hx];generalize rd gc st x=z at h0⊢;obtain ⟨v,p⟩:=z
   cases v<;>first |rfl|(simp [V.ng] at h0;done)|(rename_i y;cases y<;>rfl)
  ·simp only [zk,←hx,hs]
 |eqm op x=>simp only [zk];rw [r1 gc x (fun t ht=>ht)]
 |conv k x=>simp only [zk];rw [r1 gc x (fun t ht=>ht)]
 |z9X x=>simp only [zk];rw [r1 gc x (fun t ht=>ht)]
 |z5L x=>
  have hx:=r1 gc x (fun t ht=>by simp [AOp.z8,ht])
  rcases hs with hs|hs
  ·have h0:=z64 (gc:=gc) (by simpa [Z2] using hs);simp only [zk,←hx];generalize rd gc st x=z at h0⊢;obtain ⟨v,p⟩:=z
   cases v<;>first |rfl|(simp [V.ng] at h0;done)|(rename_i y;cases y<;>rfl)
  ·simp only [zk,←hx,hs]
 |fa n x=>
  have hx:=r1 gc x (fun t ht=>by simp [AOp.z8,ht])
  rcases hs with hs|hs
  ·have h0:=z64 (gc:=gc) (by simpa [Z2] using hs);simp only [zk,←hx];generalize rd gc st x=z at h0⊢;obtain ⟨v,p⟩:=z
   cases v<;>first |rfl|(simp [V.ng] at h0;done)|(rename_i y;cases y<;>rfl)
  ·simp only [zk,←hx,hs]
 |ld ag n x=>
  have hv:=yA (st:=st) (st':=st') (x:=x) (fun t ht=>h t ht)
  rcases hs with hs|hs
  ·simp only [zk,rd,←hv];simp only [Z2] at hs;generalize x.v st=y at hs⊢
   cases y with
   |t z=>cases z<;>rfl
   |ptr _ _=>simp [yC] at hs
   |fpt _ _ _=>simp [yC] at hs
   |gpt _ _ _=>simp [yC] at hs
   |mp _=>rfl
   |gd c y=>
    cases y with
    |t z=>cases z<;>rfl
    |ptr _ _=>simp [yC] at hs
    |fpt _ _ _=>simp [yC] at hs
    |gpt _ _ _=>simp [yC] at hs
    |_=>rfl
   |_=>rfl
  ·simp only [zk];rw [r1 gc x (fun t ht=>ht),hs]
 |ia sz x i=>
  have hx:=r1 gc x (fun t ht=>by simp [AOp.z8,ht])
  have hi:=r1 gc i (fun t ht=>by simp [AOp.z8,ht])
  rcases hs with hs|hs
  ·have h0:=z64 (gc:=gc) (by simpa [Z2] using hs);simp only [zk,←hx,←hi];generalize rd gc st x=z at h0⊢;generalize rd gc st i=z2;obtain ⟨v,p⟩:=z;obtain ⟨v2,p2⟩:=z2
   have e2:(∃k n,v2= .t (.int k n))∨∀k n,v2≠ .t (.int k n):=by
    cases v2 with
    |t y=>cases y<;>first |exact .inl ⟨_,_,rfl⟩|exact .inr (by simp)
    |_=>exact .inr (by simp)
   rcases e2 with ⟨k,n,rfl⟩|e2
   ·cases v<;>first |rfl|(exfalso;cases h0;done)
   ·cases v2 with
    |t y=>cases y<;>first |rfl|exact absurd rfl (e2 _ _)
    |_=>rfl
  ·simp only [zk,←hx,←hi,hs]
 |zcw a b x i=>simp only [zk];rw [r1 gc x (fun t ht=>by simp [AOp.z8,ht]),r1 gc i (fun t ht=>by simp [AOp.z8,ht])]
 |ixs x i=>simp only [zk];rw [r1 gc x (fun t ht=>by simp [AOp.z8,ht]),r1 gc i (fun t ht=>by simp [AOp.z8,ht])]
 |ixa a b c x i=>simp only [zk];rw [r1 gc x (fun t ht=>by simp [AOp.z8,ht]),r1 gc i (fun t ht=>by simp [AOp.z8,ht])]
 |len x=>
  have hx:=r1 gc x (fun t ht=>by simp [AOp.z8,ht])
  rcases hs with hs|hs
  ·have h0:=z64 (gc:=gc) (by simpa [Z2] using hs);simp only [zk,←hx];generalize rd gc st x=z at h0⊢;obtain ⟨v,p⟩:=z
   cases v<;>first |rfl|(simp [V.ng] at h0;done)|(rename_i y;cases y<;>rfl)
  ·simp only [zk,←hx,hs]
 |lens x=>simp only [zk];rw [r1 gc x (fun t ht=>ht)]
 |sls x lo hi=>
  have b1:=fun d=>QW (st:=st) (st':=st') (gc:=gc) (x:=lo) (d:=d) (fun t ht=>h t (by simp [AOp.z8,ht]));have b2:=fun d=>QW (st:=st) (st':=st') (gc:=gc) (x:=hi) (d:=d) (fun t ht=>h t (by simp [AOp.z8,ht]))
  simp only [zk,b1,b2];rw [r1 gc x (fun t ht=>by simp [AOp.z8,ht])]
 |sll a x lo hi=>
  have b1:=fun d=>QW (st:=st) (st':=st') (gc:=gc) (x:=lo) (d:=d) (fun t ht=>h t (by simp [AOp.z8,ht]));have b2:=fun d=>QW (st:=st) (st':=st') (gc:=gc) (x:=hi) (d:=d) (fun t ht=>h t (by simp [AOp.z8,ht]))
  have hx:=r1 gc x (fun t ht=>by simp [AOp.z8,ht])
  rcases hs with hs|hs
  ·have h0:=z64 (gc:=gc) (by simpa [Z2] using hs);simp only [zk,b1,b2,←hx];generalize rd gc st x=z at h0⊢;obtain ⟨v,p⟩:=z
   cases v<;>first |rfl|(simp [V.ng] at h0;done)
  ·simp only [zk,b1,b2,←hx,hs]
 |fld a b c x=>simp only [zk];rw [r1 gc x (fun t ht=>ht)]
 |zeC x y=>simp only [zk];rw [r1 gc x (fun t ht=>by simp [AOp.z8,ht]),r1 gc y (fun t ht=>by simp [AOp.z8,ht])]
 |zdZ x y=>simp only [zk];rw [r1 gc x (fun t ht=>by simp [AOp.z8,ht]),r1 gc y (fun t ht=>by simp [AOp.z8,ht])]
 |build zs ps=>simp only [zk];rw [z2N (st:=st) (st':=st') h]
 |ze7 f caps=>simp only [zk];rw [z1E (st:=st) (st':=st') h]
 |ext x i=>simp only [zk];rw [r1 gc x (fun t ht=>ht)]
 |nw op=>
  cases op with
  |lookup ks kag zv ok x k=>
   have hk:=ZM (st:=st) (st':=st') (gc:=gc) (x:=k) (fun t ht=>h t (by simp [AOp.z8,NOp.z8,ht]))
   rcases hs with hs|hs
   ·have hv:=yA (st:=st) (st':=st') (x:=x) (fun t ht=>h t (by simp [AOp.z8,NOp.z8,ht]));simp only [zk,Zq,hk];simp only [rd,←hv];simp only [Z2] at hs;generalize x.v st=y at hs⊢
    cases y with
    |t z=>cases z<;>rfl
    |mp _=>simp [yC] at hs
    |gd c y=>
     cases y with
     |t z=>cases z<;>rfl
     |mp _=>simp [yC] at hs
     |_=>rfl
    |_=>rfl
   ·have hx:=ZM (st:=st) (st':=st') (gc:=gc) (x:=x) (fun t ht=>h t (by simp [AOp.z8,NOp.z8,ht]));simp only [zk,Zq];rw [hx,hk,hs]
  |z7v x=>
   rcases hs with hs|hs
   ·have hv:=yA (st:=st) (st':=st') (x:=x) (fun t ht=>h t (by simp [AOp.z8,NOp.z8,ht]));simp only [zk,Zq];simp only [rd,←hv];simp only [Z2] at hs;generalize x.v st=y at hs⊢
    cases y with
    |ptr _ _=>simp [yC] at hs
    |gd c y=>
     cases y with
     |ptr _ _=>simp [yC] at hs
     |_=>rfl
    |_=>rfl
   ·have hx:=ZM (st:=st) (st':=st') (gc:=gc) (x:=x) (fun t ht=>h t (by simp [AOp.z8,NOp.z8,ht]));simp only [zk,Zq];rw [hx,hs]
  |zdr x=>
   simp only [zk,Zq];rw [ZM (st:=st) (st':=st') (gc:=gc) (x:=x) (fun t ht=>h t (by simp [AOp.z8,NOp.z8,ht]))]
  |eqn neg x=>
   simp only [zk,Zq];rw [ZM (st:=st) (st':=st') (gc:=gc) (x:=x) (fun t ht=>h t (by simp [AOp.z8,NOp.z8,ht]))]
  |zbb neg ks x y=>
   simp only [zk,Zq];rw [ZM (st:=st) (st':=st') (gc:=gc) (x:=x) (fun t ht=>h t (by simp [AOp.z8,NOp.z8,ht])),ZM (st:=st) (st':=st') (gc:=gc) (x:=y) (fun t ht=>h t (by simp [AOp.z8,NOp.z8,ht]))]
  |xcm x y=>
   simp only [zk,Zq];rw [ZM (st:=st) (st':=st') (gc:=gc) (x:=x) (fun t ht=>h t (by simp [AOp.z8,NOp.z8,ht])),ZM (st:=st) (st':=st') (gc:=gc) (x:=y) (fun t ht=>h t (by simp [AOp.z8,NOp.z8,ht]))]
  |xtr cnt x y=>
   simp only [zk,Zq];rw [ZM (st:=st) (st':=st') (gc:=gc) (x:=x) (fun t ht=>h t (by simp [AOp.z8,NOp.z8,ht])),ZM (st:=st) (st':=st') (gc:=gc) (x:=y) (fun t ht=>h t (by simp [AOp.z8,NOp.z8,ht]))]
  |_=>rfl
 |z94 x=>rfl
 |st n x v=>rfl
 |box n x=>rfl
 |alloc zs=>rfl
 |bsl a b c d=>rfl
 |app a b c d=>rfl
 |z3t a b=>rfl
 |Qq x=>rfl
 |z97 a b c d=>rfl
 |call f a=>rfl
 |z13 x a=>rfl
theorem z9i {f:FuncId} {vs:List V} {base:Nat} {sto sto':List (Nat×zd)} {out:Out} (hs:out.rd=false∨sto=sto') (h:z0d P f vs base sto (· =out)):z0d P f vs base sto' (· =out):=by
 obtain ⟨o,h1,rfl⟩:=h;refine ⟨o,?_,rfl⟩
 rcases hs with hs|hs
 ·simp only [hs,w0h,w0x] at h1⊢;exact h1
 ·rw [←hs];exact h1
theorem z2Q {f:FuncId} {vs:List V} {base:Nat} {sto sto':List (Nat×zd)} {out:Out} (hs:out.rd=false∨sto=sto') (h:qe P f vs base sto (· =out)):qe P f vs base sto' (· =out):=by
 obtain ⟨o,h1,rfl⟩:=h;refine ⟨o,?_,rfl⟩
 rcases hs with hs|hs
 ·simp only [hs,w0h,w0x] at h1⊢;exact h1
 ·rw [←hs];exact h1
theorem zc5 {f:FuncId} {vs:List V} {base:Nat} {sto sto':List (Nat×zd)} {out:Out} (hs:∀k,k<base->zj sto' k=zj sto k) (h:z0d P f vs base sto (· =out)):z0d P f vs base sto' (· =out):=by
 obtain ⟨o,h1,rfl⟩:=h;refine ⟨o,?_,rfl⟩
 cases hr:o.rd with
 |false=>rw [hr] at h1;simpa using h1
 |true=>
  rw [hr] at h1;simp only [w17] at h1⊢;exact fun s hk=>h1 s fun k hb=>(hk k hb).trans (hs k hb)
theorem zaI {base:Nat} {op:AOp} {out:Out} (h:∀t∈op.z8,look st.env t=look st'.env t) (hs:out.rd=false∨st.s.sto=st'.s.sto) (he:evX P base st (· =out) op):evX P base st' (· =out) op:=by
 have v1:∀(x:Ar),(∀t∈x.z8,t∈op.z8)->x.u st=x.u st':=fun x hx=>z04 fun t ht=>h t (hx t ht)
 cases op with
 |st n x v=>
  simp only [evX] at he⊢
  rw [←v1 x (fun t ht=>by simp [AOp.z8,ht]),←v1 v (fun t ht=>by simp [AOp.z8,ht])]
  rcases hs with hs|hs
  ·exfalso;split at he
   ·split at he
    ·split at he
     ·obtain ⟨_,rfl⟩:=he;simp at hs
     ·exact he
    ·exact he
   ·exact he
  ·rw [←hs];exact he
 |box n x=>simp only [evX] at he⊢;rw [←v1 x (fun t ht=>ht)];exact he
 |alloc zs=>exact he
 |bsl a b c d=>simp only [evX] at he⊢;rw [←Qd (st:=st) (st':=st') h];exact he
 |app a b x y=>
  simp only [evX] at he⊢
  rw [←v1 x (fun t ht=>by simp [AOp.z8,ht]),←v1 y (fun t ht=>by simp [AOp.z8,ht])]
  rcases hs with hs|hs
  ·generalize (Ar.u st y).zw=cy at he⊢;generalize Ar.u st x=vx at he⊢
   cases cy with
   |none=>exact he
   |some z=>
    cases z with
    |lst ys=>
     cases vx with
     |zC=>exact he
     |own k s xs=>
      exfalso;simp only at he;split at he
      ·obtain ⟨_,_,_,_,_,rfl⟩:=he;simp at hs
      ·exact he
     |_=>exact he
    |_=>exact he
  ·rw [←hs];exact he
 |z97 a b c n=>simp only [evX] at he⊢;rw [←v1 n (fun t ht=>ht)];exact he
 |call f args=>simp only [evX] at he⊢;rw [←wT (st:=st) (st':=st') h];exact z9i hs he
 |z13 x args=>
  simp only [evX] at he⊢
  rw [←v1 x (fun t ht=>by simp [AOp.z8,ht]),←wT (st:=st) (st':=st') (fun t ht=>h t (by simp [AOp.z8,ht]))]
  generalize Ar.u st x=vx at he⊢
  cases vx with
  |t z=>
   cases z with
   |fn f=>exact z2Q hs he
   |_=>exact he
  |fn f caps=>exact z2Q hs he
  |_=>exact he
 |z3t a b=>exact he
 |Qq x=>
  simp only [evX] at he⊢;rw [←v1 x (fun t ht=>ht)]
  rcases hs with hs|hs
  ·exfalso;split at he
   ·split at he
    ·subst he;simp at hs
    ·exact he
   ·exact he
  ·rw [←hs];exact he
 |z94 x=>
  simp only [evX] at he⊢;rw [←v1 x (fun t ht=>ht)]
  rcases hs with hs|hs
  ·exfalso;split at he
   ·subst he;simp at hs
   ·split at he
    ·subst he;simp at hs
    ·exact he
   ·exact he
  ·rw [←hs];exact he
 |nw op=>
  have u1:∀(x:Ar),(∀t∈x.z8,t∈op.z8)->x.u st=x.u st':=fun x hx=>z04 fun t ht=>h t (by simp only [AOp.z8];exact hx t ht)
  have hrd:out.rd=true:=by
   simp only [evX] at he;unfold yi at he
   (repeat' split at he)<;>first |exact he.elim|(obtain ⟨_,rfl⟩:=he;rfl)|(subst he;rfl)
  have hs':st.s.sto=st'.s.sto:=by
   rcases hs with hs|hs
   ·rw [hrd] at hs;cases hs
   ·exact hs
  simp only [evX] at he⊢
  cases op with
  |zda ks kag x k v=>simp only [yi] at he⊢;rw [←u1 x (fun t ht=>by simp [NOp.z8,ht]),←u1 k (fun t ht=>by simp [NOp.z8,ht]),←u1 v (fun t ht=>by simp [NOp.z8,ht]),←hs'];exact he
  |zaK ks kag x k=>simp only [yi] at he⊢;rw [←u1 x (fun t ht=>by simp [NOp.z8,ht]),←u1 k (fun t ht=>by simp [NOp.z8,ht]),←hs'];exact he
  |zf2 x=>simp only [yi] at he⊢;rw [←u1 x (fun t ht=>ht),←hs'];exact he
  |ze8 ks kag zv x k=>simp only [yi] at he⊢;rw [←u1 x (fun t ht=>by simp [NOp.z8,ht]),←u1 k (fun t ht=>by simp [NOp.z8,ht]),←hs'];exact he
  |zen x s v=>simp only [yi] at he⊢;rw [←u1 x (fun t ht=>by simp [NOp.z8,ht]),←u1 s (fun t ht=>by simp [NOp.z8,ht]),←u1 v (fun t ht=>by simp [NOp.z8,ht]),←hs'];exact he
  |_=>exact he.elim
 |_=>exact he.elim
theorem QA {sz:Nat}:∀{ps:List (Nat×Ar)} {cs:List V},(∀t∈yw ps,look st.env t=look st'.env t)->YQ st sz cs ps=YQ st' sz cs ps
 |[],_,_=>rfl
 |(i,x)::r,cs,h=>by
  simp only [YQ];rw [z04 (st:=st) (st':=st') (fun t ht=>h t (by simp [yw,ht]))];have ih:=fun cs=>QA (sz:=sz) (ps:=r) (cs:=cs) (fun t ht=>h t (by simp [yw,ht]));simp only [ih]
theorem z4s {sz:Nat} {y:V} (hs:st.s.sto=st'.s.sto):z30 st sz y=z30 st' sz y:=by unfold z30;rw [hs]
theorem z8y {base:Nat} {op:AOp} {out:Out} (h:∀t∈op.z8,look st.env t=look st'.env t) (hs:out.rd=false∨st.s.sto=st'.s.sto) (he:z1Y st base op out):z1Y st' base op out:=by
 have v1:∀(x:Ar),(∀t∈x.z8,t∈op.z8)->x.u st=x.u st':=fun x hx=>z04 fun t ht=>h t (hx t ht)
 cases he with
 |@stG n x v _ _ _ _ _ _ hx hk hw hv hn ho hc=>
  have e:=hs.resolve_left (by simp)
  exact .stG (v1 x (fun t ht=>by simp [AOp.z8,ht])▸hx) (e▸hk) hw (v1 v (fun t ht=>by simp [AOp.z8,ht])▸hv) hn ho hc
 |@zc4 _ _ x y _ _ hx hy hc h1 h2=>
  have e:=hs.resolve_left (by simp)
  exact .zc4 (v1 x (fun t ht=>by simp [AOp.z8,ht])▸hx) (by rw [←z4s e,←v1 y (fun t ht=>by simp [AOp.z8,ht])];exact hy) hc h1 h2
 |@zcP _ _ x y _ _ _ _ _ _ _ hx hk hw hl hy hc h1 h2=>
  have e:=hs.resolve_left (by simp)
  exact .zcP (v1 x (fun t ht=>by simp [AOp.z8,ht])▸hx) (e▸hk) hw hl (by rw [←z4s e,←v1 y (fun t ht=>by simp [AOp.z8,ht])];exact hy) hc h1 h2
 |zb7 hp=>
  exact .zb7 (by rw [←QA (st:=st) (st':=st') (fun t ht=>h t (by simpa [AOp.z8] using ht))];exact hp)
 |@z9t _ _ x _ _ _ _ _ _ hx hk hw ho=>
  have e:=hs.resolve_left (by simp)
  exact .z9t (v1 x (fun t ht=>by simp [AOp.z8,NOp.z8,ht])▸hx) (e▸hk) hw ho
theorem z4h {base:Nat} {op:AOp} {out:Out} (h:∀t∈op.z8,look st.env t=look st'.env t) (hs:out.rd=false∨st.s.sto=st'.s.sto) (he:evX P base st (· =out) op∨evY base st (· =out) op):evX P base st' (· =out) op∨evY base st' (· =out) op:=by
 rcases he with he|⟨o',he,rfl⟩
 ·exact .inl (zaI h hs he)
 ·exact .inr ⟨_,z8y h hs he,rfl⟩
theorem z3U {base:Nat} {op:AOp} {out:Out} (he:evX P base st (· =out) op∨evY base st (· =out) op):Z2 st op=false:=by
 rcases he with he|⟨o',he,rfl⟩
 ·cases op with
  |nw op=>cases op<;>simp_all [Z2,evX,yi]
  |_=>simp_all [Z2,evX]
 ·cases he<;>rfl
theorem z5j {base:Nat} {ao:AO} {out:Out} (h:∀t∈ao.reads,look st.env t=look st'.env t) (hs:out.rd=false∨st.s.sto=st'.s.sto) (he:evO P base st ao (· =out)):evO P base st' ao (· =out):=by
 have hop:∀t∈ao.op.z8,look st.env t=look st'.env t:=fun t ht=>h t (by simp [AO.reads,ht]);unfold evO at he⊢
 cases hg:ao.g with
 |none=>
  simp only [hg] at he⊢;unfold evU at he⊢
  cases hev:zk true st ao.op with
  |some r=>
   obtain ⟨v,ps⟩:=r;simp only [hev] at he;obtain ⟨h1,rfl⟩:=he;rw [←wW hop (by simpa using hs),hev];simp only
   exact ⟨h1,by rw [Q7 (st:=st) (st':=st') hop]⟩
  |none=>
   simp only [hev] at he
   have:zk true st' ao.op=none:=by
    rw [←wW hop (.inl (z3U he))];exact hev
   rw [this];exact z4h hop hs he
 |some g=>
  obtain ⟨s,want⟩:=g;simp only [hg] at he⊢;rw [←h s (by simp [AO.reads,hg])]
  cases hc:z51 want (look st.env s) with
  |none=>simp only [hc] at he
  |some gc=>
   simp only [hc] at he⊢
   cases hev:zk gc st ao.op with
   |some r=>
    obtain ⟨v,ps⟩:=r;simp only [hev] at he;obtain ⟨h1,rfl⟩:=he;rw [←wW hop (by simpa using hs),hev];simp only
    exact ⟨h1,by rw [Q7 (st:=st) (st':=st') hop]⟩
   |none=>
    simp only [hev] at he
    rcases he with he|he
    ·have hcg:Qr P gc base st' (· =out) ao.op:=by
      cases hao:ao.op<;>rw [hao] at he<;>try (exact he.elim)
      rename_i f args;simp only [Qr] at he⊢;rw [hao] at hop;rw [←wT (st:=st) (st':=st') hop];obtain ⟨o,h1,h2,rfl⟩:=he;refine ⟨o,fun hg=>?_,h2,rfl⟩;have:=h1 hg
      rcases hs with hs|hs
      ·simp only at hs;simp only [hs,w0h,w0x] at this⊢;exact this
      ·rw [←hs];exact this
     have hnone:zk gc st' ao.op=none:=by
      cases hao:ao.op<;>rw [hao] at hcg<;>first |exact hcg.elim|rfl
     rw [hnone];exact Or.inl hcg
    cases gc with
    |false=>
     have hout:=he.2 rfl;subst hout;rw [←wW hop (by simpa using hs),hev]
     exact Or.inr ⟨by simp,fun _=>by rw [Q7 (st:=st) (st':=st') hop]⟩
    |true=>
     have hx:=he.1 rfl
     have:zk true st' ao.op=none:=by
      rw [←wW hop (.inl (z3U hx))];exact hev
     simp only [this]
     exact Or.inr ⟨fun _=>z4h hop hs hx,by simp⟩
end
def stD (D:Nat->Bool):Nat->St->List AO->List Out->St
 |i,st,ao::r,out::os=>stD D (i+1) (if D i then st.app ao.dst out else st) r os
 |_,st,_,_=>st
def wV:List Out->Nat
 |[]=>0
 |o::r=>o.n+wV r
def z6d:List (List Nat)->List Nat->List Nat
 |[],acc=>acc
 |l::r,acc=>z6d r (acc++[l.foldl (fun s j=>s|||(2 ^ j|||acc.getD j 0)) 0])
def AO.zfV (a b:AO):Bool:=
 match a.dst with
 |some d=>b.reads.contains d
 |none=>false
def AO.same (a b:AO):Bool:=
 match a.dst with
 |some d=>b.dst==some d
 |none=>false
def AO.z2I (a b:AO):Bool:=(a.zfV b||b.zfV a)||(a.same b||b.same a)
def AO.W1 (a:AO):Bool:=
 match a.g,a.op with
 |none,.ld _ _ (.s _)=>true
 |none,.nw (.lookup _ _ _ _ (.s _) _)=>true
 |none,.ia _ (.s _) _=>true
 |none,.fa _ (.s _)=>true
 |_,_=>false
def AO.z2q (a:AO):Bool:=
 match a.g,a.op with
 |none,.call _ _=>true
 |_,_=>false
theorem z8w {a:AO} (h:a.W1=true):a.z2q=false:=by
 obtain ⟨d,g,op⟩:=a;unfold AO.W1 at h;unfold AO.z2q
 cases g with
 |some _=>rfl
 |none=>cases op<;>first |rfl|cases h
def Ar.still (env:List (Nat×V)) (rest:List AO):Ar->Bool
 | .c _=>true
 | .s t=>(match look env t with| .t _=>true|_=>false)&&rest.all (fun o=>!(o.dst==some t))
def z6t (env:List (Nat×V)) (rest:List AO) (a:AO):Option Nat:=
 match a.g,a.op with
 |none,.ld _ _ (.s t)=>
  match ((look env t).un true).1,rest.all (fun o=>!(o.dst==some t)) with
  | .ptr k _,true=>some k
  | .gpt k _ _,true=>some k
  | .fpt k _ _,true=>some k
  |_,_=>none
 |none,.fa _ (.s t)=>
  match ((look env t).un true).1,rest.all (fun o=>!(o.dst==some t)) with
  | .gpt k _ _,true=>some k
  |_,_=>none
 |none,.ia _ (.s t) i=>
  match ((look env t).un true).1,rest.all (fun o=>!(o.dst==some t)),i.still env rest with
  | .gsl k _ _ _ _,true,true=>some k
  |_,_,_=>none
 |_,_=>none
def storeAt (env:List (Nat×V)) (rest:List AO) (a:AO):Option Nat:=
 match a.g,a.op with
 |none,.st _ (.s t) _=>
  match (look env t).ug,rest.all (fun o=>!(o.dst==some t)) with
  | .ptr k _,true=>some k
  | .gpt k _ _,true=>some k
  | .fpt k _ _,true=>some k
  |_,_=>none
 |none,.app _ _ (.s t) _=>
  match (look env t).ug,rest.all (fun o=>!(o.dst==some t)) with
  | .own k _ _,true=>some k
  | .fow k _ _ _,true=>some k
  | .gsl k _ _ _ _,true=>some k
  |_,_=>none
 |none,.bsl _ _ _ _=>
  match a.dst with
  |some d=>
   match look env d,rest.tail.all (fun o=>!(o.dst==some d)) with
   | .fow k _ _ _,true=>some k
   |_,_=>none
  |none=>none
 |none,.box _ _=>
  match a.dst with
  |some d=>
   match look env d,rest.tail.all (fun o=>!(o.dst==some d)) with
   | .fpt k _ _,true=>some k
   |_,_=>none
  |none=>none
 |_,_=>none
def z6F (aos:List AO) (env:List (Nat×V)) (a b:Nat):Bool:=
 match z6t env (aos.drop a) (aos.getD a ⟨none,none,.cst .top⟩),storeAt env (aos.drop b) (aos.getD b ⟨none,none,.cst .top⟩) with
 |some k,some q=>!(k==q)
 |_,_=>false
def z9D (bm:List Nat) (aos:List AO) (fl:List (Bool×Bool)) (env:List (Nat×V)) (j i:Nat):Bool:=
 (bm.getD i 0).testBit j||
  (!((aos.getD j ⟨none,none,.cst .top⟩).z2I (aos.getD i ⟨none,none,.cst .top⟩))&&!((fl.getD j (false,false)).1&&(fl.getD i (false,false)).2&&!((aos.getD j ⟨none,none,.cst .top⟩).W1&&!(fl.getD i (false,false)).1)&&!((aos.getD j ⟨none,none,.cst .top⟩).z2q&&!(fl.getD i (false,false)).1)&&!(z6F aos env j i))&&
   !((fl.getD i (false,false)).1&&(fl.getD j (false,false)).2&&!((aos.getD i ⟨none,none,.cst .top⟩).W1&&!(fl.getD j (false,false)).1)&&!(z6F aos env i j)))
def indep (aos:List AO) (after:List (List Nat)) (fl:List (Bool×Bool)) (env:List (Nat×V)):Bool:=
 (after.zipIdx.all fun p=>p.1.all fun j=>decide (j<p.2))&&
 (List.range aos.length).all fun i=>(List.range i).all fun j=>z9D (z6d after []) aos fl env j i
theorem z8g {aos:List AO} {env:List (Nat×V)} {a b:Nat} (h:z6F aos env a b=true):∃k q,z6t env (aos.drop a) (aos.getD a ⟨none,none,.cst .top⟩)=some k/\storeAt env (aos.drop b) (aos.getD b ⟨none,none,.cst .top⟩)=some q/\k≠q:=by
 unfold z6F at h;split at h
 ·rename_i k q h1 h2;exact ⟨k,q,h1,h2,by simpa using h⟩
 ·cases h
theorem z9x {base:Nat} {st:St} {K:Out->Prop} {ag:Bool} {n:Nat} {x:Ar}:evY base st K (.ld ag n x)↔False:=⟨(by rintro ⟨_,h,_⟩;cases h),False.elim⟩
theorem z10 {base:Nat} {st:St} {K:Out->Prop} {ks:List KSh} {kag:Bool} {zv:V} {ok:Bool} {x k:Ar}:evY base st K (.nw (.lookup ks kag zv ok x k))↔False:=⟨(by rintro ⟨_,h,_⟩;cases h),False.elim⟩
theorem z9B {base:Nat} {st:St} {K:Out->Prop} {sz:Nat} {x i:Ar}:evY base st K (.ia sz x i)↔False:=⟨(by rintro ⟨_,h,_⟩;cases h),False.elim⟩
theorem z9f {base:Nat} {st:St} {K:Out->Prop} {off:Nat} {x:Ar}:evY base st K (.fa off x)↔False:=⟨(by rintro ⟨_,h,_⟩;cases h),False.elim⟩
theorem z5N {env:List (Nat×V)} {rest:List AO} {a:AO} {k:Nat} (h:z6t env rest a=some k):a.W1=true/\∀s∈a.reads,(∀o∈rest,o.dst≠some s)/\∀q ps,((∃o,(look env s).un true=(.ptr q o,ps))∨(look env s).un true=(.mp q,ps)∨(∃i o,(look env s).un true=(.fpt q i o,ps))∨(∃ver o,0<ver/\(look env s).un true=(.gpt q ver o,ps))∨∃ver o l z,0<ver/\(look env s).un true=(.gsl q ver o l z,ps))->q=k:=by
 have hall:∀t,rest.all (fun o=>!(o.dst==some t))=true->∀o∈rest,o.dst≠some t:=fun t h2 o ho=>by
  have:=w0i.1 h2 o ho;simpa using this
 obtain ⟨dst,g,op⟩:=a;unfold z6t at h;split at h
 ·rename_i ag n t hg hop;simp only at hg hop;subst hg;subst hop;refine ⟨rfl,fun s hs=>?_⟩
  have hs':s=t:=by simpa [AO.reads,AOp.z8,Ar.z8] using hs
  subst hs';split at h
  ·rename_i q o h1 h2;simp only [w00] at h;subst h;refine ⟨hall _ h2,fun q' ps hq=>?_⟩
   rcases hq with ⟨o',hq⟩|hq|⟨_,_,hq⟩|⟨_,_,_,hq⟩|⟨_,_,_,_,_,hq⟩<;>rw [hq] at h1<;>simp at h1
   exact h1.1
  ·rename_i q r o h1 h2;simp only [w00] at h;subst h;refine ⟨hall _ h2,fun q' ps hq=>?_⟩
   rcases hq with ⟨o',hq⟩|hq|⟨_,_,hq⟩|⟨_,_,_,hq⟩|⟨_,_,_,_,_,hq⟩<;>rw [hq] at h1<;>simp at h1
   exact h1.1
  ·rename_i q r o h1 h2;simp only [w00] at h;subst h;refine ⟨hall _ h2,fun q' ps hq=>?_⟩
   rcases hq with ⟨o',hq⟩|hq|⟨_,_,hq⟩|⟨_,_,_,hq⟩|⟨_,_,_,_,_,hq⟩<;>rw [hq] at h1<;>simp at h1
   exact h1.1
  ·cases h
 ·rename_i off t hg hop;simp only at hg hop;subst hg;subst hop;refine ⟨rfl,fun s hs=>?_⟩
  have hs':s=t:=by simpa [AO.reads,AOp.z8,Ar.z8] using hs
  subst hs';split at h
  ·rename_i q r o h1 h2;simp only [w00] at h;subst h;refine ⟨hall _ h2,fun q' ps hq=>?_⟩
   rcases hq with ⟨o',hq⟩|hq|⟨_,_,hq⟩|⟨_,_,_,hq⟩|⟨_,_,_,_,_,hq⟩<;>rw [hq] at h1<;>simp at h1
   exact h1.1
  ·cases h
 ·rename_i sz t i hg hop;simp only at hg hop;subst hg;subst hop;refine ⟨rfl,fun s hs=>?_⟩;split at h
  ·rename_i q r o l z h1 h2 h3;simp only [w00] at h;subst h
   have hs':s=t∨s∈i.z8:=by simpa [AO.reads,AOp.z8,Ar.z8] using hs
   rcases hs' with rfl|hs'
   ·refine ⟨hall _ h2,fun q' ps hq=>?_⟩
    rcases hq with ⟨o',hq⟩|hq|⟨_,_,hq⟩|⟨_,_,_,hq⟩|⟨_,_,_,_,_,hq⟩<;>rw [hq] at h1<;>simp at h1
    exact h1.1
   ·cases i with
    |c v=>simp [Ar.z8] at hs'
    |s u=>
     have hu:s=u:=by simpa [Ar.z8] using hs'
     subst hu;simp only [Ar.still,w07] at h3;refine ⟨hall _ h3.2,fun q' ps hq=>?_⟩;have h4:=h3.1;split at h4
     ·rename_i x hx;rw [hx] at hq;simp [V.un] at hq
     ·cases h4
  ·cases h
 ·cases h
theorem zem {base:Nat} {st:St} {out:Out} {n k:Nat} {x v:Ar} (hx:(∃o,x.u st= .ptr k o)∨(∃r o,x.u st= .gpt k r o)∨∃i o,x.u st= .fpt k i o) (h:z1Y st base (.st n x v) out):∀q y,(q,y)∈out.ob->q=k:=by
 cases h with
 |stG h=>
  rcases hx with ⟨o,hx⟩|⟨r,o,hx⟩|⟨i,o,hx⟩<;>rw [hx] at h<;>simp at h
  intro q y hq;simp at hq;rw [hq.1,h.1]
theorem zdG {base:Nat} {st:St} {out:Out} {sz b k:Nat} {x v:Ar} (hx:(∃s xs,x.u st= .own k s xs)∨(∃i s xs,x.u st= .fow k i s xs)∨∃r o l s,x.u st= .gsl k r o l s) (h:z1Y st base (.app sz b x v) out):∀q y,(q,y)∈out.ob->q=k:=by
 cases h with
 |zc4 h=>rcases hx with ⟨s,xs,hx⟩|⟨i,s,xs,hx⟩|⟨r,o,l,s,hx⟩<;>rw [hx] at h<;>simp at h
 |zcP h=>
  rcases hx with ⟨s,xs,hx⟩|⟨i,s,xs,hx⟩|⟨r,o,l,s,hx⟩<;>rw [hx] at h<;>simp at h
  intro q y hq;simp at hq;rw [hq.1,h.1]
theorem z8M {P:Program} {env:List (Nat×V)} {rest:List AO} {a:AO} {k:Nat} (h:storeAt env rest a=some k):(∃t,(∀o∈rest,o.dst≠some t)/\
  ∀(base:Nat) (st:St) (out:Out),look st.env t=look env t->evO P base st a (· =out)->∀q x,(q,x)∈out.ob->q=k)∨
  ∃d,a.dst=some d/\(∀o∈rest.tail,o.dst≠some d)/\∀(base:Nat) (st:St) (out:Out),look env d=out.v->evO P base st a (· =out)->∀q x,(q,x)∈out.ob->q=k:=by
 have hall:∀t,rest.all (fun o=>!(o.dst==some t))=true->∀o∈rest,o.dst≠some t:=fun t h2 o ho=>by
  have:=w0i.1 h2 o ho;simpa using this
 have hall2:∀t,rest.tail.all (fun o=>!(o.dst==some t))=true->∀o∈rest.tail,o.dst≠some t:=fun t h2 o ho=>by
  have:=w0i.1 h2 o ho;simpa using this
 obtain ⟨dst,g,op⟩:=a;unfold storeAt at h;split at h
 ·rename_i n t w hg hop;simp only at hg hop;subst hg;subst hop
  have key:∀(base:Nat) (st:St) (out:Out),((∃o,(Ar.s t).u st= .ptr k o)∨(∃r o,(Ar.s t).u st= .gpt k r o)∨∃i o,(Ar.s t).u st= .fpt k i o)->evO P base st ⟨dst,none,.st n (.s t) w⟩ (· =out)->∀q x,(q,x)∈out.ob->q=k:=by
   intro base st out hu hev q' x hx;simp only [evO,evU,zk] at hev
   rcases hev with hev|⟨o,hy,rfl⟩
   ·simp only [evX] at hev
    rcases hu with ⟨o,hu⟩|⟨r,o,hu⟩|⟨i,o,hu⟩<;>rw [hu] at hev<;>simp only at hev
    split at hev
    ·split at hev
     ·obtain ⟨_,rfl⟩:=hev;simp at hx;exact hx.1
     ·exact hev.elim
    ·exact hev.elim
   ·exact zem hu hy q' x hx
  split at h
  ·rename_i q o h1 h2;simp only [w00] at h;subst h;exact .inl ⟨t,hall _ h2,fun base st out he=>key base st out (.inl ⟨o,by rw [Ar.u,Ar.v,he];exact h1⟩)⟩
  ·rename_i q r o h1 h2;simp only [w00] at h;subst h;exact .inl ⟨t,hall _ h2,fun base st out he=>key base st out (.inr (.inl ⟨r,o,by rw [Ar.u,Ar.v,he];exact h1⟩))⟩
  ·rename_i q i o h1 h2;simp only [w00] at h;subst h;exact .inl ⟨t,hall _ h2,fun base st out he=>key base st out (.inr (.inr ⟨i,o,by rw [Ar.u,Ar.v,he];exact h1⟩))⟩
  ·cases h
 ·rename_i sz b t w hg hop;simp only at hg hop;subst hg;subst hop
  have key:∀(base:Nat) (st:St) (out:Out),((∃s xs,(Ar.s t).u st= .own k s xs)∨(∃i s xs,(Ar.s t).u st= .fow k i s xs)∨∃r o l s,(Ar.s t).u st= .gsl k r o l s)->evO P base st ⟨dst,none,.app sz b (.s t) w⟩ (· =out)->∀q x,(q,x)∈out.ob->q=k:=by
   intro base st out hu hev q' x hx;simp only [evO,evU,zk] at hev
   rcases hev with hev|⟨o,hy,rfl⟩
   ·simp only [evX] at hev;split at hev
    ·rcases hu with ⟨s,xs,hu⟩|⟨i,s,xs,hu⟩|⟨r,o,l,s,hu⟩<;>rw [hu] at hev<;>simp only at hev
     split at hev
     ·obtain ⟨_,_,_,_,_,rfl⟩:=hev;simp at hx;exact hx.1
     ·exact hev.elim
    ·exact hev.elim
   ·exact zdG hu hy q' x hx
  split at h
  ·rename_i q s xs h1 h2;simp only [w00] at h;subst h;exact .inl ⟨t,hall _ h2,fun base st out he=>key base st out (.inl ⟨s,xs,by rw [Ar.u,Ar.v,he];exact h1⟩)⟩
  ·rename_i q i s xs h1 h2;simp only [w00] at h;subst h;exact .inl ⟨t,hall _ h2,fun base st out he=>key base st out (.inr (.inl ⟨i,s,xs,by rw [Ar.u,Ar.v,he];exact h1⟩))⟩
  ·rename_i q r o l s h1 h2;simp only [w00] at h;subst h;exact .inl ⟨t,hall _ h2,fun base st out he=>key base st out (.inr (.inr ⟨r,o,l,s,by rw [Ar.u,Ar.v,he];exact h1⟩))⟩
  ·cases h
 ·rename_i ow sz zs ps hg hop;simp only at hg hop;subst hg;subst hop;split at h
  ·rename_i d hd;simp only at hd;subst hd;split at h
   ·rename_i q i s xs h1 h2;simp only [w00] at h;subst h;refine .inr ⟨d,rfl,hall2 _ h2,fun base st out he hev q' x hx=>?_⟩;rw [h1] at he;simp only [evO,evU,zk] at hev
    rcases hev with hev|⟨o,hy,rfl⟩
    ·simp only [evX] at hev;split at hev
     ·split at hev
      ·rcases hev.2 with hev|hev
       ·split at hev<;>subst hev<;>cases he
       ·subst hev;cases he
      ·have:=hev.2;subst this;cases he
     ·exact hev.elim
    ·cases hy with
     |zb7 _=>cases he
   ·cases h
  ·cases h
 ·rename_i nb xb hg hop;simp only at hg hop;subst hg;subst hop;split at h
  ·rename_i d hd;simp only at hd;subst hd;split at h
   ·rename_i q i o' h1 h2;simp only [w00] at h;subst h;refine .inr ⟨d,rfl,hall2 _ h2,fun base st out he hev q' x hx=>?_⟩;rw [h1] at he;simp only [evO,evU,zk] at hev
    rcases hev with hev|⟨o,hy,rfl⟩
    ·simp only [evX] at hev;split at hev
     ·obtain ⟨_,hev⟩:=hev;subst hev;cases he
     ·exact hev.elim
    ·cases hy
   ·cases h
  ·cases h
 ·cases h
section
variable {P:Program} {ops:Array Oper}
theorem zeG {P:Program} {base:Nat} {st st':St} {ao:AO} {out:Out} (hc:ao.z2q=true) (h:∀t∈ao.reads,look st.env t=look st'.env t) (hs:∀k,k<base->zj st'.s.sto k=zj st.s.sto k) (he:evO P base st ao (· =out)):evO P base st' ao (· =out):=by
 obtain ⟨d,g,op⟩:=ao;unfold AO.z2q at hc;split at hc
 ·rename_i f args hg hop;simp only at hg hop;subst hg;subst hop;simp only [evO,evU,zk] at he⊢
  rcases he with he|⟨o,he,_⟩
  ·left;simp only [evX] at he⊢;rw [←wT (st:=st) (st':=st') (fun t ht=>h t (by simpa [AO.reads,AOp.z8] using ht))];exact zc5 hs he
  ·cases he
 ·cases hc
structure Eqv (s t:St):Prop where
 env:∀x,look s.env x=look t.env x
 sto:∀k,zj s.s.sto k=zj t.s.sto k
theorem Eqv.refl (s:St):Eqv s s:=⟨fun _=>rfl,fun _=>rfl⟩
theorem Eqv.trans {a b c:St} (h:Eqv a b) (k:Eqv b c):Eqv a c:=⟨fun x=>(h.env x).trans (k.env x),fun x=>(h.sto x).trans (k.sto x)⟩
theorem Eqv.symm {a b:St} (h:Eqv a b):Eqv b a:=⟨fun x=>(h.env x).symm,fun x=>(h.sto x).symm⟩
theorem zT.eqv {Λ:L} {s t:S} (h:zT Λ s) (e:∀k,zj s.sto k=zj t.sto k):zT Λ t:=
 ⟨fun k o hk=>h.sto k o (by rw [e];exact hk),h.inj,h.new,h.bnd,h.frz,h.YX,h.Yu,h.z2g⟩
theorem Rel.eqv {C:Ctx} {Λ:L} {s t:St} {a:Act} (h:Rel C Λ s a) (e:Eqv s t):Rel C Λ t a:=
 ⟨h.kp,h.size,h.defers,fun x=>by rw [←e.env];exact h.env x,h.s.eqv e.sto⟩
theorem zY:∀(ob s:List (Nat×zd)) (k:Nat),(∀o,(k,o)∉ob)->zj (Zf s ob) k=zj s k
 |[],s,k,_=>rfl
 |(j,o)::r,s,k,h=>by
  have hj:j≠k:=by rintro rfl;exact h o (by simp)
  simp only [Zf];rw [zY r _ k (fun o' ho=>h o' (w0k _ ho)),Zb];simp [hj]
theorem Yh:∀(ob s s':List (Nat×zd)) (k:Nat),(∃o,(k,o)∈ob)->zj (Zf s ob) k=zj (Zf s' ob) k
 |[],s,s',k,h=>by obtain ⟨o,h⟩:=h;simp at h
 |(j,o)::r,s,s',k,h=>by
  simp only [Zf];by_cases hr:∃o',(k,o')∈r
  ·exact Yh r _ _ k hr
  ·have hr':∀o',(k,o')∉r:=fun o' ho=>hr ⟨o',ho⟩;rw [zY r _ k hr',zY r _ k hr',Zb,Zb]
   have:j=k:=by
    obtain ⟨o',ho⟩:=h
    rcases w0t.1 ho with e|e
    ·simp at e;exact e.1.symm
    ·exact (hr' o' e).elim
   simp [this]
theorem z23 (ob s s':List (Nat×zd)) (h:∀k,zj s k=zj s' k) (k:Nat):zj (Zf s ob) k=zj (Zf s' ob) k:=by
 by_cases hk:∃o,(k,o)∈ob
 ·exact Yh ob s s' k hk
 ·have hk':∀o',(k,o')∉ob:=fun o' ho=>hk ⟨o',ho⟩;rw [zY ob _ k hk',zY ob _ k hk',h]
theorem Eqv.app {s t:St} (h:Eqv s t) (d:Option Nat) (o:Out):Eqv (s.app d o) (t.app d o):=by
 refine ⟨fun x=>?_,z23 _ _ _ h.sto⟩
 cases d with
 |none=>exact h.env x
 |some d=>simp only [St.app,Yz,h.env x]
theorem zdd (s:St) {d d':Option Nat} {o o':Out} (hd:∀x,d=some x->d'≠some x) (ho:∀k a b,(k,a)∈o.ob->(k,b)∉o'.ob):Eqv ((s.app d o).app d' o') ((s.app d' o').app d o):=by
 refine ⟨fun x=>?_,fun k=>?_⟩
 ·cases d with
  |none=>cases d'<;>simp [St.app,Yz]
  |some d=>
   cases d' with
   |none=>simp [St.app,Yz]
   |some d'=>
    have:d≠d':=by rintro rfl;exact hd d rfl rfl
    simp only [St.app,Yz];by_cases h1:d=x
    ·subst h1;simp [Ne.symm this]
    ·simp [h1]
 ·show zj (Zf (Zf s.s.sto o.ob) o'.ob) k=zj (Zf (Zf s.s.sto o'.ob) o.ob) k;by_cases hk:∃a,(k,a)∈o.ob
  ·obtain ⟨a,ha⟩:=hk;rw [zY o'.ob _ k (fun b=>ho k a b ha)];exact Yh _ _ _ k ⟨a,ha⟩
  ·have hk':∀a,(k,a)∉o.ob:=fun a ha=>hk ⟨a,ha⟩;rw [zY o.ob _ k hk'];by_cases hk2:∃b,(k,b)∈o'.ob
   ·exact Yh _ _ _ k hk2
   ·have hk2':∀b,(k,b)∉o'.ob:=fun b hb=>hk2 ⟨b,hb⟩;rw [zY o'.ob _ k hk2',zY o'.ob _ k hk2',zY o.ob _ k hk']
theorem z9Z (D:Nat->Bool):∀(r:List AO) (os:List Out) (i:Nat) {s t:St},Eqv s t->Eqv (stD D i s r os) (stD D i t r os)
 |[],os,i,s,t,h=>by cases os<;>exact h
 |ao::r,[],i,s,t,h=>h
 |ao::r,o::os,i,s,t,h=>by
  simp only [stD];refine z9Z D r os (i+1) ?_;split
  ·exact h.app _ _
  ·exact h
theorem z6Q {D D':Nat->Bool}:∀(r:List AO) (os:List Out) (i:Nat) (s:St),(∀j,i<=j->j<i+r.length->D j=D' j)->stD D i s r os=stD D' i s r os
 |[],os,i,s,h=>by cases os<;>rfl
 |ao::r,[],i,s,h=>rfl
 |ao::r,o::os,i,s,h=>by
  simp only [stD,h i (w09 _) (by simp)];exact z6Q r os (i+1) _ (fun j h1 h2=>h j (by omega) (by simp;omega))
theorem Qt {D:Nat->Bool}:∀(r:List AO) (os:List Out) (i:Nat) (s:St),(∀j,i<=j->D j=false)->stD D i s r os=s
 |[],os,i,s,h=>by cases os<;>rfl
 |ao::r,[],i,s,h=>rfl
 |ao::r,o::os,i,s,h=>by
  simp only [stD,h i (w09 _),w0h,w0x];exact Qt r os (i+1) _ (fun j h1=>h j (by omega))
theorem z7Q:∀(r:List AO) (os:List Out) (i:Nat) (s:St) (n:Nat) (ao:AO) (o:Out),r[n]?=some ao->os[n]?=some o->stD (fun l=>decide (l<i+n+1)) i s r os=(stD (fun l=>decide (l<i+n)) i s r os).app ao.dst o
 |[],_,_,_,n,ao,o,h,_=>by simp at h
 |_::_,[],_,_,n,ao,o,_,h=>by simp at h
 |a::r,p::os,i,s,0,ao,o,h1,h2=>by
  simp at h1 h2;subst h1;subst h2
  have e1:decide (i<i+0+1)=true:=by simp
  have e2:decide (i<i+0)=false:=by simp
  simp only [stD,e1,e2,w17]
  rw [Qt _ _ _ _ (fun j hj=>by simp;omega),Qt _ _ _ _ (fun j hj=>by simp;omega)]
  simp
 |a::r,p::os,i,s,n+1,ao,o,h1,h2=>by
  have e1:decide (i<i+(n+1)+1)=true:=by simp;omega
  have e2:decide (i<i+(n+1))=true:=by simp
  simp only [stD,e1,e2,w17];have:=z7Q r os (i+1) (s.app a.dst p) n ao o (by simpa using h1) (by simpa using h2)
  have a1:i+1+n+1=i+(n+1)+1:=by omega
  have a2:i+1+n=i+(n+1):=by omega
  rw [a1,a2] at this;exact this
theorem z4v {D D':Nat->Bool} {t:Nat}:∀(r:List AO) (os:List Out) (i:Nat) (s s':St),(∀j ao,r[j]?=some ao->ao.dst=some t->D (i+j)=D' (i+j))->look s.env t=look s'.env t->look (stD D i s r os).env t=look (stD D' i s' r os).env t
 |[],os,i,s,s',h,e=>by cases os<;>exact e
 |ao::r,[],i,s,s',h,e=>e
 |ao::r,o::os,i,s,s',h,e=>by
  simp only [stD]
  refine z4v r os (i+1) _ _ (fun j a hj hd=>by have:=h (j+1) a (by simpa using hj) hd;rw [w1e,w2c 1 j];exact this) ?_
  by_cases hd:ao.dst=some t
  ·have:=h 0 ao rfl hd;simp only [w1w] at this;rw [this];split
   ·simp [St.app,hd,Yz]
   ·exact e
  ·have key:∀(u:St),look (u.app ao.dst o).env t=look u.env t:=by
    intro u
    cases hdd:ao.dst with
    |none=>rfl
    |some d=>
     have:d≠t:=by rintro rfl;exact hd hdd
     simp [St.app,Yz,this]
   have key2:∀(b:Bool) (u:St),look (if b then u.app ao.dst o else u).env t=look u.env t:=by
    intro b u;cases b
    ·rfl
    ·exact key u
   rw [key2,key2];exact e
theorem z9W {D D':Nat->Bool}:∀(r:List AO) (os:List Out) (i:Nat) (s s':St),(∀j o,os[j]?=some o->o.ob≠[]->D (i+j)=D' (i+j))->s.s.sto=s'.s.sto->(stD D i s r os).s.sto=(stD D' i s' r os).s.sto
 |[],os,i,s,s',h,e=>by cases os<;>exact e
 |ao::r,[],i,s,s',h,e=>e
 |ao::r,o::os,i,s,s',h,e=>by
  simp only [stD]
  refine z9W r os (i+1) _ _ (fun j a hj hd=>by have:=h (j+1) a (by simpa using hj) hd;rw [w1e,w2c 1 j];exact this) ?_
  by_cases hob:o.ob=[]
  ·have key2:∀(b:Bool) (u:St),(if b then u.app ao.dst o else u).s.sto=u.s.sto:=by
    intro b u;cases b
    ·rfl
    ·simp [St.app,S.app,hob,Zf]
   rw [key2,key2];exact e
  ·have:=h 0 o rfl hob;simp only [w1w] at this;rw [this];split
   ·simp only [St.app,S.app,e]
   ·exact e
def V.names (v:V) (k:Nat):Prop:=∃ps,Zg ps/\((∃o,v.un true=(.ptr k o,ps))∨v.un true=(.mp k,ps)∨(∃i o,v.un true=(.fpt k i o,ps))∨(∃ver o,0<ver/\v.un true=(.gpt k ver o,ps))∨∃ver o l z,0<ver/\v.un true=(.gsl k ver o l z,ps))
theorem V.z8x {Λ:L} {u:Value} {v:V} {k:Nat} (h:zr Λ u v) (hn:v.names k) (hf:ZU Λ k):False:=by
 obtain ⟨ps,hp,hn⟩:=hn
 have key:∀y:V,zr Λ u y->((∃o,y= .ptr k o)∨y= .mp k∨(∃i o,y= .fpt k i o)∨(∃ver o,0<ver/\y= .gpt k ver o)∨∃ver o l z,0<ver/\y= .gsl k ver o l z)->False:=by
  intro y hy hh
  rcases hh with ⟨o,rfl⟩|rfl|⟨i,o,rfl⟩|⟨ver,o,hv,rfl⟩|⟨ver,o,l,z,hv,rfl⟩
  ·cases hy;exact hf.obj _ ‹_›
  ·cases hy;exact hf.obj _ ‹_›
  ·cases hy;exact hf.fob _ _ ‹_›
  ·cases hy with
   |gpt _ _ h3 _=>have:=hf.frf 0;omega
  ·cases hy with
   |gsl _ _ h3 _=>have:=hf.frf 0;omega
 cases v<;>simp only [V.un,w05] at hn
 case gd c x=>
  have hc:c=true:=by
   rcases hn with ⟨o,_,rfl⟩|⟨_,rfl⟩|⟨_,_,_,rfl⟩|⟨_,_,_,_,rfl⟩|⟨_,_,_,_,_,_,rfl⟩<;>simpa [Zg] using hp
  subst hc
  cases h with
  |gd h _=>
   refine key x (h Z) ?_
   rcases hn with ⟨o,h1,_⟩|⟨h1,_⟩|⟨i,o,h1,_⟩|⟨ver,o,h0,h1,_⟩|⟨ver,o,l,z,h0,h1,_⟩
   ·exact .inl ⟨o,h1⟩
   ·exact .inr (.inl h1)
   ·exact .inr (.inr (.inl ⟨i,o,h1⟩))
   ·exact .inr (.inr (.inr (.inl ⟨ver,o,h0,h1⟩)))
   ·exact .inr (.inr (.inr (.inr ⟨ver,o,l,z,h0,h1⟩)))
 all_goals
  refine key _ h ?_
  rcases hn with ⟨o,h1,_⟩|⟨h1,_⟩|⟨i,o,h1,_⟩|⟨ver,o,h0,h1,_⟩|⟨ver,o,l,z,h0,h1,_⟩
  ·exact .inl ⟨o,h1⟩
  ·exact .inr (.inl h1)
  ·exact .inr (.inr (.inl ⟨i,o,h1⟩))
  ·exact .inr (.inr (.inr (.inl ⟨ver,o,h0,h1⟩)))
  ·exact .inr (.inr (.inr (.inr ⟨ver,o,l,z,h0,h1⟩)))
theorem qj {a b:List Bool} (h:Zg (a++b)):Zg a:=by
 induction a with
 |nil=>trivial
 |cons x r ih=>exact ⟨h.1,ih h.2⟩
theorem z9w {ao:AO} {base:Nat} {st st':St} {out:Out} (hn:ao.W1=true) (h:∀t∈ao.reads,look st.env t=look st'.env t) (he:evO P base st ao (· =out))
  (hk:∀t,t∈ao.reads->∀k,(look st.env t).names k->zj st.s.sto k≠none->zj st.s.sto k=zj st'.s.sto k):evO P base st' ao (· =out):=by
 obtain ⟨dst,g,op⟩:=ao;unfold AO.W1 at hn;split at hn
 ·rename_i ag n t hg hop;simp only at hg hop;subst hg;subst hop;have ht:=h t (by simp [AO.reads,AOp.z8,Ar.z8]);have hkt:=hk t (by simp [AO.reads,AOp.z8,NOp.z8,Ar.z8]);simp only [evO,evU,evX,z9x,or_false,Z2,zk,rd,Ar.v] at he⊢;rw [←ht];generalize look st.env t=v at*
  cases hv:v.un true with
  |mk x p=>
   rw [hv] at he
   cases x with
   |ptr k o=>
    simp only at he⊢
    have:zj st.s.sto k=zj st'.s.sto k:=by
     cases ha:zj st.s.sto k with
     |none=>rw [ha] at he;exact he.elim
     |some ob=>
      rw [←ha];rw [ha] at he;refine hkt k ⟨p,?_,.inl ⟨o,hv⟩⟩ (by rw [ha];simp)
      cases ob with
      |cells cs=>
       simp only at he
       cases ag with
       |true=>
        simp only [w17] at he;split at he
        ·rename_i v ps h1;split at h1
         ·simp at h1;obtain ⟨_,rfl⟩:=h1;exact he.1
         ·cases h1
        ·exact he.elim
       |false=>
        simp only [w0h,w0x] at he;split at he
        ·rename_i v ps h1;split at h1
         ·simp at h1;obtain ⟨_,rfl⟩:=h1;exact he.1
         ·cases h1
        ·exact he.elim
      |map a b c=>exact he.elim
      |arr a=>exact he.elim
      |iter a b c d=>exact he.elim
      |gro _ _=>exact he.elim
      |yL _=>exact he.elim
      |y8 _=>exact he.elim
      |WN _ _=>exact he.elim
    rw [←this];exact he
   |fpt k i o=>
    simp only at he⊢
    have:zj st.s.sto k=zj st'.s.sto k:=by
     cases ha:zj st.s.sto k with
     |none=>rw [ha] at he;exact he.elim
     |some ob=>
      rw [←ha];rw [ha] at he;refine hkt k ⟨p,?_,.inr (.inr (.inl ⟨i,o,hv⟩))⟩ (by rw [ha];simp)
      cases ob with
      |yL os=>
       simp only at he
       cases hos:os[i]? with
       |none=>rw [hos] at he;exact he.elim
       |some cs=>
        rw [hos] at he;simp only at he
        cases ag with
        |true=>
         simp only [w17] at he;split at he
         ·rename_i v ps h1;split at h1
          ·simp at h1;obtain ⟨_,rfl⟩:=h1;exact he.1
          ·cases h1
         ·exact he.elim
        |false=>
         simp only [w0h,w0x] at he;split at he
         ·rename_i v ps h1;split at h1
          ·simp at h1;obtain ⟨_,rfl⟩:=h1;exact he.1
          ·cases h1
         ·exact he.elim
      |_=>exact he.elim
    rw [←this];exact he
   |gpt k ver o=>
    simp only at he⊢
    have:zj st.s.sto k=zj st'.s.sto k:=by
     cases ha:zj st.s.sto k with
     |none=>rw [ha] at he;exact he.elim
     |some ob=>
      rw [←ha];rw [ha] at he
      cases ob with
      |gro w cs=>
       simp only at he
       have hpp:Zg (p++[decide (0<w),decide (ver=w)]):=by
        cases ag with
        |true=>
         simp only [w17] at he;split at he
         ·rename_i v ps h1;split at h1
          ·simp at h1;obtain ⟨_,rfl⟩:=h1;simpa using he.1
          ·cases h1
         ·exact he.elim
        |false=>
         simp only [w0h,w0x] at he;split at he
         ·rename_i v ps h1;split at h1
          ·simp at h1;obtain ⟨_,rfl⟩:=h1;simpa using he.1
          ·cases h1
         ·exact he.elim
       have hm:=WA hpp;have m1:=zDT (hm (decide (0<w)) (by simp));have m2:=zDT (hm (decide (ver=w)) (by simp));exact hkt k ⟨p,qj hpp,.inr (.inr (.inr (.inl ⟨ver,o,by omega,hv⟩)))⟩ (by rw [ha];simp)
      |_=>exact he.elim
    rw [←this];exact he
   |t z=>cases z<;>exact he
   |_=>exact he
 ·rename_i ks kag zv ok t y hg hop;simp only at hg hop;subst hg;subst hop;have ht:=h t (by simp [AO.reads,AOp.z8,NOp.z8,Ar.z8]);have hy:rd true st y=rd true st' y:=ZM fun s hs=>h s (by simp [AO.reads,AOp.z8,NOp.z8,hs]);have hkt:=hk t (by simp [AO.reads,AOp.z8,NOp.z8,Ar.z8]);have e1:rd true st (.s t)=(look st.env t).un true:=rfl
  have e2:rd true st' (.s t)=(look st.env t).un true:=by rw [ht];rfl
  have e3:Ar.v st' (.s t)=look st.env t:=by rw [ht];rfl
  have e4:Ar.v st (.s t)=look st.env t:=rfl;simp only [evO,evU,evX,yi,z10,or_false,Z2,zk,Zq,←hy,e1,e2,e3,e4] at he⊢;generalize look st.env t=v at*
  cases hv:v.un true with
  |mk x p=>
   rw [hv] at he
   cases hyv:rd true st y with
   |mk vk p2=>
    simp only [hyv] at he⊢
    cases hc:z0g ks kag vk with
    |none=>simp only [hc] at he
    |some cs=>
     simp only [hc] at he⊢
     cases x with
     |mp k=>
      simp only at he⊢
      have:zj st.s.sto k=zj st'.s.sto k:=by
       cases ha:zj st.s.sto k with
       |none=>rw [ha] at he;exact he.elim
       |some ob=>
        rw [←ha];rw [ha] at he;refine hkt k ⟨p,?_,.inr (.inl hv)⟩ (by rw [ha];simp)
        cases ob with
        |map a es c=>
         simp only at he
         cases hm:z4B cs es with
         |some w=>rw [hm] at he;exact qj he.1
         |none=>rw [hm] at he;exact qj he.1
        |cells a=>exact he.elim
        |arr a=>exact he.elim
        |iter a b c d=>exact he.elim
        |gro _ _=>exact he.elim
        |yL _=>exact he.elim
        |y8 _=>exact he.elim
        |WN _ _=>exact he.elim
      rw [←this];exact he
     |t z=>cases z<;>exact he
     |_=>exact he
 ·rename_i sz t y hg hop;simp only at hg hop;subst hg;subst hop;have ht:=h t (by simp [AO.reads,AOp.z8,Ar.z8]);have hy:rd true st y=rd true st' y:=ZM fun s hs=>h s (by simp [AO.reads,AOp.z8,hs]);have hkt:=hk t (by simp [AO.reads,AOp.z8,Ar.z8]);have e1:rd true st (.s t)=(look st.env t).un true:=rfl
  have e2:rd true st' (.s t)=(look st.env t).un true:=by rw [ht];rfl
  have e3:Ar.v st' (.s t)=look st.env t:=by rw [ht];rfl
  have e4:Ar.v st (.s t)=look st.env t:=rfl;simp only [evO,evU,evX,z9B,or_false,Z2,zk,←hy,e1,e2,e3,e4] at he⊢;generalize look st.env t=v at*
  cases hv:v.un true with
  |mk x p=>
   rw [hv] at he
   cases hyv:rd true st y with
   |mk vk p2=>
    simp only [hyv] at he⊢
    cases x with
    |gsl k ver off len sz'=>
     cases vk with
     |t z=>
      cases z with
      |int kd z=>
       simp only at he⊢
       have:zj st.s.sto k=zj st'.s.sto k:=by
        cases ha:zj st.s.sto k with
        |none=>rw [ha] at he;exact he.elim
        |some ob=>
         rw [←ha];rw [ha] at he
         cases ob with
         |gro w cs=>
          simp only at he
          have hpp:Zg (p++(p2++[decide (0<=z),decide (z<(len:Int)),decide (0<w),decide (ver=w)])):=by
           split at he
           ·rename_i v ps h1;split at h1
            ·simp at h1;obtain ⟨_,rfl⟩:=h1;simpa using he.1
            ·cases h1
           ·exact he.elim
          have hm:=WA hpp;have m1:=zDT (hm (decide (0<w)) (by simp));have m2:=zDT (hm (decide (ver=w)) (by simp));exact hkt k ⟨p,qj hpp,.inr (.inr (.inr (.inr ⟨ver,off,len,sz',by omega,hv⟩)))⟩ (by rw [ha];simp)
         |_=>exact he.elim
       rw [←this];exact he
      |_=>exact he
     |_=>exact he
    |_=>
     cases vk with
     |t z=>cases z<;>exact he
     |_=>exact he
 ·rename_i off t hg hop;simp only at hg hop;subst hg;subst hop;have ht:=h t (by simp [AO.reads,AOp.z8,Ar.z8]);have hkt:=hk t (by simp [AO.reads,AOp.z8,Ar.z8]);have e1:rd true st (.s t)=(look st.env t).un true:=rfl
  have e2:rd true st' (.s t)=(look st.env t).un true:=by rw [ht];rfl
  have e3:Ar.v st' (.s t)=look st.env t:=by rw [ht];rfl
  have e4:Ar.v st (.s t)=look st.env t:=rfl;simp only [evO,evU,evX,z9f,or_false,Z2,zk,e1,e2,e3,e4] at he⊢;generalize look st.env t=v at*
  cases hv:v.un true with
  |mk x p=>
   rw [hv] at he
   cases x with
   |gpt k ver o=>
    simp only at he⊢
    have:zj st.s.sto k=zj st'.s.sto k:=by
     cases ha:zj st.s.sto k with
     |none=>rw [ha] at he;exact he.elim
     |some ob=>
      rw [←ha];rw [ha] at he
      cases ob with
      |gro w cs=>
       simp only at he
       have hpp:Zg (p++[decide (0<w),decide (ver=w)]):=by simpa using he.1
       have hm:=WA hpp;have m1:=zDT (hm (decide (0<w)) (by simp));have m2:=zDT (hm (decide (ver=w)) (by simp));exact hkt k ⟨p,qj hpp,.inr (.inr (.inr (.inl ⟨ver,o,by omega,hv⟩)))⟩ (by rw [ha];simp)
      |_=>exact he.elim
    rw [←this];exact he
   |t z=>cases z<;>exact he
   |_=>exact he
 ·cases hn
theorem z9z {ao:AO} {base:Nat} {st:St} {out:Out} {o:Oper} {i:Nat} (ho:ops[i]?=some o) (hres:z4G P ops o=some ao) (hn:ao.W1=true) (h:evO P base st ao (· =out)) {C:Ctx} {Λ:L} {a:Act} {next:Act->World->Prop} {Q:Exit->Act->World->Prop} (hC:C.P=P) (hr:Rel C Λ st a)
  (hle:base+out.n<=Λ.nxt) (hfree:∀k,base<=k->k<base+out.n->k<Λ.nxt/\ZU Λ k/\zj st.s.sto k=none)
  (hnext:∀v Λ',Kp Λ Λ'->Λ'.nxt=Λ.nxt->zT Λ' (st.s.app out)->zr Λ' v out.v->(∀k,ZU Λ k->zj st.s.sto k=none->(base+out.n<=k∨k<base)->ZU Λ' k)->next (a.put o.dst v) Λ'.w):
  ao.dst=o.dst/\wpOp P ops Q i next a Λ.w:=by
 obtain ⟨dst,g,op⟩:=ao
 have hg:g=none:=by
  unfold AO.W1 at hn;split at hn
  ·rename_i h1 _;exact h1
  ·rename_i h1 _;exact h1
  ·rename_i h1 _;exact h1
  ·rename_i h1 _;exact h1
  ·cases hn
 subst hg
 have hev:∃v ps,zk true st op=some (v,ps)/\Zg ps/\({v:=v,rd:=Z2 st op}:Out)=out:=by
  simp only [evO,evU] at h;split at h
  ·rename_i v ps he;exact ⟨v,ps,he,h.1,h.2⟩
  ·unfold AO.W1 at hn;split at hn
   ·rename_i hop;simp only at hop;subst hop;exact (h.elim (fun h=>h) z9x.1).elim
   ·rename_i hop;simp only at hop;subst hop;exact (h.elim (fun h=>h) z10.1).elim
   ·rename_i hop;simp only at hop;subst hop;exact (h.elim (fun h=>h) z9B.1).elim
   ·rename_i hop;simp only at hop;subst hop;exact (h.elim (fun h=>h) z9f.1).elim
   ·cases hn
 obtain ⟨v,ps,h1,h2,rfl⟩:=hev;unfold z4G at hres;split at hres
 ·simp at hres
 ·rename_i aop hop;split at hres
  ·rename_i hg;simp only [w00,AO.mk.injEq] at hres;obtain ⟨e1,_,e2⟩:=hres;subst e2;refine ⟨e1.symm,?_⟩
   have hw:Region.wanted o (yielded ops a.tmps)=true:=by simp [Region.wanted,hg]
   simp only [wpOp,ho,hw,w17];refine .inl ?_
   exact zM.zg6 (r:=false) (base:=base) (z1O hop h1 (WA h2)) C Λ a next Q hC hr hle hfree (fun u Λ' k1 k2 k3 k4 k5=>hnext u Λ' k1 k2 k3 k4 fun k f1 f2 hc=>k5 k f1 f2 (by
    rcases hc with hc|hc
    ·exact .inl hc
    ·exact .inr ⟨hc,rfl⟩))
  ·split at hres
   ·simp at hres
   ·cases hres
theorem zak {ao:AO} {base:Nat} {st:St} {out:Out} (hn:ao.W1=true) (h:evO P base st ao (· =out)):out.ob=[]:=by
 obtain ⟨dst,g,op⟩:=ao
 have hg:g=none:=by
  unfold AO.W1 at hn;split at hn
  ·rename_i h1 _;exact h1
  ·rename_i h1 _;exact h1
  ·rename_i h1 _;exact h1
  ·rename_i h1 _;exact h1
  ·cases hn
 subst hg;simp only [evO,evU] at h;split at h
 ·rw [←h.2]
 ·unfold AO.W1 at hn;split at hn
  ·rename_i hop;simp only at hop;subst hop;exact (h.elim (fun h=>h) z9x.1).elim
  ·rename_i hop;simp only at hop;subst hop;exact (h.elim (fun h=>h) z10.1).elim
  ·rename_i hop;simp only at hop;subst hop;exact (h.elim (fun h=>h) z9B.1).elim
  ·rename_i hop;simp only at hop;subst hop;exact (h.elim (fun h=>h) z9f.1).elim
  ·cases hn
theorem z8W {ao:AO} {base:Nat} {st:St} {out:Out} {o:Oper} {i:Nat} (ho:ops[i]?=some o) (hres:z4G P ops o=some ao) (h:evO P base st ao (· =out)) {C:Ctx} {Λ:L} {a:Act} {next:Act->World->Prop} {Q:Exit->Act->World->Prop} (hC:C.P=P) (hr:Rel C Λ st a)
  (hdst:∀(j:Nat) (p:Oper) (d:Nat),ops[j]?=some p->p.dst=some d->d<C.n)
  (hle:base+out.n<=Λ.nxt) (hfree:∀k,base<=k->k<base+out.n->k<Λ.nxt/\ZU Λ k/\zj st.s.sto k=none)
  (hnext:∀v Λ',Kp Λ Λ'->Λ'.nxt=Λ.nxt->zT Λ' (st.s.app out)->zr Λ' v out.v->(∀k,ZU Λ k->zj st.s.sto k=none->(base+out.n<=k∨(k<base/\(out.rd=false∨ao.W1=true)))->ZU Λ' k)->next (a.put o.dst v) Λ'.w):
  ao.dst=o.dst/\wpOp P ops Q i next a Λ.w:=by
 cases hn:ao.W1 with
 |true=>
  refine z9z ho hres hn h hC hr hle hfree fun v Λ' k1 k2 k3 k4 k5=>hnext v Λ' k1 k2 k3 k4 fun k f1 f2 hc=>k5 k f1 f2 ?_
  rcases hc with hc|hc
  ·exact .inl hc
  ·exact .inr hc.1
 |false=>
  refine z2f ho hres h hC hr hdst hle hfree fun v Λ' k1 k2 k3 k4 k5=>hnext v Λ' k1 k2 k3 k4 fun k f1 f2 hc=>k5 k f1 f2 ?_
  rcases hc with hc|⟨hc,hd⟩
  ·exact .inl hc
  ·rcases hd with hd|hd
   ·exact .inr ⟨hc,hd⟩
   ·rw [hn] at hd;cases hd
theorem z3q {D D':Nat->Bool} {k:Nat}:∀(r:List AO) (os:List Out) (i:Nat) (s s':St),(∀j o,os[j]?=some o->(∃x,(k,x)∈o.ob)->D (i+j)=D' (i+j))->zj s.s.sto k=zj s'.s.sto k->zj (stD D i s r os).s.sto k=zj (stD D' i s' r os).s.sto k
 |[],os,i,s,s',h,e=>by cases os<;>exact e
 |ao::r,[],i,s,s',h,e=>e
 |ao::r,o::os,i,s,s',h,e=>by
  simp only [stD]
  refine z3q r os (i+1) _ _ (fun j a hj hd=>by have:=h (j+1) a (by simpa using hj) hd;rw [w1e,w2c 1 j];exact this) ?_
  by_cases hob:∃x,(k,x)∈o.ob
  ·have:=h 0 o rfl hob;simp only [w1w] at this;rw [this];split
   ·exact Yh o.ob _ _ k hob
   ·exact e
  ·have key2:∀(b:Bool) (u:St),zj (if b then u.app ao.dst o else u).s.sto k=zj u.s.sto k:=by
    intro b u;cases b
    ·rfl
    ·exact zY o.ob _ k fun x hx=>hob ⟨x,hx⟩
   rw [key2,key2];exact e
theorem z8a {D:Nat->Bool} {k:Nat}:∀(r:List AO) (os:List Out) (i:Nat) (s:St),zj (stD D i s r os).s.sto k≠none->zj s.s.sto k≠none∨∃(j:Nat) (o:Out),os[j]?=some o/\j<r.length/\D (i+j)=true/\∃x,(k,x)∈o.ob
 |[],os,i,s,h=>by cases os<;>exact .inl h
 |ao::r,[],i,s,h=> .inl h
 |ao::r,o::os,i,s,h=>by
  simp only [stD] at h
  rcases z8a r os (i+1) _ h with h|⟨j,p,h1,h2,h3,h4⟩
  ·by_cases hD:D i=true
   ·by_cases hob:∃x,(k,x)∈o.ob
    ·exact .inr ⟨0,o,rfl,by simp,by simpa using hD,hob⟩
    ·left;simp only [hD,w17,St.app,S.app] at h;rw [zY o.ob _ k fun x hx=>hob ⟨x,hx⟩] at h;exact h
   ·left;simpa [hD] using h
  ·exact .inr ⟨j+1,p,by simpa using h1,by simp;omega,by rw [←w1e,Nat.add_right_comm];exact h3,h4⟩
structure zff (ao:AO) (o:Out) (bo:AO) (p:Out):Prop where
 dst:∀x,ao.dst=some x->bo.dst≠some x
 ob:∀k a b,(k,a)∈o.ob->(k,b)∉p.ob
theorem za4 {D:Nat->Bool} {ao:AO} {o:Out}:∀(r:List AO) (os:List Out) (i:Nat) (s:St),(∀j bo p,r[j]?=some bo->os[j]?=some p->D (i+j)=true->zff ao o bo p)->
  Eqv (stD D i (s.app ao.dst o) r os) ((stD D i s r os).app ao.dst o)
 |[],os,i,s,h=>by cases os<;>exact Eqv.refl _
 |bo::r,[],i,s,h=>Eqv.refl _
 |bo::r,p::os,i,s,h=>by
  simp only [stD];have ih:=fun u=>za4 (D:=D) (ao:=ao) (o:=o) r os (i+1) u (fun j b q hb hq hD=>h (j+1) b q (by simpa using hb) (by simpa using hq) (by rw [w1e,w2c 1 j] at hD;exact hD));by_cases hD:D i=true
  ·simp only [hD,w17];have hap:=h 0 bo p rfl rfl (by simpa using hD);exact (z9Z D r os (i+1) (zdd s hap.dst hap.ob)).trans (ih _)
  ·simp only [hD,w0h,w0x];exact ih s
theorem z4y {D D':Nat->Bool} {n:Nat} {ao:AO} {o:Out}:∀(r:List AO) (os:List Out) (i:Nat) (s:St),r[n]?=some ao->os[n]?=some o->D (i+n)=false->D' (i+n)=true->(∀j,j≠i+n->D' j=D j)->
  (∀j bo p,r[j]?=some bo->os[j]?=some p->n<j->D (i+j)=true->zff ao o bo p)->Eqv (stD D' i s r os) ((stD D i s r os).app ao.dst o)
 |[],os,i,s,h1,_,_,_,_,_=>by simp at h1
 |bo::r,[],i,s,_,h2,_,_,_,_=>by simp at h2
 |bo::r,p::os,i,s,h1,h2,h3,h4,h5,h6=>by
  cases n with
  |zero=>
   simp at h1 h2;subst h1;subst h2;simp only [w1w] at h3 h4 h5;simp only [stD,h3,h4,w17,w0h,w0x];rw [z6Q (D:=D') (D':=D) r os (i+1) _ (fun j h1 _=>h5 j (by omega))];exact za4 r os (i+1) s (fun j b q hb hq hD=>h6 (j+1) b q (by simpa using hb) (by simpa using hq) (by omega) (by rw [w1e,w2c 1 j] at hD;exact hD))
  |succ n=>
   simp only [stD,h5 i (by omega)]
   have e:i+1+n=i+(n+1):=by omega
   exact z4y r os (i+1) _ (by simpa using h1) (by simpa using h2) (by rw [e];exact h3) (by rw [e];exact h4) (fun j hj=>h5 j (by omega)) (fun j b q hb hq hlt hD=>h6 (j+1) b q (by simpa using hb) (by simpa using hq) (by omega) (by rw [w1e,w2c 1 j] at hD;exact hD))
theorem Ch.at:∀{r:List AO} {os:List Out} {i base:Nat} {s:St} {b':Nat} {s':St},Ch P base s r os b' s'->r.length=os.length/\b'=base+wV os/\s'=stD (fun _=>true) i s r os/\
  ∀(j:Nat) (ao:AO) (o:Out),r[j]?=some ao->os[j]?=some o->evO P (base+wV (os.take j)) (stD (fun l=>decide (l<i+j)) i s r os) ao (· =o)
 |[],[],i,base,s,b',s',h=>by obtain ⟨rfl,rfl⟩:=h;exact ⟨rfl,rfl,rfl,by simp⟩
 |ao::r,o::os,i,base,s,b',s',h=>by
  obtain ⟨h1,h2⟩:=h;obtain ⟨i1,i2,i3,i4⟩:=Ch.at (i:=i+1) h2
  refine ⟨by simp [i1],by simp only [wV];omega,by simp only [stD,w17];exact i3,fun j a p ha hp=>?_⟩
  cases j with
  |zero=>
   simp at ha hp;subst ha;subst hp
   have:stD (fun l=>decide (l<i+0)) i s (ao::r) (o::os)=s:=Qt _ _ _ _ (fun j hj=>by simp;omega)
   rw [this];simpa [wV] using h1
  |succ j=>
   have:=i4 j a p (by simpa using ha) (by simpa using hp)
   have e1:base+o.n+wV (os.take j)=base+wV ((o::os).take (j+1)):=by simp [wV];omega
   have e2:i+1+j=i+(j+1):=by omega
   rw [e1,e2] at this
   have e3:decide (i<i+(j+1))=true:=by simp
   simp only [stD,e3,w17];exact this
 |[],_::_,_,_,_,_,_,h=>h.elim
 |_::_,[],_,_,_,_,_,h=>h.elim
end
section
variable {P:Program} {ops:Array Oper}
theorem z5J (f:Nat->Nat) (x:Nat):∀(l:List Nat) (s:Nat),(l.foldl (fun s j=>s|||f j) s).testBit x=(s.testBit x||l.any fun j=>(f j).testBit x)
 |[],s=>by simp
 |j::r,s=>by simp only [List.foldl_cons,w1d];rw [z5J f x r];simp [Nat.testBit_or,Bool.or_assoc]
theorem z3m {D:Nat->Bool} {after:List (List Nat)} (hcl:∀i,D i=true->∀j∈after.getD i [],D j=true):∀(suf pre:List (List Nat)) (acc:List Nat),after=pre++suf->acc.length=pre.length->
  (∀i,(∀j∈after.getD i [],D j=true)->∀j,(acc.getD i 0).testBit j=true->D j=true)->∀i,(∀j∈after.getD i [],D j=true)->∀j,((z6d suf acc).getD i 0).testBit j=true->D j=true
 |[],pre,acc,_,_,h=>h
 |l::suf,pre,acc,e,hl,h=>by
  refine z3m hcl suf (pre++[l]) _ (by simp [e]) (by simp [hl]) fun i hi j hj=>?_;by_cases h1:i<acc.length
  ·rw [w0w,w0a h1,←w0w] at hj;exact h i hi j hj
  ·by_cases h2:i=acc.length
   ·subst h2;rw [w0w,w0b (w09 _)] at hj;simp only [Nat.sub_self,List.getElem?_cons_zero,w25] at hj;rw [z5J (fun j=>2 ^ j|||acc.getD j 0)] at hj;simp only [Nat.zero_testBit,w1z,w1v] at hj;obtain ⟨q,hq,hb⟩:=hj
    have hlq:after.getD acc.length []=l:=by rw [e,hl,w0w];simp
    rw [hlq] at hi;have hDq:=hi q hq;simp only [Nat.testBit_or,Bool.or_eq_true,Nat.testBit_two_pow,w0j] at hb
    rcases hb with rfl|hb
    ·exact hDq
    ·exact h q (hcl q hDq) j hb
   ·rw [w0w,w19 (by simp;omega)] at hj;simp at hj
theorem zey {st:St} {op:NOp} {out:Out} (h:yi st (· =out) op):out.rd=true:=by
 unfold yi at h;split at h
 ·split at h
  ·split at h
   ·obtain ⟨_,rfl⟩:=h;rfl
   ·exact h.elim
  ·exact h.elim
 ·split at h
  ·split at h
   ·obtain ⟨_,rfl⟩:=h;rfl
   ·exact h.elim
  ·exact h.elim
 ·split at h
  ·split at h
   ·subst h;rfl
   ·exact h.elim
  ·exact h.elim
 ·split at h
  ·split at h
   ·split at h
    ·split at h
     ·obtain ⟨_,rfl⟩:=h;rfl
     ·exact h.elim
    ·obtain ⟨_,rfl⟩:=h;rfl
   ·exact h.elim
  ·exact h.elim
 ·split at h
  ·split at h
   ·split at h
    ·subst h;rfl
    ·exact h.elim
   ·exact h.elim
  ·exact h.elim
 ·exact h.elim
theorem zeo {base:Nat} {st:St} {aop:AOp} {out:Out} (h:evX P base st (· =out) aop) (hr:out.rd=false):∀k o,(k,o)∈out.ob->base<=k/\k<base+out.n:=by
 have fnev:∀{f:FuncId} {vs:List V} {sto:List (Nat×zd)},z0d P f vs base sto (· =out)->∀k o,(k,o)∈out.ob->base<=k/\k<base+out.n:=by
  intro f vs sto h k o hk;obtain ⟨out',h1,rfl⟩:=h;rw [hr] at h1;simp only [w0h,w0x] at h1
  rcases (h1 []).2.1 k o hk with h|h
  ·simp [zj] at h
  ·exact h
 have fnevS:∀{f:FuncId} {vs:List V} {sto:List (Nat×zd)},qe P f vs base sto (· =out)->∀k o,(k,o)∈out.ob->base<=k/\k<base+out.n:=by
  intro f vs sto h k o hk;obtain ⟨out',h1,rfl⟩:=h;rw [hr] at h1;simp only [w0h,w0x] at h1
  rcases (h1 []).2.1 k o hk with h|h
  ·simp [zj] at h
  ·exact h
 unfold evX at h;split at h
 ·split at h
  ·split at h
   ·split at h
    ·obtain ⟨_,rfl⟩:=h;simp at hr
    ·exact h.elim
   ·exact h.elim
  ·exact h.elim
 ·split at h
  ·obtain ⟨_,rfl⟩:=h;intro j ob hj;simp at hj;simp;omega
  ·exact h.elim
 ·subst h;intro j ob hj;simp at hj;simp;omega
 ·split at h
  ·obtain ⟨_,h⟩:=h;split at h
   ·rcases h with h|h
    ·split at h
     ·subst h;intro j ob hj;simp at hj
     ·subst h;intro j ob hj;simp at hj;simp;omega
    ·subst h;intro j ob hj;simp at hj
   ·subst h;intro j ob hj;simp at hj
  ·exact h.elim
 ·split at h
  ·split at h
   ·obtain ⟨_,_,_,rfl⟩:=h;intro j ob hj;simp at hj;simp;omega
   ·split at h
    ·obtain ⟨_,_,_,_,_,rfl⟩:=h;simp at hr
    ·exact h.elim
   ·exact h.elim
  ·exact h.elim
 ·split at h
  ·obtain ⟨_,rfl⟩:=h;intro j ob hj;simp at hj;simp;omega
  ·exact h.elim
 ·exact fnev h
 ·split at h
  ·exact fnevS h
  ·exact fnevS h
  ·exact h.elim
 ·subst h;intro j ob hj;simp at hj;simp;omega
 ·split at h
  ·split at h
   ·subst h;simp at hr
   ·exact h.elim
  ·exact h.elim
 ·split at h
  ·subst h;simp at hr
  ·split at h
   ·subst h;simp at hr
   ·exact h.elim
  ·exact h.elim
 ·rename_i op;exact absurd hr (by rw [zey h];simp)
 ·exact h.elim
theorem z7H {base:Nat} {st:St} {aop:AOp} {out:Out} (h:evX P base st (· =out) aop∨evY base st (· =out) aop) (hr:out.rd=false):∀k o,(k,o)∈out.ob->base<=k/\k<base+out.n:=by
 rcases h with h|⟨o',h,rfl⟩
 ·exact zeo h hr
 ·cases h with
  |zb7 _=>intro j ob hj;simp at hj;simp;omega
  |_=>simp at hr
theorem z6K {base:Nat} {st:St} {ao:AO} {out:Out} (h:evO P base st ao (· =out)) (hr:out.rd=false):∀k o,(k,o)∈out.ob->base<=k/\k<base+out.n:=by
 unfold evO at h;split at h
 ·unfold evU at h;split at h
  ·obtain ⟨_,rfl⟩:=h;intro j ob hj;simp at hj
  ·exact z7H h hr
 ·split at h
  ·exact h.elim
  ·rename_i gc _;split at h
   ·obtain ⟨_,rfl⟩:=h;intro j ob hj;simp at hj
   ·rcases h with h|h
    ·unfold Qr at h;split at h
     ·obtain ⟨out0,_,⟨k2,_⟩,rfl⟩:=h;intro j ob hj;simp [k2] at hj
     ·exact h.elim
    cases gc with
    |true=>exact z7H (h.1 rfl) hr
    |false=>have:=h.2 rfl;subst this;intro j ob hj;simp at hj
theorem qi:∀(os:List Out) (j:Nat) (o:Out),os[j]?=some o->(flags os).getD j (false,false)=(o.rd,!o.ob.isEmpty||decide (0<o.n))
 |[],j,o,h=>by simp at h
 |p::r,0,o,h=>by simp at h;subst h;rfl
 |p::r,j+1,o,h=>by simp only [flags,List.getD_cons_succ];exact qi r j o (by simpa using h)
theorem Wl:∀(os:List Out) (j:Nat) (o:Out),os[j]?=some o->wV (os.take (j+1))=wV (os.take j)+o.n
 |[],j,o,h=>by simp at h
 |p::r,0,o,h=>by simp at h;subst h;simp [wV]
 |p::r,j+1,o,h=>by have:=Wl r j o (by simpa using h);simp [wV,this];omega
theorem yn:∀(os:List Out) (i j:Nat),i<=j->wV (os.take i)<=wV (os.take j)
 |[],i,j,_=>by simp
 |p::r,0,j,_=>by simp [wV]
 |p::r,i+1,0,h=>by omega
 |p::r,i+1,j+1,h=>by have:=yn r i j (by omega);simp [wV];omega
theorem z6r (os:List Out) (j:Nat):wV (os.take j)<=wV os:=by
 rcases Nat.le_total j os.length with h|h
 ·have:=yn os j os.length h;rwa [List.take_length] at this
 ·rw [w1l h];exact w09 _
def dOf (listed:Array Bool):Nat->Bool:=fun j=>listed.getD j false
theorem zeW (listed:Array Bool) {i:Nat} (hi:i<listed.size) (j:Nat):dOf (listed.setIfInBounds i true) j=if j=i then true else dOf listed j:=by
 unfold dOf;simp only [w1p,Array.getElem?_setIfInBounds];by_cases e:i=j
 ·subst e;simp [hi]
 ·simp [e,Ne.symm e]
theorem mem_ready {listed:Array Bool} (hs:listed.size=ops.size) {i:Nat}:i∈Region.ready .any ops listed↔i<ops.size/\dOf listed i=false/\∀j∈(wL ops).getD i [],dOf listed j=true:=by
 unfold Region.ready;rw [List.mem_filter,w20];refine ⟨fun ⟨h1,h2⟩=>⟨h1,?_⟩,fun ⟨h1,h2,h3⟩=>⟨h1,?_⟩⟩
 all_goals
  have ho:ops[i]?=some ops[i]:=by simp [h1]
  have hg:(wL ops).getD i []=(ops[i].after.toList.filter (Region.binds .any)).map (·.on):=by
   unfold wL;rw [w0w,w0c];simp [h1]
 ·rw [ho] at h2;simp only [Option.map_some,w25,w07,w21,Array.all_eq_true'] at h2;refine ⟨?_,fun j hj=>?_⟩
  ·unfold dOf;have:=h2.1;simp only [w1p] at this⊢;rw [Array.getElem?_eq_getElem (by omega)] at this⊢;simpa using this
  ·rw [hg,w0m] at hj;obtain ⟨e,he,rfl⟩:=hj;rw [List.mem_filter] at he;have:=h2.2 e (by simpa using he.1);simp only [he.2,Bool.not_true,w1z] at this;exact this
 ·rw [ho];simp only [Option.map_some,w25,w07,w21,Array.all_eq_true'];refine ⟨?_,fun e he=>?_⟩
  ·unfold dOf at h2;simp only [w1p] at h2⊢;rw [Array.getElem?_eq_getElem (by omega)] at h2⊢;simpa using h2
  ·by_cases hb:Region.binds .any e=true
   ·have:=h3 e.on (by rw [hg,w0m];exact ⟨e,by rw [List.mem_filter];exact ⟨by simpa using he,hb⟩,rfl⟩);unfold dOf at this;simp [this]
   ·simp [hb]
def unl (D:Nat->Bool):Nat->Nat
 |0=>0
 |n+1=>unl D n+(if D n then 0 else 1)
theorem z7f {D:Nat->Bool}:∀{n:Nat},unl D n=0->∀j,j<n->D j=true
 |0,_,j,h=>by omega
 |n+1,h,j,hj=>by
  simp only [unl] at h;by_cases e:j=n
  ·subst e;by_cases hd:D j=true
   ·exact hd
   ·simp [hd] at h
  ·exact z7f (n:=n) (by omega) j (by omega)
theorem z89 {D D':Nat->Bool}:∀{n:Nat},(∀j,j<n->D' j=D j)->unl D' n=unl D n
 |0,_=>rfl
 |n+1,h=>by simp only [unl,h n (by omega),z89 (n:=n) (fun j hj=>h j (by omega))]
theorem z9H {D D':Nat->Bool} {i:Nat} (hi:D i=false) (hi':D' i=true) (h:∀j,j≠i->D' j=D j):∀{n:Nat},i<n->unl D' n+1=unl D n
 |0,hn=>by omega
 |n+1,hn=>by
  simp only [unl];by_cases e:i=n
  ·subst e;rw [z89 (D:=D) (D':=D') (fun j hj=>h j (by omega))];simp [hi,hi']
  ·have:=z9H hi hi' h (n:=n) (by omega);rw [h n (Ne.symm e)];omega
theorem zan {D:Nat->Bool}:∀{n:Nat},(∀j,j<n->D j=false)->unl D n=n
 |0,_=>rfl
 |n+1,h=>by simp [unl,h n (by omega),zan (n:=n) (fun j hj=>h j (by omega))]
theorem zbp {C:Ctx} (hC:C.P=P) (hd:zae C ops) {aos:List AO} (hres:z2t P ops ops.toList=some aos) {Q:Exit->Act->World->Prop} {base b' m:Nat} {st st':St} {outs:List Out}
  (hch:Ch P base st aos outs b' st') (hind:indep aos (wL ops) (flags outs) st'.env=true) (hm:b'<=m) (hno:∀k,base<=k->k<b'->zj st.s.sto k=none) (hq:∀(a':Act) (Λ':L),Rel C Λ' st' a'->Λ'.nxt=m->Q .normal a' Λ'.w):
  ∀(fuel:Nat) (listed:Array Bool) (Λ:L) (a:Act),listed.size=ops.size->unl (dOf listed) ops.size<=fuel->(∀i,dOf listed i=true->∀j∈(wL ops).getD i [],dOf listed j=true)->
   Rel C Λ (stD (dOf listed) 0 st aos outs) a->Λ.nxt=m->
   (∀i o,outs[i]?=some o->dOf listed i=false->∀k,base+wV (outs.take i)<=k->k<base+wV (outs.take (i+1))->ZU Λ k/\zj (stD (dOf listed) 0 st aos outs).s.sto k=none)->
   wpAny P .any ops Q fuel listed a Λ.w:=by
 obtain ⟨hlen,hat⟩:=Qx hres;obtain ⟨hlo,hb',hst',hev⟩:=Ch.at (i:=0) hch
 have hn:aos.length=ops.size:=by rw [←hlen];simp
 simp only [indep,w07,w0i,w0j] at hind;obtain ⟨hlt,hpair⟩:=hind
 have hafter:∀i,∀j∈(wL ops).getD i [],j<i:=by
  intro i j hj;rw [w0w] at hj
  cases hg:(wL ops)[i]? with
  |none=>rw [hg] at hj;simp at hj
  |some l=>
   rw [hg] at hj;have:=hlt (l,i) (by rw [List.mem_zipIdx_iff_getElem?];simpa using hg) j (by simpa using hj);exact this
 have hpre:∀(i:Nat),i<=outs.length->∀k,zj (stD (fun l=>decide (l<i)) 0 st aos outs).s.sto k≠none->zj st.s.sto k≠none∨k<base+wV (outs.take i):=by
  intro i
  induction i using Nat.strongRecOn with
  |_ i ih=>
   intro hi k hk
   rcases z8a aos outs 0 st hk with h|⟨j,o,h1,h2,h3,x,h4⟩
   ·exact .inl h
   ·simp only [w0y,w0j] at h3;have hoj:=hev j aos[j] o (by simp [h2]) h1;simp only [w0y] at hoj
    rcases QZ hoj k x h4 with h|⟨_,h⟩
    ·rcases ih j h3 (by omega) k h with h|h
     ·exact .inl h
     ·right;have:=yn outs j i (by omega);omega
    ·right;have:=Wl outs j o h1;have:=yn outs (j+1) i (by omega);omega
 have hall:∀(listed:Array Bool),listed.size=ops.size->Region.ready .any ops listed=[]->∀i,i<ops.size->dOf listed i=true:=by
  intro listed hs hr i
  induction i using Nat.strongRecOn with
  |_ i ih=>
   intro hi
   cases hD:dOf listed i with
   |true=>rfl
   |false=>
    exfalso;have:i∈Region.ready .any ops listed:=(mem_ready hs).2 ⟨hi,hD,fun j hj=>ih j (hafter i j hj) (by have:=hafter i j hj;omega)⟩;rw [hr] at this;simp at this
 have hfin:∀(listed:Array Bool) (Λ:L) (a:Act),(∀i,i<ops.size->dOf listed i=true)->Rel C Λ (stD (dOf listed) 0 st aos outs) a->Λ.nxt=m->Q .normal a Λ.w:=by
  intro listed Λ a hl hr hx;refine hq a Λ ?_ hx;rw [z6Q (D':=fun _=>true) aos outs 0 st (fun j _ hj=>hl j (by omega)),←hst'] at hr;exact hr
 intro fuel
 induction fuel with
 |zero=>
  intro listed Λ a hs hu hcl hr hx _;have hl:=z7f (Nat.le_zero.1 hu);refine ⟨?_,hfin listed Λ a hl hr hx⟩
  cases hrd:Region.ready .any ops listed with
  |nil=>rfl
  |cons i r=>
   have:i∈Region.ready .any ops listed:=by rw [hrd];simp
   obtain ⟨h1,h2,_⟩:=(mem_ready hs).1 this;rw [hl i h1] at h2;cases h2
 |succ fuel ih=>
  intro listed Λ a hs hu hcl hr hx hfr;refine ⟨fun h0=>hfin listed Λ a (hall listed hs h0) hr hx,fun i hi=>?_⟩;obtain ⟨hi1,hi2,hi3⟩:=(mem_ready hs).1 hi
  have hanc:=z3m hcl (wL ops) [] [] rfl rfl (fun i _ j hj=>by simp at hj)
  have hia:i<aos.length:=by omega
  have hio:i<outs.length:=by omega
  have hao:aos[i]?=some aos[i]:=by simp [hia]
  have hou:outs[i]?=some outs[i]:=by simp [hio]
  have ho:ops[i]?=some ops[i]:=by simp [hi1]
  have hro:=hat i ops[i] aos[i] (by simp) hao
  have hord:∀j ao o,aos[j]?=some ao->outs[j]?=some o->j≠i->(decide (j<i)=dOf listed j)∨
    (ao.z2I aos[i]=false/\aos[i].z2I ao=false/\(outs[i].rd&&(!o.ob.isEmpty||decide (0<o.n))&&!(aos[i].W1&&!o.rd)&&!(aos[i].z2q&&!o.rd&&decide (i<j))&&!(z6F aos st'.env i j))=false/\(o.rd&&(!outs[i].ob.isEmpty||decide (0<outs[i].n))&&!(ao.W1&&!outs[i].rd)&&!(ao.z2q&&!outs[i].rd&&decide (j<i))&&!(z6F aos st'.env j i))=false):=by
   intro j ao o hj ho' hne;have hjl:=(w02.1 hj).1
   have e1:aos.getD j ⟨none,none,.cst .top⟩=ao:=by rw [w0w,hj];rfl
   have e2:aos.getD i ⟨none,none,.cst .top⟩=aos[i]:=by rw [w0w,hao];rfl
   have clash_symm:∀x y:AO,x.z2I y=false->y.z2I x=false:=by
    intro x y h;unfold AO.z2I at h⊢;simp only [w1k] at h⊢;exact ⟨⟨h.1.2,h.1.1⟩,⟨h.2.2,h.2.1⟩⟩
   rcases Nat.lt_or_gt_of_ne hne with hlt|hlt
   ·have hp:=hpair i (w20.2 hia) j (w20.2 hlt);unfold z9D at hp;rw [qi outs j o ho',qi outs i outs[i] hou,e1,e2] at hp;simp only [Bool.or_eq_true,w07,w21] at hp
    rcases hp with hp|⟨⟨h1,h2⟩,h3⟩
    ·left;rw [hanc i hi3 j hp];simpa using hlt
    ·right;refine ⟨h1,clash_symm _ _ h1,?_,?_⟩
     ·rw [show decide (i<j)=false from decide_eq_false (by omega),Bool.and_false,Bool.not_false,w2a];exact h3
     ·rw [show decide (j<i)=true from decide_eq_true hlt,w2a];exact h2
   ·have hp:=hpair j (w20.2 hjl) i (w20.2 hlt);unfold z9D at hp;rw [qi outs j o ho',qi outs i outs[i] hou,e1,e2] at hp;simp only [Bool.or_eq_true,w07,w21] at hp
    rcases hp with hp|⟨⟨h1,h2⟩,h3⟩
    ·left
     cases hD:dOf listed j with
     |false=>simp;omega
     |true=>
      have:=hanc j (hcl j hD) i hp;rw [this] at hi2;cases hi2
    ·right;refine ⟨clash_symm _ _ h1,h1,?_,?_⟩
     ·rw [show decide (i<j)=true from decide_eq_true hlt,w2a];exact h2
     ·rw [show decide (j<i)=false from decide_eq_false (by omega),Bool.and_false,Bool.not_false,w2a];exact h3
  have hoffs:∀a b:Nat,∀ha:a<aos.length,aos[a].W1=false->z6F aos st'.env a b=false:=by
   intro a b ha hn
   cases ho:z6F aos st'.env a b with
   |false=>rfl
   |true=>
    obtain ⟨k1,q1,g1,_,_⟩:=z8g ho
    have e1:aos.getD a ⟨none,none,.cst .top⟩=aos[a]:=by rw [w0w];simp [ha]
    rw [e1] at g1;rw [(z5N g1).1] at hn;cases hn
  have hend:∀(a t:Nat),a<=aos.length->(∀o∈aos.drop a,o.dst≠some t)->look (stD (fun l=>decide (l<a)) 0 st aos outs).env t=look st'.env t:=by
   intro a t ha hw;rw [hst'];refine z4v aos outs 0 st st (fun j ao hj hdst=>?_) Z;simp only [w0y,w0j];apply Classical.byContradiction;intro hlt;refine hw ao ?_ hdst;rw [w0v];refine ⟨j - a,?_⟩;rw [w0z]
   have:a+(j - a)=j:=by omega
   rw [this];exact hj
  have hself:decide (i<i)=dOf listed i:=by rw [hi2];simp
  have hidx:∀j:Nat,∃o:Out,∀ao:AO,aos[j]?=some ao->outs[j]?=some o:=by
   intro j;by_cases hj:j<outs.length
   ·exact ⟨outs[j],fun _ _=>by simp [hj]⟩
   ·exact ⟨outs[i],fun ao h=>by have:=(w02.1 h).1;omega⟩
  have hevi:=hev i aos[i] outs[i] hao hou;simp only [w0y] at hevi
  have hlk:∀t∈aos[i].reads,look (stD (fun l=>decide (l<i)) 0 st aos outs).env t=look (stD (dOf listed) 0 st aos outs).env t:=by
   intro t ht;refine z4v aos outs 0 st st (fun j ao hj hdst=>?_) Z;simp only [w0y];by_cases e:j=i
   ·subst e;exact hself
   ·obtain ⟨o,hoo⟩:=hidx j
    rcases hord j ao o hj (hoo ao hj) e with h|⟨h,_⟩
    ·exact h
    ·unfold AO.z2I at h;simp only [w1k] at h;have:=h.1.1;unfold AO.zfV at this;simp only [hdst,List.contains_eq_mem,w1u] at this;exact (this ht).elim
  have hevD:evO P (base+wV (outs.take i)) (stD (dOf listed) 0 st aos outs) aos[i] (· =outs[i]):=by
   by_cases hrd:outs[i].rd=true
   ·cases hnear:aos[i].W1 with
    |false=>
     cases hcall:aos[i].z2q with
     |true=>
      refine zeG hcall hlk (fun k hk=>?_) hevi;refine (z3q aos outs 0 st st (fun j o hj hob=>?_) Z).symm;simp only [w0y];by_cases e:j=i
      ·subst e;exact hself
      ·have hjl:j<aos.length:=by rw [hlo];exact (w02.1 hj).1
       rcases hord j aos[j] o (by simp [hjl]) hj e with h|⟨_,_,h,_⟩
       ·exact h
       ·exfalso;obtain ⟨x,hx⟩:=hob
        have hne:o.ob.isEmpty=false:=by cases hh:o.ob with|nil=>rw [hh] at hx;simp at hx|cons _ _=>rfl
        have hof:=hoffs i j hia hnear;simp [hrd,hne,hnear,hof,hcall] at h;have hoj:=hev j aos[j] o (by simp [hjl]) hj;simp only [w0y] at hoj;have n1:=z6K hoj h.1 k x hx;have m1:=yn outs i j (by omega);omega
     |false=>
     refine z5j hlk (.inr (z9W aos outs 0 st st (fun j o hj hob=>?_) Z)) hevi;simp only [w0y];by_cases e:j=i
     ·subst e;exact hself
     ·have hjl:j<aos.length:=by rw [hlo];exact (w02.1 hj).1
      rcases hord j aos[j] o (by simp [hjl]) hj e with h|⟨_,_,h,_⟩
      ·exact h
      ·have hof:=hoffs i j hia hnear;simp [hrd,hob,hnear,hof,hcall] at h
    |true=>
     refine z9w hnear hlk hevi fun t ht k hnm hsome=>?_;refine z3q aos outs 0 st st (fun j o hj hob=>?_) Z;simp only [w0y];by_cases e:j=i
     ·subst e;exact hself
     ·have hjl:j<aos.length:=by rw [hlo];exact (w02.1 hj).1
      rcases hord j aos[j] o (by simp [hjl]) hj e with h|⟨_,_,h,_⟩
      ·exact h
      ·obtain ⟨x,hx⟩:=hob
       have hne:o.ob.isEmpty=false:=by cases hh:o.ob with|nil=>rw [hh] at hx;simp at hx|cons _ _=>rfl
       cases hof:z6F aos st'.env i j with
       |true=>
        exfalso;obtain ⟨k1,q1,g1,g2,hne1⟩:=z8g hof
        have e1:aos.getD i ⟨none,none,.cst .top⟩=aos[i]:=by rw [w0w,hao];rfl
        have e2:aos.getD j ⟨none,none,.cst .top⟩=aos[j]:=by rw [w0w];simp [hjl]
        rw [e1] at g1;rw [e2] at g2;obtain ⟨_,a1⟩:=z5N g1;obtain ⟨a2,a3⟩:=a1 t ht
        have hk1:k=k1:=by
         obtain ⟨ps,_,hnm⟩:=hnm;rw [hend i t (by omega) a2] at hnm;exact a3 k ps hnm
        have hoj:=hev j aos[j] o (by simp [hjl]) hj;simp only [w0y] at hoj
        have hk2:k=q1:=by
         rcases z8M (P:=P) g2 with ⟨t2,b1,b2⟩|⟨d,b0,b1,b2⟩
         ·exact b2 _ _ _ (hend j t2 (by omega) b1) hoj k x hx
         ·refine b2 _ _ _ ?_ hoj k x hx;rw [←hend (j+1) d (by omega) (by rw [←List.tail_drop];exact b1)];have hjo:j<outs.length:=(w02.1 hj).1;have hs:=z7Q aos outs 0 st j aos[j] o (by simp [hjl]) hj;simp only [w0y] at hs;rw [hs];simp only [St.app,b0,Yz,w17]
        exact hne1 (hk1.symm.trans hk2)
       |false=>
        have hord':o.rd=false:=by simpa [hrd,hne,hnear,hof,z8w hnear] using h
        have hoj:=hev j aos[j] o (by simp [hjl]) hj;have n1:=z6K hoj hord' k x hx;have n2:=Wl outs j o hj
        cases hD:dOf listed j with
        |false=>
         exfalso;have hf:=(hfr j o hj hD k n1.1 (by omega)).1;have hv:=hr.env t;rw [←hlk t ht] at hv;exact V.z8x hv hnm hf
        |true=>
         simp only [w0j]
         rcases Nat.lt_or_gt_of_ne e with h|h
         ·exact h
         ·exfalso;have m1:=yn outs i j (by omega);have m2:=z6r outs (j+1)
          rcases hpre i (by omega) k hsome with g|g
          ·exact g (hno k (by omega) (by omega))
          ·omega
   ·exact z5j hlk (.inl (by simpa using hrd)) hevi
  have hdst:aos[i].dst=ops[i].dst:=by
   have:=hro;unfold z4G at this;split at this
   ·cases this
   ·split at this
    ·simp only [w00] at this;rw [←this]
    ·split at this
     ·simp only [w00] at this;rw [←this]
     ·cases this
  have hsucc:=Wl outs i outs[i] hou;have hle1:=z6r outs (i+1);refine (z8W ho hro hevD hC hr hd (by omega) (fun k k1 k2=>?_) fun v Λ' k1 k2 k3 k4 k5=>?_).2
  ·obtain ⟨f1,f2⟩:=hfr i outs[i] hou hi2 k k1 (by omega)
   exact ⟨by omega,f1,f2⟩
  ·have hr1:Rel C Λ' ((stD (dOf listed) 0 st aos outs).app aos[i].dst outs[i]) (a.put aos[i].dst v):=hr.step k1 (fun x hx=>hd i _ x ho (by rw [←hdst];exact hx)) k4 k3;have hset:=zeW listed (i:=i) (by omega)
   have heq:Eqv (stD (dOf (listed.setIfInBounds i true)) 0 st aos outs) ((stD (dOf listed) 0 st aos outs).app aos[i].dst outs[i]):=by
    refine z4y (n:=i) aos outs 0 st hao hou (by simpa using hi2) (by simp [hset]) (fun j hj=>by rw [hset];simp at hj;simp [hj]) (fun j bo p hb hp hlt hD=>?_)
    simp only [w0y] at hD
    rcases hord j bo p hb hp (by omega) with h|⟨h1,h2,h3,h4⟩
    ·rw [hD] at h;simp at h;omega
    ·refine ⟨fun x hx hbx=>?_,fun k x y hx hy=>?_⟩
     ·unfold AO.z2I at h2;simp only [w1k] at h2;have:=h2.2.1;unfold AO.same at this;simp [hx,hbx] at this
     ·have hob:outs[i].ob.isEmpty=false:=by cases hh:outs[i].ob with|nil=>rw [hh] at hx;simp at hx|cons _ _=>rfl
      have hpb:p.ob.isEmpty=false:=by cases hh:p.ob with|nil=>rw [hh] at hy;simp at hy|cons _ _=>rfl
      have hni:aos[i].W1=false:=by
       cases hh:aos[i].W1 with
       |false=>rfl
       |true=>have:=zak hh hevi;rw [this] at hx;simp at hx
      have hnb:bo.W1=false:=by
       cases hh:bo.W1 with
       |false=>rfl
       |true=>have:=zak hh (hev j bo p hb hp);rw [this] at hy;simp at hy
      have hbl:j<aos.length:=(w02.1 hb).1;have hbe:aos[j]=bo:=(w02.1 hb).2;simp only [hpb,hni,hoffs i j hia hni,Bool.not_false,Bool.true_or,w2a,w18] at h3;simp only [hob,hnb,hoffs j i hbl (by rw [hbe];exact hnb),show decide (j<i)=false from decide_eq_false (by omega),Bool.and_false,Bool.not_false,Bool.true_or,w2a,w18] at h4;have n2:=z6K (hev j bo p hb hp) h4 k y hy;have m1:=yn outs (i+1) j (by omega);have m2:=z6r outs (j+1);have m3:=Wl outs j p hp
      rcases QZ hevi k x hx with g|⟨_,g⟩
      ·rcases hpre i (by omega) k g with g|g
       ·exact g (hno k (by omega) (by omega))
       ·omega
      ·omega
   have hr2:=hr1.eqv heq.symm;rw [←hdst];have hnm:=QZ hevD;refine ih (listed.setIfInBounds i true) Λ' _ (by simpa using hs) ?_ (fun j hj l hl=>?_) hr2 (by omega) (fun j o hj hD k h1 h2=>?_)
   ·have:=z9H (D:=dOf listed) (D':=dOf (listed.setIfInBounds i true)) (i:=i) hi2 (by simp [hset]) (fun j hj=>by simp [hset,hj]) hi1
    omega
   ·rw [hset] at hj⊢;split
    ·rfl
    ·by_cases e:j=i
     ·subst e;exact hi3 l hl
     ·simp only [e,w0x] at hj;exact hcl j hj l hl
   ·rw [hset] at hD
    have hne:j≠i:=by rintro rfl;simp at hD
    simp only [hne,w0x] at hD;obtain ⟨f1,f2⟩:=hfr j o hj hD k h1 h2
    have hout:k<base+wV (outs.take i)∨base+wV (outs.take i)+outs[i].n<=k:=by
     rcases Nat.lt_or_gt_of_ne hne with h|h
     ·have:=yn outs (j+1) i (by omega);left;omega
     ·have:=yn outs (i+1) j (by omega);right;omega
    have hout':base+wV (outs.take i)+outs[i].n<=k∨(k<base+wV (outs.take i)/\(outs[i].rd=false∨aos[i].W1=true)):=by
     rcases hout with h|h
     ·right;refine ⟨h,?_⟩
      have hon:0<o.n:=by have:=Wl outs j o hj;omega
      have hjl:j<aos.length:=by rw [hlo];exact (w02.1 hj).1
      rcases hord j aos[j] o (by simp [hjl]) hj hne with e|⟨_,_,e,_⟩
      ·rw [hD] at e;simp at e;have:=yn outs (i+1) j (by omega);omega
      ·cases hn1:outs[i].rd with
       |false=>exact .inl rfl
       |true=>
        cases hn2:aos[i].W1 with
        |true=>exact .inr rfl
        |false=>
         rw [show decide (i<j)=false from decide_eq_false (by intro hlt;have:=yn outs (i+1) j (by omega);omega)] at e;simp [hn1,hn2,hon,hoffs i j hia hn2] at e
     ·exact .inl h
    exact ⟨k5 k f1 f2 hout',by rw [heq.sto];exact z3C hnm f2 hout _⟩
end
inductive YZ where
 |normal
 |exit (id:Nat)
 |ret
def Zt:Exit->Option YZ
 | .normal=>some .normal
 | .exit id=>some (.exit id)
 | .ret=>some .ret
 |_=>none
def codeOk (n:Nat):Code->Bool
 | .region _ ops _=>ops.all fun o=>match o.dst with|some d=>decide (d<n)|none=>true
 | .seq a b=>codeOk n a&&codeOk n b
 | .cond _ a b=>codeOk n a&&codeOk n b
 | .block _ c=>codeOk n c
 | .loop c=>codeOk n c
 | .scope c=>codeOk n c
 |_=>true
def WU (live:List Nat):List (Nat×V)->List (Nat×V)
 |[]=>[]
 |(t,x)::r=>if live.contains t then (t,x)::WU live r else WU live r
theorem z12 (live:List Nat):∀(e:List (Nat×V)) (t:Nat),look (WU live e) t=look e t∨look (WU live e) t= .top
 |[],t=> .inl rfl
 |(k,x)::r,t=>by
  simp only [WU];by_cases hk:live.contains k=true
  ·simp only [hk,w17];by_cases e:k=t
   ·subst e;left;simp [look,zj]
   ·have:=z12 live r t;simpa [look,zj,e] using this
  ·simp only [hk,w0h,w0x];by_cases e:k=t
   ·subst e;right
    have:∀r:List (Nat×V),look (WU live r) k= .top:=by
     intro r
     induction r with
     |nil=>rfl
     |cons h r ih=>
      obtain ⟨j,y⟩:=h;simp only [WU];by_cases hj:live.contains j=true
      ·have hne:j≠k:=by rintro rfl;exact hk hj
       simp only [hj,w17];simpa [look,zj,hne] using ih
      ·simp only [hj,w0h,w0x];exact ih
    exact this r
   ·have:=z12 live r t;simpa [look,zj,e] using this
def z8R (C:Ctx) (Q:YZ->St->Prop):Exit->Act->World->Prop:=fun e a w=>∃x st Λ,Zt e=some x/\Q x st/\Rel C Λ st a/\Λ.nxt=st.s.nxt/\Λ.w=w
def Sat (P:Program) (n m:Nat) (c:zL) (st:St) (Q:YZ->St->Prop):Prop:=
 ∀(code:Code),YG P code=some c.bare->codeOk n code=true->P.follows .mixedOrders=true->∀(C:Ctx) (Λ:L) (a:Act),C.P=P->C.n=n->C.Λ.nxt=m->Rel C Λ st a->Λ.nxt=st.s.nxt->
  code.wp P (z8R C Q) a Λ.w
section
variable {P:Program} {n m:Nat} {st:St} {Q:YZ->St->Prop}
theorem Sat.mono {c:zL} {Q':YZ->St->Prop} (h:Sat P n m c st Q) (hq:∀e st,Q e st->Q' e st):Sat P n m c st Q':=by
 intro code h1 h2 h3 C Λ a h4 h5 h6 h7 h8;exact wp_mono (h code h1 h2 h3 C Λ a h4 h5 h6 h7 h8) fun e a w ⟨x,s,Λ',k1,k2,k3⟩=>⟨x,s,Λ',k1,hq _ _ k2,k3⟩
theorem ZJ {code:Code} {c:zL} (h:YG P code=some c):
  match c with
  | .skip=>code= .skip
  | .region draw l after live=>∃id ops,code= .region id ops draw/\z2t P ops ops.toList=some l/\(draw=true->after=wL ops)/\live=[]
  | .seq a b=>∃x y,code= .seq x y/\YG P x=some a/\YG P y=some b
  | .cond z a b=>∃c x y,code= .cond c x y/\opA c=some z/\YG P x=some a/\YG P y=some b
  | .block id a=>∃x,code= .block id x/\YG P x=some a
  | .loop a=>∃x,code= .loop x/\YG P x=some a
  | .exit id=>code= .exit id
  | .ret=>code= .ret
  | .scope a=>∃x,code= .scope x/\YG P x=some a
  | .lbl=>∃l,code= .label l:=by
 cases code with
 |skip=>simp [YG] at h;subst h;rfl
 |region id ops draw=>
  simp only [YG] at h;split at h
  ·rename_i l hl;simp at h;subst h;refine ⟨id,ops,rfl,hl,fun hd=>?_,rfl⟩;simp [hd]
  ·cases h
 |seq a b=>
  simp only [YG] at h;split at h
  ·rename_i x y h1 h2;simp at h;subst h;exact ⟨a,b,rfl,h1,h2⟩
  ·cases h
 |cond c a b=>
  simp only [YG] at h;split at h
  ·rename_i z x y h1 h2 h3;simp at h;subst h;exact ⟨c,a,b,rfl,h1,h2,h3⟩
  ·cases h
 |block id c=>simp only [YG,w06] at h;obtain ⟨x,h1,rfl⟩:=h;exact ⟨c,rfl,h1⟩
 |loop c=>simp only [YG,w06] at h;obtain ⟨x,h1,rfl⟩:=h;exact ⟨c,rfl,h1⟩
 |exit id=>simp [YG] at h;subst h;rfl
 |ret=>simp [YG] at h;subst h;rfl
 |scope c=>simp only [YG,w06] at h;obtain ⟨x,h1,rfl⟩:=h;exact ⟨c,rfl,h1⟩
 |label l=>simp [YG] at h;subst h;exact ⟨l,rfl⟩
 |_=>simp [YG] at h
theorem Sat.skip (h:Q .normal st):Sat P n m .skip st Q:=by
 intro code h1 h2 _ C Λ a h4 h5 h6 h7 h8;have:=ZJ h1;simp only [zL.bare] at this;subst this;exact wp_skip ⟨.normal,st,Λ,rfl,h,h7,h8,rfl⟩
theorem Sat.lbl (h:Q .normal st):Sat P n m .lbl st Q:=by
 intro code h1 h2 _ C Λ a h4 h5 h6 h7 h8;have:=ZJ h1;simp only [zL.bare] at this;obtain ⟨l,rfl⟩:=this;exact wp_label ⟨.normal,st,Λ,rfl,h,h7,h8,rfl⟩
theorem Sat.scope {a:zL} (h:Sat P n m a st Q):Sat P n m (.scope a) st Q:=by
 intro code h1 h2 h3 C Λ ac h4 h5 h6 h7 h8;have:=ZJ h1;simp only [zL.bare] at this;obtain ⟨x,rfl,hx⟩:=this;simp only [codeOk] at h2;refine wp_scope_straight (wp_mono (h x hx h2 h3 C Λ ac h4 h5 h6 h7 h8) fun e a' w' hp=>?_);obtain ⟨z,st',Λ',k1,k2,k3,k4,rfl⟩:=hp
 cases e with
 |normal=>exact ⟨z,st',Λ',k1,k2,k3,k4,rfl⟩
 |exit id'=>exact ⟨z,st',Λ',k1,k2,k3,k4,rfl⟩
 |ret=>exact ⟨z,st',Λ',k1,k2,k3,k4,rfl⟩
 |goto l=>simp [Zt] at k1
 |panic c=>simp [Zt] at k1
 |outgrown=>simp [Zt] at k1
theorem Sat.ret (h:Q .ret st):Sat P n m .ret st Q:=by
 intro code h1 h2 _ C Λ a h4 h5 h6 h7 h8;have:=ZJ h1;simp only [zL.bare] at this;subst this;exact wp_ret ⟨.ret,st,Λ,rfl,h,h7,h8,rfl⟩
theorem Sat.exit {id:Nat} (h:Q (.exit id) st):Sat P n m (.exit id) st Q:=by
 intro code h1 h2 _ C Λ a h4 h5 h6 h7 h8;have:=ZJ h1;simp only [zL.bare] at this;subst this;exact wp_exit ⟨.exit id,st,Λ,rfl,h,h7,h8,rfl⟩
def z2H (K:St->Prop) (Q:YZ->St->Prop):YZ->St->Prop
 | .normal,st=>K st
 |e,st=>Q e st
theorem Sat.seq {a b:zL} (h:Sat P n m a st (z2H (fun st'=>Sat P n m b st' Q) Q)):Sat P n m (.seq a b) st Q:=by
 intro code h1 h2 h3 C Λ ac h4 h5 h6 h7 h8;have:=ZJ h1;simp only [zL.bare] at this;obtain ⟨x,y,rfl,hx,hy⟩:=this;simp only [codeOk,w07] at h2;refine wp_seq (wp_mono (h x hx h2.1 h3 C Λ ac h4 h5 h6 h7 h8) fun e a' w' hp=>?_);obtain ⟨z,st',Λ',k1,k2,k3,k4,rfl⟩:=hp
 cases e with
 |normal=>
  simp [Zt] at k1;subst k1;exact k2 y hy h2.2 h3 C Λ' a' h4 h5 h6 k3 k4
 |exit id=>simp [Zt] at k1;subst k1;exact ⟨_,st',Λ',rfl,k2,k3,k4,rfl⟩
 |ret=>simp [Zt] at k1;subst k1;exact ⟨_,st',Λ',rfl,k2,k3,k4,rfl⟩
 |goto l=>simp [Zt] at k1
 |panic c=>simp [Zt] at k1
 |outgrown=>simp [Zt] at k1
theorem Sat.cond {z:Ar} {a b:zL} {t:Bool} (hz:z.v st= .t (.bool t)) (h:Sat P n m (if t then a else b) st Q):Sat P n m (.cond z a b) st Q:=by
 intro code h1 h2 h3 C Λ ac h4 h5 h6 h7 h8;have:=ZJ h1;simp only [zL.bare] at this;obtain ⟨c,x,y,rfl,hc,hx,hy⟩:=this;simp only [codeOk,w07] at h2;have hv:=h7.opd hc;rw [hz] at hv;refine wp_cond hv.ZL.Yj ?_
 cases t with
 |true=>exact h x hx h2.1 h3 C Λ ac h4 h5 h6 h7 h8
 |false=>exact h y hy h2.2 h3 C Λ ac h4 h5 h6 h7 h8
def z7x (id:Nat) (Q:YZ->St->Prop):YZ->St->Prop
 | .exit id',st=>if id'=id then Q .normal st else Q (.exit id') st
 |e,st=>Q e st
theorem Sat.block {id:Nat} {a:zL} (h:Sat P n m a st (z7x id Q)):Sat P n m (.block id a) st Q:=by
 intro code h1 h2 h3 C Λ ac h4 h5 h6 h7 h8;have:=ZJ h1;simp only [zL.bare] at this;obtain ⟨x,rfl,hx⟩:=this;simp only [codeOk] at h2;refine wp_block (wp_mono (h x hx h2 h3 C Λ ac h4 h5 h6 h7 h8) fun e a' w' hp=>?_);obtain ⟨z,st',Λ',k1,k2,k3,k4,rfl⟩:=hp
 cases e with
 |normal=>simp [Zt] at k1;subst k1;exact ⟨_,st',Λ',rfl,k2,k3,k4,rfl⟩
 |exit id'=>
  simp [Zt] at k1;subst k1;simp only [z7x] at k2;simp only [Exit.inBlock];split
  ·rename_i e;simp only [e,w17] at k2;exact ⟨_,st',Λ',rfl,k2,k3,k4,rfl⟩
  ·rename_i e;simp only [e,w0x] at k2;exact ⟨_,st',Λ',rfl,k2,k3,k4,rfl⟩
 |ret=>simp [Zt] at k1;subst k1;exact ⟨_,st',Λ',rfl,k2,k3,k4,rfl⟩
 |goto l=>simp [Zt] at k1
 |panic c=>simp [Zt] at k1
 |outgrown=>simp [Zt] at k1
def zeZ (P:Program) (c:Code) (Q:Exit->Act->World->Prop) (a:Act) (w:World):Prop:=
 ∀(b:Frame) (k:List Item) (cs:List Frame),∃e a' w',Q e a' w'/\Arrives P (lone (b.at a (.code c:: .inLoop c::k)) cs w) b k cs e a' w'
theorem zdv {c:Code} {Q:Exit->Act->World->Prop} {a:Act} {w:World} (h:zeZ P c Q a w):(Code.loop c).wp P Q a w:=by
 intro b k cs;obtain ⟨e,a',w',hq,harr⟩:=h b k cs;exact ⟨e,a',w',hq,.of_steps (.one step_loop) harr⟩
theorem zbF {c:Code} {Q:Exit->Act->World->Prop} {a:Act} {w:World} (h:c.wp P (Exit.then (zeZ P c Q) Q) a w):zeZ P c Q a w:=by
 intro b k cs;obtain ⟨e,a₁,w₁,hq,harr⟩:=h b (.inLoop c::k) cs
 cases e with
 |normal=>
  obtain ⟨e₂,a₂,w₂,hq₂,harr₂⟩:=hq b k cs;exact ⟨e₂,a₂,w₂,hq₂,.of_steps (Steps.trans harr (.one step_inLoop)) harr₂⟩
 |exit id=>exact ⟨_,a₁,w₁,hq,.pass (x:= .inLoop c) rfl (fun _ _=> .inl (by simp)) harr⟩
 |goto l=>exact ⟨_,a₁,w₁,hq,.pass (x:= .inLoop c) rfl (fun _ _=> .inl (by simp)) harr⟩
 |ret=>exact ⟨_,a₁,w₁,hq,.pass (x:= .inLoop c) rfl (fun _ _=> .inl (by simp)) harr⟩
 |panic ch=>exact ⟨_,a₁,w₁,hq,.pass (x:= .inLoop c) rfl (fun _ _=> .inl (by simp)) harr⟩
 |outgrown=>exact ⟨_,a₁,w₁,hq,.pass (x:= .inLoop c) rfl (fun _ _=> .inl (by simp)) harr⟩
def z4E (P:Program) (n m:Nat) (c:zL) (st:St) (Q:YZ->St->Prop):Prop:=
 ∀(code:Code),YG P code=some c.bare->codeOk n code=true->P.follows .mixedOrders=true->∀(C:Ctx) (Λ:L) (a:Act),C.P=P->C.n=n->C.Λ.nxt=m->Rel C Λ st a->Λ.nxt=st.s.nxt->
  zeZ P code (z8R C Q) a Λ.w
theorem Sat.loop {c:zL} (h:z4E P n m c st Q):Sat P n m (.loop c) st Q:=by
 intro code h1 h2 h3 C Λ ac h4 h5 h6 h7 h8;have:=ZJ h1;simp only [zL.bare] at this;obtain ⟨x,rfl,hx⟩:=this;simp only [codeOk] at h2;exact zdv (h x hx h2 h3 C Λ ac h4 h5 h6 h7 h8)
theorem z4E.wY {c:zL} (h:Sat P n m c st (z2H (fun st'=>z4E P n m c st' Q) Q)):z4E P n m c st Q:=by
 intro code h1 h2 h3 C Λ ac h4 h5 h6 h7 h8;refine zbF (wp_mono (h code h1 h2 h3 C Λ ac h4 h5 h6 h7 h8) fun e a' w' hp=>?_);obtain ⟨z,st',Λ',k1,k2,k3,k4,rfl⟩:=hp
 cases e with
 |normal=>
  simp [Zt] at k1;subst k1;exact k2 code h1 h2 h3 C Λ' a' h4 h5 h6 k3 k4
 |exit id=>simp [Zt] at k1;subst k1;exact ⟨_,st',Λ',rfl,k2,k3,k4,rfl⟩
 |ret=>simp [Zt] at k1;subst k1;exact ⟨_,st',Λ',rfl,k2,k3,k4,rfl⟩
 |goto l=>simp [Zt] at k1
 |panic c=>simp [Zt] at k1
 |outgrown=>simp [Zt] at k1
theorem Sat.qT {c:zL} {st':St} (k:Nat) (h:Sat P n m c st' Q) (h1:m<=k) (h2:k<=st.s.nxt) (h3:k<=st'.s.nxt) (he:LeE k st'.s.nxt st.env st'.env) (hs:LeS k st'.s.nxt st.s.sto st'.s.sto):Sat P n m c st Q:=by
 intro code e1 e2 e3 C Λ a e4 e5 e6 e7 e8;exact h code e1 e2 e3 C (Λ.cut k st'.s.nxt) a e4 e5 e6 (e7.qT (by omega) (by omega) h3 he hs) Z
theorem z4E.qT {c:zL} {st':St} (k:Nat) (h:z4E P n m c st' Q) (h1:m<=k) (h2:k<=st.s.nxt) (h3:k<=st'.s.nxt) (he:LeE k st'.s.nxt st.env st'.env) (hs:LeS k st'.s.nxt st.s.sto st'.s.sto):z4E P n m c st Q:=by
 intro code e1 e2 e3 C Λ a e4 e5 e6 e7 e8;exact h code e1 e2 e3 C (Λ.cut k st'.s.nxt) a e4 e5 e6 (e7.qT (by omega) (by omega) h3 he hs) Z
def z2B (live:List Nat) (b:Nat) (st:St):St:={env:=WU live st.env,s:={st.s with nxt:=b}}
theorem Rel.ZX {C:Ctx} {Λ:L} {a:Act} (h:Rel C Λ st a) (live:List Nat) (b:Nat):Rel C Λ (z2B live b st) a:=by
 refine ⟨h.kp,h.size,h.defers,fun t=>?_,⟨h.s.sto,h.s.inj,h.s.new,h.s.bnd,h.s.frz,h.s.YX,h.s.Yu,h.s.z2g⟩⟩
 rcases z12 live st.env t with e|e
 ·simp only [z2B,e];exact h.env t
 ·simp only [z2B,e];exact .top
def z5e (draw:Bool) (ops:List AO) (after:List (List Nat)) (fl:List (Bool×Bool)) (env:List (Nat×V)):Prop:=draw=true->indep ops after fl env=true
theorem Sat.region {draw:Bool} {ops:List AO} {after:List (List Nat)} {live:List Nat} (h:evR P st.s.nxt st ops [] (fun b st' fl=>z5e draw ops after fl st'.env/\Q .normal (z2B live b st'))):Sat P n m (.region draw ops after live) st Q:=by
 intro code h1 h2 h3 C Λ a h4 h5 h6 h7 h8;have:=ZJ h1;simp only [zL.bare] at this;obtain ⟨id,os,rfl,hres,haft,_⟩:=this;obtain ⟨outs,b',st',hch,hok,hq⟩:=z2h h;simp only [w0u] at hok
 have hd:zae C os:=by
  intro j p d hp hpd;simp only [codeOk,Array.all_eq_true'] at h2;have:=h2 p (Array.mem_of_getElem? hp);rw [hpd] at this;rw [h5];simpa using this
 have hle:=Ch.le hch;have hr':=h7.up (m:=b') (by omega)
 have hfree:∀k,st.s.nxt<=k->ZU Λ k/\zj st.s.sto k=none:=by
  intro k hk;refine ⟨h7.s.free (by omega),?_⟩
  cases ha:zj st.s.sto k with
  |none=>rfl
  |some o=>have:=(h7.s.sto k o ha).1;omega
 have hfin:∀(a':Act) (Λ':L),Rel C Λ' st' a'->Λ'.nxt=b'->z8R C Q .normal a' Λ'.w:=fun a' Λ' k1 k2=>⟨.normal,_,Λ',rfl,hq,k1.ZX live b',k2,rfl⟩;obtain ⟨hlen,_⟩:=Qx hres
 cases draw with
 |false=>
  refine wp_region ?_;have:=z6U (Q:=z8R C Q) h4 hd hres b' ops 0 st.s.nxt st outs (Λ.up b') a rfl hch hr' rfl (w09 _) (fun k k1 k2=>⟨⟨(hfree k k1).1.obj,(hfree k k1).1.arr,(hfree k k1).1.fro,(hfree k k1).1.fob,(hfree k k1).1.far,(hfree k k1).1.frf⟩,(hfree k k1).2⟩) hfin;rw [List.range_eq_range'];rw [←hlen,w1o] at this;exact this
 |true=>
  refine wp_region_any h3 ?_;rw [haft rfl] at hok
  have h0:∀j,dOf (Array.replicate os.size false) j=false:=by
   intro j;unfold dOf;simp [w1p,Array.getElem?_replicate]
   split<;>rfl
  have hst0:stD (dOf (Array.replicate os.size false)) 0 st ops outs=st:=Qt _ _ _ _ (fun j _=>h0 j)
  have hdrew:Rel C {Λ.up b' with w:={Λ.w with drawn:=Λ.w.drawn+1}} st a:=by
   have hk:Kp (Λ.up b') {Λ.up b' with w:={Λ.w with drawn:=Λ.w.drawn+1}}:=
    ⟨⟨rfl,rfl,rfl,w09 _,fun _ _ _ h=>⟨h,rfl⟩,fun _ _ _ _ h o ho=>⟨by simp [Rd,h,ho],rfl⟩,fun _ _ _ _ _ h o ho=>⟨by simp [Rd,h,ho],rfl⟩⟩,w09 _,fun _ _ _ h=>h,fun _ _ _ _ _ h _=>⟨h,rfl⟩,fun _ _=>w09 _,fun _ _ _ _ h=>⟨h,fun _ h=>h⟩,fun _ _ _ _ _ _ h _=>⟨h,rfl⟩,fun _ _ _=>w09 _,fun _ _ _ _ _ _ h=>h⟩
   refine ⟨hr'.kp.trans hk,hr'.size,hr'.defers,fun t=>(hr'.env t).mono hk,hr'.s.step hk Z (fun k o ho=> .inl ⟨ho,fun _ _=>rfl,rfl⟩) hr'.s.inj hr'.s.new hr'.s.bnd hr'.s.frz ⟨fun _ _ _=>Iff.rfl,fun _ _ _ _=>Iff.rfl,rfl,fun _ _ _ _=>rfl,fun _ _ _ _ _ _=>rfl⟩⟩
  have:=zbp (Q:=z8R C Q) h4 hd hres hch (hok rfl) (w09 _) (fun k k1 _=>(hfree k (by omega)).2) hfin os.size (Array.replicate os.size false) {Λ.up b' with w:={Λ.w with drawn:=Λ.w.drawn+1}} a (by simp) (by rw [zan (fun j _=>h0 j)];exact w09 _)
   (fun i hi=>by rw [h0] at hi;cases hi) (by rw [hst0];exact hdrew) rfl (fun i o _ _ k k1 k2=>by
    rw [hst0]
    have hk:st.s.nxt<=k:=by omega
    exact ⟨⟨(hfree k hk).1.obj,(hfree k hk).1.arr,(hfree k hk).1.fro,(hfree k hk).1.fob,(hfree k hk).1.far,(hfree k hk).1.frf⟩,(hfree k hk).2⟩)
  exact this
end
inductive Qh where
 |tmp (t:Nat)
 |cell (a:Nat) (ag:Bool) (n:Nat)
def z8f (P:Program):ResultVar->Option Qh
 | .tmp t=>some (.tmp t)
 | .cell a t=>
  match ZF P t,P.underlying t with
  |some n,some _=>some (.cell a (Z5 P t) n)
  |_,_=>none
def Qh.v (st:St):Qh->Option V
 | .tmp t=>some (look st.env t)
 | .cell a ag n=>
  match look st.env a with
  | .ptr k o=>
   match zj st.s.sto k with
   |some (.cells cs)=>if ag then (if o+n<=cs.length then some (.agg ((cs.drop o).take n)) else none) else cs[o]?
   |_=>none
  |_=>none
def z2F (st:St):List Qh->Option V
 |[]=>some (.tup [])
 |[r]=>r.v st
 |[r,q]=>match r.v st,q.v st with|some x,some y=>some (.tup [x,y])|_,_=>none
 |[r,q,p]=>match r.v st,q.v st,p.v st with|some x,some y,some z=>some (.tup [x,y,z])|_,_,_=>none
 |_=>none
def z9 (P:Program) (f:FuncId):Option (Nat×zL×List Qh):=
 match P.funcs[f]? with
 |some fn=>
  match fn.body with
  |some c=>
   match YG P c,fn.results.toList.mapM (z8f P) with
   |some a,some rs=>if codeOk fn.ntmps c&&!(fn.name== "runtime.NumGoroutine") then some (fn.ntmps,a,rs) else none
   |_,_=>none
  |none=>none
 |none=>none
def Qo:Nat->List V->List (Nat×V)
 |_,[]=>[]
 |i,x::r=>(i,x)::Qo (i+1) r
theorem z3J:∀(vs:List V) (i t:Nat),look (Qo i vs) t=if i<=t then (vs[t - i]?).getD .top else .top
 |[],i,t=>by simp [Qo,look,zj]
 |x::r,i,t=>by
  simp only [Qo];by_cases e:i=t
  ·subst e;simp [look,zj]
  ·have:=z3J r (i+1) t;simp only [look,zj,e,w0x] at this⊢;rw [this];by_cases h:i<=t
   ·have:t - i=(t - (i+1))+1:=by omega
    rw [w0e (by omega),w0e h,this];simp
   ·rw [w0g (by omega),w0g h]
def z6 (P:Program) (f:FuncId) (vs:List V) (s:S) (out:Out):Prop:=
 zfJ P f/\∀(Λ:L) (args:Array Value),zT Λ s->Λ.nxt=s.nxt->args.size=vs.length->(∀(j:Nat) (v:Value) (x:V),args[j]?=some v->vs[j]?=some x->zr Λ v x)->
  Calls P f args Λ.w fun e w'=>∃v Λ',e= .returned v/\Λ'.w=w'/\Kp Λ Λ'/\Λ'.nxt=s.nxt+out.n/\zT Λ' ⟨Zf s.sto out.ob,0⟩/\zr Λ' v out.v
def LeR (m:Nat) (s:S) (r r':V):Prop:=∀(Λ:L) (v:Value),m<=Λ.nxt->zT Λ s->zr Λ v r->zr (Λ.cut m m) v r'
theorem LeR.le {m:Nat} {s:S} {r r':V} (h:LeX m m r r'):LeR m s r r':=fun _ _ hm _ hr=>h.cut (w09 _) hm hr
inductive z8S (m:Nat) (s:S):List V->List V->Prop
 |nil:z8S m s [] []
 |cons {x y:V} {xs ys:List V} (h:LeR m s x y) (t:z8S m s xs ys):z8S m s (x::xs) (y::ys)
theorem z8S.spec {m:Nat} {s:S} {xs ys:List V} (h:z8S m s xs ys):xs.length=ys.length/\∀(j:Nat) (c d:V),xs[j]?=some c->ys[j]?=some d->LeR m s c d:=by
 induction h with
 |nil=>exact ⟨rfl,fun j c d h=>by simp at h⟩
 |cons h _ ih=>
  refine ⟨by simp [ih.1],fun j c d h1 h2=>?_⟩
  cases j with
  |zero=>simp at h1 h2;subst h1;subst h2;exact h
  |succ j=>exact ih.2 j c d (by simpa using h1) (by simpa using h2)
theorem LeR.tup {m:Nat} {s:S} {xs ys:List V} (h:z8S m s xs ys):LeR m s (.tup xs) (.tup ys):=by
 intro Λ v hm hr hv;obtain ⟨h1,h2⟩:=h.spec
 cases hv with
 |tup hs hv=>
  refine .tup (hs.trans h1) fun j u d hj hd=>?_
  have hlt:j<xs.length:=by rw [h1];exact (w02.1 hd).1
  exact h2 j xs[j] d (by simp [hlt]) hd Λ u hm hr (hv j u _ hj (by simp [hlt]))
theorem LeR.agg {m:Nat} {s:S} {xs ys:List V} (h:z8S m s xs ys):LeR m s (.agg xs) (.agg ys):=by
 intro Λ v hm hr hv;obtain ⟨h1,h2⟩:=h.spec
 cases hv with
 |agg hs hv=>
  refine .agg (hs.trans h1) fun j u d hj hd=>?_
  have hlt:j<xs.length:=by rw [h1];exact (w02.1 hd).1
  exact h2 j xs[j] d (by simp [hlt]) hd Λ u hm hr (hv j u _ hj (by simp [hlt]))
section
variable {P:Program}
def yz (tmps:Array Value):ResultVar->Sem Value
 | .tmp t=>pure (tmps.getD t undef)
 | .cell a t=>do loadVar t (←asAddr (tmps.getD a undef))
theorem z0u (fn:Func) (tmps:Array Value):results fn tmps=(do let vs ←fn.results.mapM (yz tmps);pure (if h:vs.size=1 then vs[0] else .tuple vs)):=by
 unfold results;congr 2
theorem z00 {C:Ctx} {Λ:L} {st:St} {a:Act} (hr:Rel C Λ st a) {rv:ResultVar} {r:Qh} {x:V} (h1:z8f P rv=some r) (h2:r.v st=some x):
  ∃v,(yz a.tmps rv).run P Λ.w= .ok v Λ.w/\zr Λ v x:=by
 cases rv with
 |tmp t=>simp [z8f] at h1;subst h1;simp [Qh.v] at h2;subst h2;exact ⟨_,rfl,hr.env t⟩
 |cell ad t=>
  simp only [z8f] at h1;split at h1
  ·rename_i n d hn hu;simp at h1;subst h1;simp only [Qh.v] at h2;split at h2
   ·rename_i k o hl;split at h2
    ·rename_i cs hk;have hx:=hr.env ad;rw [hl] at hx;simp only [yz];generalize a.tmps.getD ad undef=u at hx⊢
     cases hx with
     |@ptr b _ _ _ hb=>
      obtain ⟨arr,e,e1,e2,e3⟩:=hr.s.Qw hk hb;split at h2
      ·rename_i hag;split at h2
       ·rename_i hle;simp at h2;subst h2
        have hvl:((arr.toList.drop o).take n).length=n:=by simp;omega
        have hcell:∀(j:Nat) (v:Value),((arr.toList.drop o).take n)[j]?=some v->Λ.w.cell? ⟨b,o+j,none⟩=some v:=by
         intro j v hj;rw [w0p] at hj;split at hj
         ·rw [w0z] at hj;rw [cell_of_row Λ.w b _ arr e _ e1];simpa using hj
         ·cases hj
        have:=YV (P:=P) hn hag hvl hcell;simp [Instr.loadAt,Instr.sureAddr] at this
        exact ⟨.agg ((arr.toList.drop o).take n).toArray,by simp [asAddr,this],zr.zfU (vs:=arr.toList) (fun j v c a1 a2=>e3 j v c (by simpa using a1) a2) (by simpa using e2) o n⟩
       ·cases h2
      ·rename_i hag;have hlt:o<cs.length:=(w02.1 h2).1
       have hcell:Λ.w.cell? ⟨b,o,none⟩=some (arr[o]'(by omega)):=by rw [cell_of_row Λ.w b o arr e _ e1];simp [e2,hlt]
       have:=YM (P:=P) hu (by simpa using hag) hcell;simp [Instr.loadAt,Instr.sureAddr] at this
       exact ⟨arr[o]'(by omega),by simp [asAddr,this],e3 o _ x (by simp) h2⟩
    ·cases h2
   ·cases h2
  ·cases h1
theorem z7G {C:Ctx} {Λ:L} {st:St} {a:Act} (hr:Rel C Λ st a) {fn:Func} {rs:List Qh} {x:V} (h1:fn.results.toList.mapM (z8f P)=some rs) (h2:z2F st rs=some x):
  ∃v,(results fn a.tmps).run P Λ.w= .ok v Λ.w/\zr Λ v x:=by
 have hmap:∀(l:List ResultVar) (rs:List Qh),l.mapM (z8f P)=some rs->l.length=rs.length/\∀(j:Nat) (x:ResultVar) (y:Qh),l[j]?=some x->rs[j]?=some y->z8f P x=some y:=by
  intro l
  induction l with
  |nil=>intro c h;simp at h;subst h;simp
  |cons d cs ih=>
   intro c h;simp only [List.mapM_cons,w04,Option.pure_def,w01] at h;obtain ⟨y,hy,c',hc',h⟩:=h;simp at h;subst h;obtain ⟨i1,i2⟩:=ih c' hc'
   refine ⟨by simp [i1],fun j e z h1 h2=>?_⟩
   cases j with
   |zero=>simp at h1 h2;subst h1;subst h2;exact hy
   |succ j=>exact i2 j e z (by simpa using h1) (by simpa using h2)
 obtain ⟨k1,k2⟩:=hmap _ _ h1;unfold z2F at h2;split at h2
 ·simp at h2;subst h2
  have:fn.results=#[]:=by simpa using k1
  exact ⟨.tuple #[],by simp [results,this],.tup rfl (by simp)⟩
 ·rename_i r
  have:∃x0,fn.results=#[x0]:=by
   match hfn:fn.results.toList,k1 with
   |[x0],_=>exact ⟨x0,by apply w27;simpa using hfn⟩
  obtain ⟨x0,he⟩:=this;have hr0:=k2 0 x0 r (by simp [he]) rfl;obtain ⟨v,e1,e2⟩:=z00 hr hr0 h2;refine ⟨v,?_,e2⟩;rw [z0u];simp [he,e1]
 ·rename_i r q
  have:∃x0 x1,fn.results=#[x0,x1]:=by
   match hfn:fn.results.toList,k1 with
   |[x0,x1],_=>exact ⟨x0,x1,by apply w27;simpa using hfn⟩
  obtain ⟨x0,x1,he⟩:=this;split at h2
  ·rename_i y0 y1 g0 g1;simp at h2;subst h2;obtain ⟨v0,a1,a2⟩:=z00 hr (k2 0 x0 r (by simp [he]) rfl) g0;obtain ⟨v1,b1,b2⟩:=z00 hr (k2 1 x1 q (by simp [he]) rfl) g1;refine ⟨.tuple #[v0,v1],?_,.tup Z fun j v c hv hc=>?_⟩
   ·rw [z0u];simp [he,a1,b1]
   ·match j,hv,hc with
    |0,hv,hc=>simp at hv hc;subst hv;subst hc;exact a2
    |1,hv,hc=>simp at hv hc;subst hv;subst hc;exact b2
  ·cases h2
 ·rename_i r q p
  have:∃x0 x1 x2,fn.results=#[x0,x1,x2]:=by
   match hfn:fn.results.toList,k1 with
   |[x0,x1,x2],_=>exact ⟨x0,x1,x2,by apply w27;simpa using hfn⟩
  obtain ⟨x0,x1,x2,he⟩:=this;split at h2
  ·rename_i y0 y1 y2 g0 g1 g2;simp at h2;subst h2;obtain ⟨v0,a1,a2⟩:=z00 hr (k2 0 x0 r (by simp [he]) rfl) g0;obtain ⟨v1,b1,b2⟩:=z00 hr (k2 1 x1 q (by simp [he]) rfl) g1;obtain ⟨v2,c1,c2⟩:=z00 hr (k2 2 x2 p (by simp [he]) rfl) g2;refine ⟨.tuple #[v0,v1,v2],?_,.tup Z fun j v c hv hc=>?_⟩
   ·rw [z0u];simp [he,a1,b1,c1]
   ·match j,hv,hc with
    |0,hv,hc=>simp at hv hc;subst hv;subst hc;exact a2
    |1,hv,hc=>simp at hv hc;subst hv;subst hc;exact b2
    |2,hv,hc=>simp at hv hc;subst hv;subst hc;exact c2
  ·cases h2
 ·cases h2
def z5O (m:Nat) (s:S) (sto':List (Nat×zd)):Prop:=∀(Λ:L),m<=Λ.nxt->zT Λ s->zT (Λ.cut m m) ⟨sto',0⟩
theorem z5O.le {m:Nat} {s:S} {sto':List (Nat×zd)} (h:LeS m m s.sto sto'):z5O m s sto':=fun _ hm hr=>hr.qT (s':=⟨sto',0⟩) hm (w09 _) h
def zd.bd (m:Nat):zd->Bool
 | .cells cs=>V.bds m cs
 | .map _ es _=>V.bds m (es.map (·.2))
 | .arr _=>true
 | .iter q _ _ _=>decide (q<m)
 | .gro _ cs=>V.bds m cs
 | .yL os=>os.all (V.bds m)
 | .y8 _=>true
 | .WN _ _=>true
def Z1 (m:Nat):List (Nat×zd)->Bool
 |[]=>true
 |(k,o)::r=>decide (k<m)&&o.bd m&&Z1 m r
theorem Wu {m:Nat}:∀{s:List (Nat×zd)},Z1 m s=true->∀k o,zj s k=some o->k<m/\o.bd m=true
 |[],_,k,o,h=>by simp [zj] at h
 |(j,x)::r,hb,k,o,h=>by
  simp only [Z1,w07,w0j] at hb;by_cases e:j=k
  ·subst e;simp [zj] at h;subst h;exact ⟨hb.1.1,hb.1.2⟩
  ·simp only [zj,e,w0x] at h;exact Wu hb.2 k o h
theorem qd.cut {Λ:L} {m m' k:Nat} {o:zd} (hm:m<=m') (hk:k<m) (hb:o.bd m=true) (h:qd Λ k o):qd (Λ.cut m m') k o:=by
 cases o with
 |cells cs=>
  obtain ⟨b,arr,e,e1,e2,e3,e4⟩:=h;exact ⟨b,arr,e,yj e1 hk,e2,e3,fun j v c a1 a2=>(e4 j v c a1 a2).cut hm (V.Zj (by simpa [zd.bd] using hb) j c a2)⟩
 |map kag es sx=>
  obtain ⟨b,ents,clock,e1,e2,e3⟩:=h;exact ⟨b,ents,clock,yj e1 hk,e2,e3.ZX (fun _ _ h=>h.cut) (fun i kv v hi hv=>hv.cut hm (V.Zj (by simpa [zd.bd] using hb) i kv.2 (by simp [hi])))⟩
 |arr n=>unfold qd at*;simp [L.cut,hk,h]
 |iter q s seen c=>
  have hq:q<m:=by simpa [zd.bd] using hb
  obtain ⟨b,bm,e1,e2,e3,e4⟩:=h;exact ⟨b,bm,yj e1 hk,e2,yj e3 hq,w08 hq hm⟩
 |gro r cs=>
  obtain ⟨h0,hr⟩:=h
  refine ⟨by simp [L.cut,hk,h0],?_⟩
  rcases hr with ⟨e1,e2⟩|⟨b,arr,e,⟨i,e1,e1'⟩,e2,e3,e4⟩
  ·exact .inl ⟨e1,fun b i hb=>e2 b i (zN hb).1⟩
  ·exact .inr ⟨b,arr,e,⟨i,W9 e1 hk,fun b' i' h'=>e1' b' i' (zN h').1⟩,e2,e3,fun j v c a1 a2=>(e4 j v c a1 a2).cut hm (V.Zj (by simpa [zd.bd] using hb) j c a2)⟩
 |yL os=>
  obtain ⟨h0,hr⟩:=h;refine ⟨fun b i hbi=>h0 b i (zN hbi).1,fun i cs hi=>?_⟩;obtain ⟨b,arr,e,e1,e2,e3,e4⟩:=hr i cs hi
  have hbs:V.bds m cs=true:=by
   have:=hb;simp only [zd.bd,w0i] at this;exact this cs (zMG hi)
  exact ⟨b,arr,e,W9 e1 hk,e2,e3,fun j v c a1 a2=>(e4 j v c a1 a2).cut hm (V.Zj hbs j c a2)⟩
 |y8 ns=>intro i;have:=h i;simpa [L.cut,hk] using this
 |WN kag I=>
  obtain ⟨b,ents,clock,e1,e2,e3,e4,e5⟩:=h;refine ⟨b,ents,clock,yj e1 hk,e2,e3,e4,fun i e hi=>?_⟩;obtain ⟨cs,v,g1,g2,g3⟩:=e5 i e hi;exact ⟨cs,v,g1.ZX fun _ _ h=>h.cut,g2.cut,g3⟩
theorem z5O.same {m:Nat} {s:S} {sto':List (Nat×zd)} (h:∀k o,zj sto' k=some o->zj s.sto k=some o/\k<m/\o.bd m=true):z5O m s sto':=by
 intro Λ hm hr
 refine ⟨fun k o hk=>?_,fun b b' k h1 h2=>hr.inj b b' k (YB h1).1 (YB h2).1,fun b hb=>z31 (hr.new b hb),fun b k hb=>?_,fun k hk=>by have hk':m<=k:=hk;simp [L.cut];omega,fun b b' k i h1 h2=>hr.YX b b' k i (zN h1).1 (zN h2).1,fun b k hb=>?_,fun k i hk=>by have hk':m<=k:=hk;simp [L.cut];omega⟩
 ·obtain ⟨h1,h2,h3⟩:=h k o hk;exact ⟨h2,(hr.sto k o h1).2.cut (w09 _) h2 h3⟩
 ·rcases hb with hb|⟨n,hb⟩
  ·exact (YB hb).2
  ·exact (z2V hb).2
 ·rcases hb with ⟨i,hb⟩|⟨i,n,hb⟩
  ·exact (zN hb).2
  ·exact (z2w hb).2
def z3 (s:S) (out:Out) (rs:List Qh):YZ->St->Prop
 | .exit _,_=>False
 |_,st=>∃r,z2F st rs=some r/\s.nxt+out.n<=st.s.nxt/\LeR (s.nxt+out.n) st.s r out.v/\z5O (s.nxt+out.n) st.s (Zf s.sto out.ob)
theorem z7P {f:FuncId} {n:Nat} {ac:zL} {rs:List Qh} (h:z9 P f=some (n,ac,rs)):∃fn c,P.funcs[f]?=some fn/\fn.body=some c/\YG P c=some ac/\fn.results.toList.mapM (z8f P)=some rs/\codeOk n c=true/\fn.ntmps=n/\zfJ P f:=by
 unfold z9 at h;split at h
 ·rename_i fn hfn;split at h
  ·rename_i c hc;split at h
   ·rename_i a r h1 h2;split at h
    ·rename_i hok;simp at h;obtain ⟨rfl,rfl,rfl⟩:=h;simp only [w07,w21] at hok;refine ⟨fn,c,hfn,hc,h1,h2,hok.1,rfl,fun args w=>?_⟩;simp only [callFunc];simp [program,Sem.run,hfn,hc];have:=hok.2;simp at this;simp [this]
    ·cases h
   ·cases h
  ·cases h
 ·cases h
theorem z6.zfG {f:FuncId} {n:Nat} {ac:zL} {rs:List Qh} {vs:List V} {s:S} {out:Out} (hi:z9 P f=some (n,ac.bare,rs)) (hm:P.follows .mixedOrders=true) (hn:vs.length<=n)
  (h:Sat P n s.nxt ac {env:=Qo 0 vs,s:=s} (z3 s out rs)):z6 P f vs s out:=by
 obtain ⟨fn,c,h1,h2,h3,h4,h5,h6,h7⟩:=z7P hi;refine ⟨h7,fun Λ args hs hx hsz hargs=>?_⟩;refine calls_of_wp h1 h2 ?_
 have hrel:Rel {P:=P,n:=n,Λ:=Λ} Λ {env:=Qo 0 vs,s:=s} {tmps:=args++Array.replicate (fn.ntmps - args.size) undef,defers:=[]}:=by
  refine ⟨Kp.refl _,by simp [h6];omega,rfl,fun t=>?_,hs⟩
  simp only;rw [z3J,w0e (Nat.zero_le _),Nat.sub_zero]
  cases hv:vs[t]? with
  |none=>exact .top
  |some x=>
   have hlt:t<args.size:=by rw [hsz];exact (w02.1 hv).1
   have he:(args++Array.replicate (fn.ntmps - args.size) undef).getD t undef=args[t]:=by
    rw [w1p,w1c hlt];simp [hlt]
   rw [he];exact hargs t args[t] x (by simp [hlt]) hv
 refine wp_mono (h c h3 h5 hm {P:=P,n:=n,Λ:=Λ} Λ _ Z Z hx hrel hx) fun e a' w' hp=>?_;obtain ⟨x,st',Λ',k1,k2,k3,k4,rfl⟩:=hp
 have fin:(∃r,z2F st' rs=some r/\s.nxt+out.n<=st'.s.nxt/\LeR (s.nxt+out.n) st'.s r out.v/\z5O (s.nxt+out.n) st'.s (Zf s.sto out.ob))->
   a'.defers=[]/\∃v,(results fn a'.tmps).run P Λ'.w= .ok v Λ'.w/\∃v' Λ'',Ending.returned v= .returned v'/\Λ''.w=Λ'.w/\Kp Λ Λ''/\Λ''.nxt=s.nxt+out.n/\zT Λ'' ⟨Zf s.sto out.ob,0⟩/\zr Λ'' v' out.v:=by
  rintro ⟨r,e1,e2,e3,e4⟩;obtain ⟨v,f1,f2⟩:=z7G k3 h4 e1;refine ⟨k3.defers,v,f1,v,Λ'.cut (s.nxt+out.n) (s.nxt+out.n),rfl,rfl,k3.kp.cut (by simp;omega) (w09 _),rfl,?_,e3 Λ' v (by omega) k3.s f2⟩;exact e4 Λ' (by omega) k3.s
 cases e with
 |normal=>simp [Zt] at k1;subst k1;exact fin k2
 |ret=>simp [Zt] at k1;subst k1;exact fin k2
 |exit id=>simp [Zt] at k1;subst k1;exact k2.elim
 |goto l=>simp [Zt] at k1
 |panic ch=>simp [Zt] at k1
 |outgrown=>simp [Zt] at k1
def L.QL (Λ:L):L where
 lab:=fun b=>match Λ.lab b with
  | .obj _=> .fix (some 0)
  | .arr _ fr=> .fix (some fr)
  | .fob _ _=> .fix (some 0)
  | .far _ _ fr=> .fix (some fr)
  |x=>x
 fro:=fun _=>0
 nxt:=0
 w:=Λ.w
 frf:=fun _ _=>0
theorem Qy (Λ:L) (b:Nat):∃fr,Λ.QL.lab b= .fix fr:=by
 simp only [L.QL]
 cases Λ.lab b with
 |fix fr=>exact ⟨_,rfl⟩
 |obj k=>exact ⟨_,rfl⟩
 |arr k n=>exact ⟨_,rfl⟩
 |fob k i=>exact ⟨_,rfl⟩
 |far k i n=>exact ⟨_,rfl⟩
theorem zac {Λ:L} {b o:Nat}:Rd Λ.QL.lab b o↔Rd Λ.lab b o:=by
 unfold Rd;simp only [L.QL]
 cases Λ.lab b with
 |fix fr=>exact Iff.rfl
 |obj k=>simp
 |arr k n=>simp
 |fob k i=>simp
 |far k i n=>simp
theorem zI.QL {Λ:L} {v:Value} {x:T} (h:zI Λ.lab Λ.w v x):zI Λ.QL.lab Λ.QL.w v x:=h.ZX fun _ _ _ _ hr=>⟨zac.2 hr,rfl⟩
theorem zr.QL {Λ:L} {v:Value} {x:V} (h:zr Λ v x) (hb:x.bd 0=true):zr Λ.QL v x:=by
 induction h with
 |t h=>exact .t h.QL
 |zC=>exact .zC
 |own _ _ _ _ _=>simp [V.bd] at hb
 |slc _ _ _=>simp [V.bd] at hb
 |agg hs _ ih=>exact .agg hs fun j v c h1 h2=>ih j v c h1 h2 (V.Zj (by simpa [V.bd] using hb) j c h2)
 |tup hs _ ih=>exact .tup hs fun j v c h1 h2=>ih j v c h1 h2 (V.Zj (by simpa [V.bd] using hb) j c h2)
 |ptr _ _=>simp [V.bd] at hb
 |mp _ _=>simp [V.bd] at hb
 |@fn f vs cs hs h=>
  refine .fn hs fun j v c h1 h2=>?_;simp only [V.bd,w0i] at hb;have:=hb c (zMG h2);simp at this
 |gd _ h' ih=>exact .gd (fun hc=>ih hc (by simpa [V.bd] using hb)) h'
 |top=>exact .top
 |ub h h'=>exact .ub h h'
 |fpt _ _=>simp [V.bd] at hb
 |gpt _ _ _ _=>simp [V.bd] at hb
 |gsl _ _ _ _=>simp [V.bd] at hb
 |fow _ _ _ _ _=>simp [V.bd] at hb
theorem zT.QL {Λ:L} {sto:List (Nat×zd)} (h:zT Λ ⟨sto,Λ.nxt⟩):zT Λ.QL ⟨[],0⟩:=by
 refine ⟨by simp [zj],fun b b' k h1=>?_,fun b hb=>?_,fun b k hb=>?_,fun _ _=>rfl,fun b b' k i h1=>?_,fun b k hb=>?_,fun _ _ _=>rfl⟩
 ·obtain ⟨fr,e⟩:=Qy Λ b;rw [e] at h1;simp at h1
 ·simp only [L.QL,h.new b hb]
 ·obtain ⟨fr,e⟩:=Qy Λ b;rw [e] at hb;simp at hb
 ·obtain ⟨fr,e⟩:=Qy Λ b;rw [e] at h1;simp at h1
 ·obtain ⟨fr,e⟩:=Qy Λ b;rw [e] at hb;simp at hb
def L.back (Λ Λ':L):L where
 lab:=fun b=>if b<Λ.w.heap.size then Λ.lab b else Λ'.lab b
 fro:=Λ.fro
 nxt:=Λ.nxt
 w:=Λ'.w
 frf:=Λ.frf
theorem z6.pure {f:FuncId} {vs:List V} {x:V} {base:Nat} {s:List (Nat×zd)} (h:z6 P f vs ⟨[],0⟩ {v:=x}) (hb:V.bds 0 vs=true) (hx:x.bd 0=true):wc P f vs base s {v:=x}:=by
 refine ⟨h.1,by simp,fun Λ args hs _ _ hsz hargs=>?_⟩
 refine (h.2 Λ.QL args hs.QL Z hsz fun j v y h1 h2=>(hargs j v y h1 h2).QL (V.Zj hb j y h2)).mono fun e w' he=>?_;obtain ⟨v,Λ',rfl,rfl,k1,k2,k3,k4⟩:=he;simp only [Zf,w1w] at k2 k3
 have hnl:∀b,∃fr,Λ'.lab b= .fix fr:=by
  intro b
  cases hl:Λ'.lab b with
  |fix fr=>exact ⟨fr,rfl⟩
  |obj k=>have:=k3.bnd b k (.inl hl);omega
  |arr k n=>have:=k3.bnd b k (.inr ⟨n,hl⟩);omega
  |fob k i=>have:=k3.Yu b k (.inl ⟨i,hl⟩);omega
  |far k i n=>have:=k3.Yu b k (.inr ⟨i,n,hl⟩);omega
 have hold:∀b,b<Λ.w.heap.size->Λ'.lab b=Λ.QL.lab b/\Λ'.w.heap[b]?=Λ.w.heap[b]?:=by
  intro b hb;obtain ⟨fr,e⟩:=Qy Λ b;obtain ⟨e1,e2⟩:=k1.fr.fix b hb fr e
  exact ⟨by rw [e1,e],e2⟩
 have hlt:∀{b:Nat},b<Λ.w.heap.size->(Λ.back Λ').lab b=Λ.lab b:=fun h=>by simp [L.back,h]
 have hlow:∀{b:Nat} {x:Lab},Λ.lab b=x->x≠ .fix none->b<Λ.w.heap.size:=by
  intro b x hl hx
  rcases w1a b Λ.w.heap.size with h|h
  ·exact h
  ·rw [hs.new b h] at hl;exact absurd hl.symm hx
 have hinv:∀b,(∀fr,(Λ.back Λ').lab b≠ .fix fr)->(Λ.back Λ').lab b=Λ.lab b:=by
  intro b hb
  rcases w1a b Λ.w.heap.size with h|h
  ·exact hlt h
  ·exfalso;obtain ⟨fr,e⟩:=hnl b;exact hb fr (by simp [L.back,Nat.not_lt.2 h,e])
 have hinv':∀{b:Nat} {x:Lab},(Λ.back Λ').lab b=x->(∀fr,x≠ .fix fr)->Λ.lab b=x:=by
  intro b x hl hx;rw [←hl];exact (hinv b (fun fr e=>hx fr (hl.symm.trans e))).symm
 have hgo:∀{b:Nat} {x:Lab},Λ.lab b=x->x≠ .fix none->(Λ.back Λ').lab b=x/\(Λ.back Λ').w.heap[b]?=Λ.w.heap[b]?:=by
  intro b x hl hx;have hb:=hlow hl hx
  exact ⟨by rw [hlt hb];exact hl,(hold b hb).2⟩
 have hkp:Kp Λ (Λ.back Λ'):=by
  refine ⟨⟨k1.fr.os,k1.fr.tape,k1.fr.output,k1.fr.size,fun b hb fr hl=>⟨by rw [hlt hb];exact hl,(hold b hb).2⟩,fun b hb k fr hl o ho=>⟨by simp only [Rd,hlt hb,hl];exact ho,cell?_heap (hold b hb).2⟩,fun b hb k i fr hl o ho=>⟨by simp only [Rd,hlt hb,hl];exact ho,cell?_heap (hold b hb).2⟩⟩,w09 _,fun b k _ hl=>(hgo hl (by simp)).1,fun b k n _ hb hl _=>⟨by rw [hlt hb];exact hl,(hold b hb).2⟩,fun _ _=>w09 _,
   fun b k i _ hl=>⟨(hgo hl (by simp)).1,fun N hN=>by unfold Zl at hN⊢;rw [(hgo hl (by simp)).2];exact hN⟩,fun b k i n _ hb hl _=>hgo hl (by simp),fun _ _ _=>w09 _,fun b k i _ _ _ hl=>hinv' hl (by simp)⟩
 have hF:Z7 Λ (Λ.back Λ'):=⟨fun b k i=>⟨fun hl=>hinv' hl (by simp),fun hl=>(hgo hl (by simp)).1⟩,fun b k i n=>⟨fun hl=>hinv' hl (by simp),fun hl=>(hgo hl (by simp)).1⟩,rfl,fun b k i hl=>(hgo hl (by simp)).2,fun b k i n _ hl=>(hgo hl (by simp)).2⟩;refine ⟨v,Λ.back Λ',rfl,rfl,hkp,rfl,?_,?_,fun k hk _ _=>hk.ZX hF (fun b hb=>hk.obj b (hinv' hb (by simp))) (fun b n hb=>hk.arr b n (hinv' hb (by simp))) hk.fro⟩
 ·refine hs.step hkp Z (fun k o ho=> .inl ⟨ho,fun b hb=>(hgo hb (by simp)).2,rfl⟩) (fun b b' k h1 h2=>hs.inj b b' k (hinv' h1 (by simp)) (hinv' h2 (by simp))) (fun b hb=>?_) (fun b k hb=>?_) hs.frz hF
  ·have hsz:Λ.w.heap.size<=b:=w0o k1.fr.size hb
   have:(Λ.back Λ').lab b=Λ'.lab b:=by simp [L.back,Nat.not_lt.2 hsz]
   rw [this];exact k3.new b hb
  ·rcases hb with hb|⟨n,hb⟩
   ·exact hs.bnd b k (.inl (hinv' hb (by simp)))
   ·exact hs.bnd b k (.inr ⟨n,hinv' hb (by simp)⟩)
 ·have hrep:∀{u:Value} {y:T},zI Λ'.lab Λ'.w u y->zI (Λ.back Λ').lab (Λ.back Λ').w u y:=by
   intro u y hy;refine hy.ZX fun b o _ _ hr=>⟨?_,rfl⟩
   rcases w1a b Λ.w.heap.size with h|h
   ·unfold Rd;rw [hlt h];have:Rd Λ'.lab b o:=hr;unfold Rd at this;rw [(hold b h).1] at this;exact zac.1 this
   ·have e:(Λ.back Λ').lab b=Λ'.lab b:=by simp [L.back,Nat.not_lt.2 h]
    unfold Rd;rw [e];exact hr
  clear hb h
  simp only at k4⊢;generalize x=y at k4 hx
  induction k4 with
  |t h=>exact .t (hrep h)
  |zC=>exact .zC
  |own _ _ _ _ _=>simp [V.bd] at hx
  |slc _ _ _=>simp [V.bd] at hx
  |agg hs _ ih=>exact .agg hs fun j v c h1 h2=>ih j v c h1 h2 (V.Zj (by simpa [V.bd] using hx) j c h2)
  |tup hs _ ih=>exact .tup hs fun j v c h1 h2=>ih j v c h1 h2 (V.Zj (by simpa [V.bd] using hx) j c h2)
  |ptr _ _=>simp [V.bd] at hx
  |mp _ _=>simp [V.bd] at hx
  |@fn f vs cs hs h=>
   refine .fn hs fun j v c h1 h2=>?_;simp only [V.bd,w0i] at hx;have:=hx c (zMG h2);simp at this
  |gd _ h' ih=>exact .gd (fun hc=>ih hc (by simpa [V.bd] using hx)) h'
  |top=>exact .top
  |ub h h'=>exact .ub h h'
  |fpt _ _=>simp [V.bd] at hx
  |gpt _ _ _ _=>simp [V.bd] at hx
  |gsl _ _ _ _=>simp [V.bd] at hx
  |fow _ _ _ _ _=>simp [V.bd] at hx
def L.zy (Λ:L) (m:Nat):L where
 lab:=fun b=>match Λ.lab b with
  | .obj k=>if k<m then .obj k else .fix (some 0)
  | .arr k fr=>if k<m then .arr k fr else .fix (some fr)
  | .fob k i=>if k<m then .fob k i else .fix (some 0)
  | .far k i fr=>if k<m then .far k i fr else .fix (some fr)
  |x=>x
 fro:=fun k=>if k<m then Λ.fro k else 0
 nxt:=m
 w:=Λ.w
 frf:=fun k i=>if k<m then Λ.frf k i else 0
def L.high (Λ:L) (m b:Nat):Bool:=
 match Λ.lab b with
 | .obj k=>decide (m<=k)
 | .arr k _=>decide (m<=k)
 | .fob k _=>decide (m<=k)
 | .far k _ _=>decide (m<=k)
 |_=>false
theorem z6i {Λ:L} {m b:Nat} (h:Λ.high m b=false):(Λ.zy m).lab b=Λ.lab b:=by
 unfold L.high at h;simp only [L.zy]
 cases hl:Λ.lab b with
 |fix fr=>rfl
 |obj k=>rw [hl] at h;simp at h;simp [h]
 |arr k fr=>rw [hl] at h;simp at h;simp [h]
 |fob k i=>rw [hl] at h;simp at h;simp [h]
 |far k i fr=>rw [hl] at h;simp at h;simp [h]
theorem zal {Λ:L} {m b:Nat} (h:Λ.high m b=true):∃fr,(Λ.zy m).lab b= .fix (some fr)/\((∃k,Λ.lab b= .obj k/\m<=k/\fr=0)∨(∃k,Λ.lab b= .arr k fr/\m<=k)∨(∃k i,Λ.lab b= .fob k i/\m<=k/\fr=0)∨∃k i,Λ.lab b= .far k i fr/\m<=k):=by
 unfold L.high at h;simp only [L.zy]
 cases hl:Λ.lab b with
 |fix fr=>rw [hl] at h;simp at h
 |obj k=>rw [hl] at h;simp at h;exact ⟨0,by simp;omega,.inl ⟨k,rfl,h,rfl⟩⟩
 |arr k fr=>rw [hl] at h;simp at h;exact ⟨fr,by simp;omega,.inr (.inl ⟨k,rfl,h⟩)⟩
 |fob k i=>rw [hl] at h;simp at h;exact ⟨0,by simp;omega,.inr (.inr (.inl ⟨k,i,rfl,h,rfl⟩))⟩
 |far k i fr=>rw [hl] at h;simp at h;exact ⟨fr,by simp;omega,.inr (.inr (.inr ⟨k,i,rfl,h⟩))⟩
theorem zhj {Λ:L} {m b o:Nat}:Rd (Λ.zy m).lab b o↔Rd Λ.lab b o:=by
 cases hh:Λ.high m b with
 |false=>unfold Rd;rw [z6i hh]
 |true=>
  obtain ⟨fr,h1,h2⟩:=zal hh;unfold Rd
  rcases h2 with ⟨k,e,_,rfl⟩|⟨k,e,_⟩|⟨k,i,e,_,rfl⟩|⟨k,i,e,_⟩<;>rw [h1,e]<;>simp
theorem qc {Λ:L} {m b k:Nat} (h:Λ.lab b= .obj k) (hk:k<m):(Λ.zy m).lab b= .obj k:=by simp [L.zy,h,hk]
theorem zds {Λ:L} {m b k n:Nat} (h:Λ.lab b= .arr k n) (hk:k<m):(Λ.zy m).lab b= .arr k n:=by simp [L.zy,h,hk]
theorem z0N {Λ:L} {m b k:Nat} (h:(Λ.zy m).lab b= .obj k):Λ.lab b= .obj k/\k<m:=by
 simp only [L.zy] at h
 cases hl:Λ.lab b with
 |fix fr=>simp [hl] at h
 |obj j=>simp only [hl] at h;split at h<;>simp_all
 |arr j n=>simp only [hl] at h;split at h<;>simp_all
 |fob j n=>simp only [hl] at h;split at h<;>simp_all
 |far j n q=>simp only [hl] at h;split at h<;>simp_all
theorem z29 {Λ:L} {m b k i:Nat} (h:Λ.lab b= .fob k i) (hk:k<m):(Λ.zy m).lab b= .fob k i:=by simp [L.zy,h,hk]
theorem zct {Λ:L} {m b k i n:Nat} (h:Λ.lab b= .far k i n) (hk:k<m):(Λ.zy m).lab b= .far k i n:=by simp [L.zy,h,hk]
theorem yE {Λ:L} {m b k i:Nat} (h:(Λ.zy m).lab b= .fob k i):Λ.lab b= .fob k i/\k<m:=by
 simp only [L.zy] at h
 cases hl:Λ.lab b with
 |fix fr=>simp [hl] at h
 |obj j=>simp only [hl] at h;split at h<;>simp_all
 |arr j n=>simp only [hl] at h;split at h<;>simp_all
 |fob j n=>simp only [hl] at h;split at h<;>simp_all
 |far j n q=>simp only [hl] at h;split at h<;>simp_all
theorem z8Z {Λ:L} {m b k i n:Nat} (h:(Λ.zy m).lab b= .far k i n):Λ.lab b= .far k i n/\k<m:=by
 simp only [L.zy] at h
 cases hl:Λ.lab b with
 |fix fr=>simp [hl] at h
 |obj j=>simp only [hl] at h;split at h<;>simp_all
 |arr j n=>simp only [hl] at h;split at h<;>simp_all
 |fob j n=>simp only [hl] at h;split at h<;>simp_all
 |far j n q=>simp only [hl] at h;split at h<;>simp_all
theorem z9m {Λ:L} {m b k n:Nat} (h:(Λ.zy m).lab b= .arr k n):Λ.lab b= .arr k n/\k<m:=by
 simp only [L.zy] at h
 cases hl:Λ.lab b with
 |fix fr=>simp [hl] at h
 |obj j=>simp only [hl] at h;split at h<;>simp_all
 |arr j n=>simp only [hl] at h;split at h<;>simp_all
 |fob j n=>simp only [hl] at h;split at h<;>simp_all
 |far j n q=>simp only [hl] at h;split at h<;>simp_all
theorem zI.hf {Λ:L} {m:Nat} {v:Value} {x:T} (h:zI Λ.lab Λ.w v x):zI (Λ.zy m).lab (Λ.zy m).w v x:=h.ZX fun _ _ _ _ hr=>⟨zhj.2 hr,rfl⟩
theorem zr.hf {Λ:L} {m:Nat} {v:Value} {x:V} (h:zr Λ v x) (hb:x.bd m=true):zr (Λ.zy m) v x:=by
 induction h with
 |t h=>exact .t h.hf
 |zC=>exact .zC
 |@own v k sz xs h hsz hl hn ho=>
  have hk:k<m:=by simpa [V.bd] using hb
  have hf:(Λ.zy m).fro k=Λ.fro k:=by simp [L.zy,hk]
  refine .own h.hf hsz hk (by rw [hf];exact hn) fun he=>?_
  rcases ho (by rw [←hf];exact he) with ho|⟨b,cap,arr,e,hv,hb',hh,hc,hn'⟩
  ·exact .inl ho
  ·exact .inr ⟨b,cap,arr,e,hv,zds hb' hk,hh,hc,hn'⟩
 |@slc b k off len cap sz hl hc h=>
  have hk:k<m:=by simpa [V.bd] using hb
  exact .slc hk hc (qc h hk)
 |agg hs _ ih=>exact .agg hs fun j v c h1 h2=>ih j v c h1 h2 (V.Zj (by simpa [V.bd] using hb) j c h2)
 |tup hs _ ih=>exact .tup hs fun j v c h1 h2=>ih j v c h1 h2 (V.Zj (by simpa [V.bd] using hb) j c h2)
 |@ptr b k off hl h=>
  have hk:k<m:=by simpa [V.bd] using hb
  exact .ptr hk (qc h hk)
 |@mp b k hl h=>
  have hk:k<m:=by simpa [V.bd] using hb
  exact .mp hk (qc h hk)
 |fn hs h=>
  refine .fn hs fun j v c h1 h2=>?_;obtain ⟨b,e1,e2,e3⟩:=h j v c h1 h2
  have hk:c.1<m:=by
   simp only [V.bd,w0i,w0j] at hb;exact hb c (zMG h2)
  exact ⟨b,e1,qc e2 hk,hk⟩
 |gd _ h' ih=>exact .gd (fun hc=>ih hc (by simpa [V.bd] using hb)) h'
 |top=>exact .top
 |ub h h'=>exact .ub h h'
 |@fpt b k i off hl h=>
  have hk:k<m:=by simpa [V.bd] using hb
  exact .fpt hk (z29 h hk)
 |@gpt v k ver off hv hl hn h=>
  have hk:k<m:=by simpa [V.bd] using hb
  have hf:(Λ.zy m).frf k 0=Λ.frf k 0:=by simp [L.zy,hk]
  refine .gpt hv hk (by rw [hf];exact hn) fun he=>?_;obtain ⟨b,e1,i,e2,e3⟩:=h (by rw [←hf];exact he);exact ⟨b,e1,i,z29 e2 hk,fun b' i' h'=>e3 b' i' (yE h').1⟩
 |@gsl v k ver off len sz hv hl hn h=>
  have hk:k<m:=by simpa [V.bd] using hb
  have hf:(Λ.zy m).frf k 0=Λ.frf k 0:=by simp [L.zy,hk]
  refine .gsl hv hk (by rw [hf];exact hn) fun he=>?_
  rcases h (by rw [←hf];exact he) with h|⟨b,cap,N,hv,hc,⟨i,e2,e3⟩,hN,he'⟩
  ·exact .inl h
  ·exact .inr ⟨b,cap,N,hv,hc,⟨i,z29 e2 hk,fun b' i' h'=>e3 b' i' (yE h').1⟩,hN,he'⟩
 |@fow v k i sz xs h hsz hl hn ho=>
  have hk:k<m:=by simpa [V.bd] using hb
  have hf:(Λ.zy m).frf k i=Λ.frf k i:=by simp [L.zy,hk]
  refine .fow h.hf hsz hk (by rw [hf];exact hn) fun he=>?_
  rcases ho (by rw [←hf];exact he) with ho|⟨b,cap,arr,e,hv,hb',hh,hc,hn'⟩
  ·exact .inl ho
  ·exact .inr ⟨b,cap,arr,e,hv,zct hb' hk,hh,hc,hn'⟩
theorem zT.hf {Λ:L} {m:Nat} {sto:List (Nat×zd)} (h:zT Λ ⟨sto,Λ.nxt⟩) (hs:Z1 m sto=true):zT (Λ.zy m) ⟨sto,m⟩:=by
 refine ⟨fun k o hk=>?_,fun b b' k h1 h2=>h.inj b b' k (z0N h1).1 (z0N h2).1,fun b hb=>?_,fun b k hb=>?_,fun k hk=>?_,fun b b' k i h1 h2=>h.YX b b' k i (yE h1).1 (yE h2).1,fun b k hb=>?_,fun k i hk=>?_⟩
 ·obtain ⟨h1,h2⟩:=Wu hs k o hk;refine ⟨h1,?_⟩;have hr:=(h.sto k o hk).2
  cases o with
  |cells cs=>
   obtain ⟨b,arr,e,e1,e2,e3,e4⟩:=hr;exact ⟨b,arr,e,qc e1 h1,e2,e3,fun j v c a1 a2=>(e4 j v c a1 a2).hf (V.Zj (by simpa [zd.bd] using h2) j c a2)⟩
  |map kag es sx=>
   obtain ⟨b,ents,clock,e1,e2,e3⟩:=hr;exact ⟨b,ents,clock,qc e1 h1,e2,e3.ZX (fun _ _ h=>h.hf) (fun i kv v hi hv=>hv.hf (V.Zj (by simpa [zd.bd] using h2) i kv.2 (by simp [hi])))⟩
  |arr n=>unfold qd at*;simp [L.zy,h1,hr]
  |iter q s seen c=>
   have hq:q<m:=by simpa [zd.bd] using h2
   obtain ⟨b,bm,e1,e2,e3,e4⟩:=hr;exact ⟨b,bm,qc e1 h1,e2,qc e3 hq,hq⟩
  |gro r cs=>
   obtain ⟨h0,hr⟩:=hr
   refine ⟨by simp [L.zy,h1,h0],?_⟩
   rcases hr with ⟨e1,e2⟩|⟨b,arr,e,⟨i,e1,e1'⟩,e2,e3,e4⟩
   ·exact .inl ⟨e1,fun b i hb=>e2 b i (yE hb).1⟩
   ·exact .inr ⟨b,arr,e,⟨i,z29 e1 h1,fun b' i' h'=>e1' b' i' (yE h').1⟩,e2,e3,fun j v c a1 a2=>(e4 j v c a1 a2).hf (V.Zj (by simpa [zd.bd] using h2) j c a2)⟩
  |yL os=>
   obtain ⟨h0,hr⟩:=hr;refine ⟨fun b i hbi=>h0 b i (yE hbi).1,fun i cs hi=>?_⟩;obtain ⟨b,arr,e,e1,e2,e3,e4⟩:=hr i cs hi
   have hbs:V.bds m cs=true:=by
    have:=h2;simp only [zd.bd,w0i] at this;exact this cs (zMG hi)
   exact ⟨b,arr,e,z29 e1 h1,e2,e3,fun j v c a1 a2=>(e4 j v c a1 a2).hf (V.Zj hbs j c a2)⟩
  |y8 ns=>intro i;have:=hr i;simpa [L.zy,h1] using this
  |WN kag I=>
   obtain ⟨b,ents,clock,e1,e2,e3,e4,e5⟩:=hr;refine ⟨b,ents,clock,qc e1 h1,e2,e3,e4,fun i e hi=>?_⟩;obtain ⟨cs,v,g1,g2,g3⟩:=e5 i e hi;exact ⟨cs,v,g1.ZX fun _ _ h=>h.hf,g2.hf,g3⟩
 ·simp only [L.zy,h.new b hb]
 ·rcases hb with hb|⟨n,hb⟩
  ·exact (z0N hb).2
  ·exact (z9m hb).2
 ·have hk':m<=k:=hk;simp [L.zy];omega
 ·rcases hb with ⟨i,hb⟩|⟨i,n,hb⟩
  ·exact (yE hb).2
  ·exact (z8Z hb).2
 ·have hk':m<=k:=hk;simp [L.zy];omega
end
section
variable {P:Program} {n m:Nat} {st:St} {Q:YZ->St->Prop}
theorem Sat.ite {z:Ar} {a b:zL} {t:Bool} (hz:z.v st= .t (.bool t)) (h1:t=true->Sat P n m a st Q) (h2:t=false->Sat P n m b st Q):Sat P n m (.cond z a b) st Q:=by
 refine Sat.cond hz ?_
 cases t with
 |true=>exact h1 rfl
 |false=>exact h2 rfl
theorem zdW {f:FuncId} {vs:List V} {x:V} {base:Nat} {sto:List (Nat×zd)} {K:Out->Prop} (h:z6 P f vs ⟨[],0⟩ {v:=x}) (hb:V.bds 0 vs=true) (hx:x.bd 0=true) (hk:K {v:=x}):z0d P f vs base sto K:=
 ⟨{v:=x},by simp only [w0h,w0x];exact fun s=>h.pure hb hx,hk⟩
theorem zbn {f:FuncId} {vs:List V} {x:V} {base:Nat} {sto:List (Nat×zd)} {K:Out->Prop} (h:z6 P f vs ⟨[],0⟩ {v:=x}) (hb:V.bds 0 vs=true) (hx:x.bd 0=true) (hk:K {v:=x}):qe P f vs base sto K:=
 ⟨{v:=x},by simp only [w0h,w0x];exact fun s=>h.pure hb hx,hk⟩
theorem z8U {gc:Bool} {op:AOp} {base:Nat} {K:Out->Prop} (h1:gc=true->evX P base st K op) (h2:gc=false->K {v:= .gd false .top,rd:=Z2 st op}):zd7 P gc base st K op:= .inr ⟨fun hg=> .inl (h1 hg),h2⟩
theorem z3.go {rs:List Qh} {x:V} (h:match z2F st rs with|some r=>LeR 0 st.s r x|none=>False):z3 ⟨[],0⟩ {v:=x} rs .ret st:=by
 cases hr:z2F st rs with
 |none=>rw [hr] at h;exact h.elim
 |some r=>rw [hr] at h;exact ⟨r,hr,Nat.zero_le _,h,.le trivial⟩
theorem LeR.t {m:Nat} {s:S} {x y:T} (h:x=y):LeR m s (.t x) (.t y):= .le (.tEq h)
theorem LeR.own {m:Nat} {s:S} {k sz:Nat} {xs ys:List (List T)} (h:xs=ys):LeR m s (.own k sz xs) (.t (.lst ys)):= .le (h▸ .yR)
theorem LeR.nil {m:Nat} {s:S} {ys:List (List T)} (h:[]=ys):LeR m s .zC (.t (.lst ys)):= .le (h▸ .yS)
theorem LeR.Ys {m:Nat} {s:S} {a b c d:V} (h1:LeR m s a c) (h2:LeR m s b d):LeR m s (.tup [a,b]) (.tup [c,d]):= .tup (.cons h1 (.cons h2 .nil))
end
theorem wrap64 {x:Int} (h1:-9223372036854775808<=x) (h2:x<=9223372036854775807):IntKind.i64.wrap x=x:=by rw [IntKind.wrap_i64];omega
theorem y9 {α:Type} {l:List α} {i:Nat} {x:α} {r:List α} (h:l.drop i=x::r):l[i]?=some x/\l.drop (i+1)=r/\i<l.length:=by
 have h1:l[i]?=some x:=by
  have:=w0z (xs:=l) (i:=i) (j:=0);rw [h] at this;simpa using this.symm
 refine ⟨h1,?_,(w02.1 h1).1⟩;rw [←List.drop_drop,h];rfl
theorem zcI {α:Type} {l:List α} {i:Nat} (h:l.drop i=[]):l.length<=i:=List.drop_eq_nil_iff.1 h
end Go.GB
