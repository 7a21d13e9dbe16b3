/-
  YtablikngmojchaaGreatP5: lemmas. No conditions.
-/
import Derived.Test.YtablikngmojchaaGreatP2
import Derived.Carry
import Derived.Handed
import Derived.ChangeSame
import Derived.ProofKit
import Derived.OpenShut
import Derived.Test.YtablikngmojchaaGreatP4
import Derived.JoinedCond
import Derived.Deep.CondSized
import Derived.Test.YtablikngmojchaaGreatP3
set_option linter.all false
set_option maxRecDepth 100000
set_option maxHeartbeats 16000000
namespace Go.GB
open Go.RowKit Go.WideShapes Go.ChangeShapes
abbrev z5l:Nat->Lab:=fun _=> .fix none
def WT (P:Program):Nat->TypeId->List T->Prop
 |0,_,_=>False
 |n+1,t,ts=>
  match P.underlying t with
  |some .bool=>∃b,ts=[.bool b]
  |some (.int k)=>∃x,ts=[.int k x]/\(Lit.int k x).wf=true
  |some .string=>∃s,ts=[.str s]/\s.length<=reachBytes
  |some (.slice e)=>∃xs,ts=[.lst xs]/\xs.length*P.bytesOf e<=reachBytes/\xs.length<=maxLen/\∀c∈xs,WT P n e c
  |some (.struct fs)=>ts.length=P.cellsOf t/\∀f∈fs.toList,WT P n f.type ((ts.drop f.offset).take (P.cellsOf f.type))
  |some (.array m e)=>ts.length=P.cellsOf t/\∀i,i<m->WT P n e ((ts.drop (i*P.cellsOf e)).take (P.cellsOf e))
  |_=>False
def z1o (P:Program):Nat->List (Nat×TypeId)->Option Nat
 |off,[]=>some off
 |off,(o,t)::r=>if o=off then z1o P (off+P.cellsOf t) r else none
def z2T (P:Program) (S:List TypeId):Bool:=
 S.all fun t=>
  match P.underlying t with
  |some .bool=>true
  |some (.int _)=>true
  |some .string=>true
  |some (.slice e)=>S.contains e&&decide (0<P.cellsOf e)
  |some (.struct fs)=>(fs.toList.all fun f=>S.contains f.type)&&(z1o P 0 (fs.toList.map fun f=>(f.offset,f.type))==some (P.cellsOf t))
  |some (.array m e)=>S.contains e&&(z1o P 0 ((List.range m).map fun i=>(i*P.cellsOf e,e))==some (P.cellsOf t))
  |_=>false
def z3P (w:World) (cs:List Value) (ts:List T):Prop:=cs.length=ts.length/\∀(j:Nat) (v:Value) (x:T),cs[j]?=some v->ts[j]?=some x->zH z5l w v x
theorem z3P.one {w:World} {v:Value} {x:T} (h:zH z5l w v x):z3P w [v] [x]:=by
 refine ⟨rfl,fun j u y h1 h2=>?_⟩
 cases j with
 |zero=>simp at h1 h2;subst h1;subst h2;exact h
 |succ j=>simp at h1
theorem z0V {α β:Type} {g:α->Option β}:∀{l:List α} {r:List β},l.mapM g=some r->l.length=r.length/\∀(j:Nat) (x:α),l[j]?=some x->∃y,r[j]?=some y/\g x=some y
 |[],r,h=>by simp at h;subst h;simp
 |a::l,r,h=>by
  simp only [List.mapM_cons,w04,Option.pure_def,w01] at h;obtain ⟨y,hy,r',hr,h⟩:=h;simp at h;subst h;obtain ⟨i1,i2⟩:=z0V hr
  refine ⟨by simp [i1],fun j x hx=>?_⟩
  cases j with
  |zero=>simp at hx;subst hx;exact ⟨y,rfl,hy⟩
  |succ j=>simpa using i2 j x (by simpa using hx)
theorem zal {w:World} {a:Addr} {v:Value} (h:w.cell? a=some v):a.spot=none:=by
 unfold World.cell? at h
 cases hs:a.spot with
 |none=>rfl
 |some s=>
  rw [hs] at h
  split at h<;>simp_all
theorem cells?_at {w:World} {base n:Nat} {a:Addr} {cs:List Value} (h:w.cells? base a n=some cs):cs.length=n/\∀(j:Nat) (v:Value),cs[j]?=some v->w.cell? (a.add j)=some v:=by
 unfold World.cells? at h;split at h
 ·obtain ⟨h1,h2⟩:=z0V h;simp at h1;refine ⟨h1.symm,fun j v hj=>?_⟩
  have hlt:j<n:=by rw [h1];exact (w02.1 hj).1
  obtain ⟨y,e1,e2⟩:=h2 j j (by simp [hlt]);rw [hj] at e1;simp at e1;subst e1;exact e2
 ·cases h
theorem z1F {α:Type} {Q:Nat->α->Prop}:∀(n:Nat),(∀j,j<n->∃v,Q j v)->∃vs:List α,vs.length=n/\∀(j:Nat) (v:α),vs[j]?=some v->Q j v
 |0,_=>⟨[],rfl,by simp⟩
 |n+1,h=>by
  obtain ⟨vs,hl,hv⟩:=z1F n (fun j hj=>h j (by omega));obtain ⟨v,hq⟩:=h n (by omega)
  refine ⟨vs++[v],by simp [hl],fun j u hu=>?_⟩
  by_cases hj:j<vs.length
  ·rw [w0a hj] at hu;exact hv j u hu
  ·rw [w0b (by omega)] at hu;by_cases e:j=n
   ·subst e;rw [hl] at hu;simp at hu;subst hu;exact hq
   ·rw [w19 (by simp;omega)] at hu;cases hu
theorem pieces {P:Program} {w:World} {n:Nat} {cs:List Value}:∀(l:List (Nat×TypeId)) (off tot:Nat),z1o P off l=some tot->tot<=cs.length->(∀p∈l,∃ts,z3P w ((cs.drop p.1).take (P.cellsOf p.2)) ts/\WT P n p.2 ts)->
  off<=tot/\∃ts:List T,ts.length=tot - off/\(∀(j:Nat) (v:Value) (x:T),cs[off+j]?=some v->ts[j]?=some x->zH z5l w v x)/\∀p∈l,off<=p.1/\WT P n p.2 ((ts.drop (p.1 - off)).take (P.cellsOf p.2))
 |[],off,tot,hc,_,_=>by simp [z1o] at hc;subst hc;exact ⟨w09 _,[],by simp,by simp,by simp⟩
 |(o,t)::r,off,tot,hc,hl,hp=>by
  simp only [z1o] at hc;split at hc
  ·rename_i e;subst e;obtain ⟨h1,ts,h2,h3,h4⟩:=pieces r (o+P.cellsOf t) tot hc hl (fun p hp'=>hp p (w0k _ hp'));obtain ⟨us,k1,k2⟩:=hp (o,t) (by simp)
   have hul:us.length=P.cellsOf t:=by rw [←k1.1];simp;omega
   refine ⟨by omega,us++ts,by simp [hul,h2];omega,fun j v x hv hx=>?_,fun p hpm=>?_⟩
   ·by_cases hj:j<us.length
    ·rw [w0a hj] at hx;refine k1.2 j v x ?_ hx;simp only;rw [w0p,w0e (by omega),w0z];exact hv
    ·rw [w0b (by omega)] at hx;refine h3 (j - us.length) v x ?_ hx
     have:o+P.cellsOf t+(j - us.length)=o+j:=by omega
     rw [this];exact hv
   ·rcases w0t.1 hpm with e|e
    ·subst e;refine ⟨w09 _,?_⟩;simp only [Nat.sub_self,List.drop_zero];rw [List.take_append_of_le_length (by omega),w1l (by omega)];exact k2
    ·obtain ⟨g1,g2⟩:=h4 p e
     refine ⟨by omega,?_⟩
     have:p.1 - o=us.length+(p.1 - (o+P.cellsOf t)):=by omega
     rw [this,List.drop_append,w1m (by omega)];simpa using g2
  ·cases hc
section
variable {H:Type} {enc:TypeId×Value->H} {P:Program} {w:World} {sp:Nat->Bool} {held:Bool} {S:List TypeId}
theorem WE {e:TypeId} {r:Nat->Bool}:∀(l:List (DataW H)),(DataW.weightsAll P e l).all r=true->∀d∈l,(d.weights P e).all r=true
 |[],_,d,h=>by cases h
 |x::l,h,d,hd=>by
  simp only [DataW.weightsAll,List.all_append,w07] at h
  cases hd with
  |head=>exact h.1
  |tail _ hd=>exact WE l h.2 d hd
theorem Qu {r:Nat->Bool}:∀(ts:List TypeId) (l:List (DataW H)),(DataW.weightsEach P ts l).all r=true->∀(j:Nat) t d,ts[j]?=some t->l[j]?=some d->(d.weights P t).all r=true
 |[],l,_,j,t,d,h,_=>by simp at h
 |t::ts,[],_,j,t',d,_,h=>by simp at h
 |t::ts,x::l,h,j,t',d,h1,h2=>by
  simp only [DataW.weightsEach,List.all_append,w07] at h
  cases j with
  |zero=>simp at h1 h2;subst h1;subst h2;exact h.1
  |succ j=>exact Qu ts l h.2 j t' d (by simpa using h1) (by simpa using h2)
theorem z14 (hp:z2T P S=true):∀(n:Nat) (t:TypeId) (cs:List Value) (d:DataW H) (ps:List MemPlace),t∈S->DataW.trod enc P w 0 sp held n t cs=some (d,ps)->(d.weights P t).all (· <=reachBytes)=true->∃ts,z3P w cs ts/\WT P n t ts
 |0,t,cs,d,ps,_,h,_=>by simp [DataW.trod] at h
 |n+1,t,cs,d,ps,ht,h,hwt=>by
  have hpt:=w0i.1 hp t ht;simp only [WT]
  cases hu:P.underlying t with
  |none=>rw [hu] at hpt;simp at hpt
  |some td=>
   rw [hu] at hpt
   cases td with
   |bool=>
    rcases cs with _|⟨v,_|⟨v2,r⟩⟩<;>try (simp [DataW.trod,hu] at h;done)
    cases v<;>simp [DataW.trod,hu] at h
    rename_i b;exact ⟨[.bool b],z3P.one (.bool b),b,rfl⟩
   |int k=>
    rcases cs with _|⟨v,_|⟨v2,r⟩⟩<;>try (simp [DataW.trod,hu] at h;done)
    cases v<;>simp [DataW.trod,hu] at h
    rename_i k' x;obtain ⟨⟨rfl,h2⟩,_⟩:=h;exact ⟨[.int k' x],z3P.one (.int _ _),x,rfl,h2⟩
   |string=>
    rcases cs with _|⟨v,_|⟨v2,r⟩⟩<;>try (simp [DataW.trod,hu] at h;done)
    cases v<;>simp [DataW.trod,hu] at h
    rename_i s;rw [←h.2.1] at hwt
    exact ⟨[.str s.data.toList],z3P.one (.str _),s.data.toList,rfl,by simpa [DataW.weights] using hwt⟩
   |slice e=>
    simp only [w07,w0j] at hpt
    have he:e∈S:=by simpa using hpt.1
    rcases cs with _|⟨v,_|⟨v2,r⟩⟩<;>try (simp [DataW.trod,hu] at h;done)
    cases v<;>try (simp [DataW.trod,hu] at h;done)
    rename_i a len cap
    cases a with
    |none=>
     have h0:len=0/\cap=0:=by
      cases len<;>cases cap<;>simp_all [DataW.trod]
     obtain ⟨rfl,rfl⟩:=h0
     exact ⟨[.lst []],z3P.one .nil,[],rfl,by simp,by simp,by simp⟩
    |some a=>
     simp only [DataW.trod,hu] at h;split at h
     ·rename_i hcond;simp only [w01] at h;obtain ⟨elems,hel,hrest⟩:=h;obtain ⟨hl,hat⟩:=z0V hel;simp at hl;rw [w06] at hrest;obtain ⟨rest,_,hde⟩:=hrest;simp only [w05] at hde;rw [←hde.1] at hwt;simp only [DataW.weights,hu,List.all_cons,List.all_append,w07,w0j,w0r] at hwt
      have hreach:len*P.bytesOf e<=reachBytes:=by
       rw [hl];exact w0o (w0s _ (Nat.le_add_right _ _)) hwt.1
      have hone:∀i,i<len->∃q:List Value×List T,w.cells? 0 (a.add (i*P.cellsOf e)) (P.cellsOf e)=some q.1/\z3P w q.1 q.2/\WT P n e q.2:=by
       intro i hi;obtain ⟨y,hye,hy⟩:=hat i i (by simp [hi]);simp only [w01] at hy;obtain ⟨c,hc,hy⟩:=hy;obtain ⟨d',ps'⟩:=y;obtain ⟨ts,k1,k2⟩:=z14 hp n e c d' ps' he hy (WE _ hwt.2.1 _ (w0m.2 ⟨(d',ps'),zMG hye,rfl⟩));exact ⟨(c,ts),hc,k1,k2⟩
      obtain ⟨qs,hql,hq⟩:=z1F len hone
      have hsz:∀(i:Nat) (q:List Value×List T),qs[i]?=some q->q.1.length=P.cellsOf e/\q.2.length=P.cellsOf e:=by
       intro i q hi;obtain ⟨h1,h2,_⟩:=hq i q hi;have:=(cells?_at h1).1
       exact ⟨this,by rw [←h2.1];exact this⟩
      have hspot:0<len->a.spot=none:=by
       intro h0
       have hq0:qs[0]?=some (qs[0]'(by omega)):=by simp
       obtain ⟨h1,_,_⟩:=hq 0 _ hq0;obtain ⟨e1,e2⟩:=cells?_at h1
       have hlt:0<(qs[0]'(by omega)).1.length:=by rw [(hsz 0 _ hq0).1];exact hpt.2
       have:=zal (e2 0 _ (w0f hlt));simpa [Addr.add] using this
      have hadd:∀m,0<len->a.add m=⟨a.block,a.off+m,none⟩:=by
       intro m h0;have hs:=hspot h0;obtain ⟨b,o,s⟩:=a;simp at hs;subst hs;exact ZZ b o m
      refine ⟨[.lst (qs.map (·.2))],z3P.one ?_,qs.map (·.2),rfl,by simpa [hql] using hreach,by simp [hql];omega,fun c hc=>?_⟩
      ·have hlen:len=(qs.map (·.2)).length:=by simp [hql]
       rw [hlen];refine .lst (some a) cap (P.cellsOf e) (qs.map (·.2)) a.block a.off (fun i j=>((qs.map (·.1)).getD i []).getD j undef) (by rw [←hlen];exact hcond.2.1) ?_ ?_ ?_ ?_ ?_
       ·intro i c hc;rw [w0c,w06] at hc;obtain ⟨q,h1,rfl⟩:=hc;exact (hsz i q h1).2
       ·intro i j c x hc hx
        have h0:0<len:=by have:=(w02.1 hc).1;simp [hql] at this;omega
        have hs:=hspot h0;obtain ⟨b,o,s⟩:=a;simp at hs;subst hs;rfl
       ·intro i j c x hc hx;trivial
       ·intro i j c x hc hx;rw [w0c,w06] at hc;obtain ⟨q,h1,rfl⟩:=hc
        have h0:0<len:=by have:=(w02.1 h1).1;omega
        obtain ⟨g1,g2,_⟩:=hq i q h1;obtain ⟨e1,e2⟩:=cells?_at g1
        have hj:j<q.1.length:=by rw [g2.1];exact (w02.1 hx).1
        have:=e2 j _ (w0f hj);rw [hadd _ h0] at this;rw [ZZ] at this;rw [this];simp [h1,hj]
       ·intro i j c x hc hx;rw [w0c,w06] at hc;obtain ⟨q,h1,rfl⟩:=hc;obtain ⟨g1,g2,_⟩:=hq i q h1
        have hj:j<q.1.length:=by rw [g2.1];exact (w02.1 hx).1
        have:=g2.2 j _ x (w0f hj) hx;simpa [h1,hj] using this
      ·rw [w0m] at hc;obtain ⟨q,h1,rfl⟩:=hc;obtain ⟨i,hi⟩:=w0v.1 h1;exact (hq i q hi).2.2
     ·cases h
   |struct fs=>
    simp only [w07,w0i,beq_iff_eq] at hpt
    have hh:cs.length=P.cellsOf t/\∃xs,(fs.toList.mapM fun f=>DataW.trod enc P w 0 sp held n f.type ((cs.drop f.offset).take (P.cellsOf f.type)))=some xs/\d= .agg (xs.map (·.1)):=by
     have h':=h;simp only [DataW.trod,hu] at h';split at h'
     ·rename_i hc;simp only [w06] at h';obtain ⟨xs,hxs,hd⟩:=h'
      exact ⟨hc,xs,hxs,by simp only [w05] at hd;exact hd.1.symm⟩
     ·cases h'
    obtain ⟨hlen,xs,hxs,rfl⟩:=hh;obtain ⟨hl,hat⟩:=z0V hxs;simp only [DataW.weights,hu] at hwt
    obtain ⟨_,ts,g1,g2,g3⟩:=pieces (n:=n) (w:=w) (cs:=cs) _ 0 _ hpt.2 (by omega) (fun p hpm=>by
     rw [w0m] at hpm;obtain ⟨f,hf,rfl⟩:=hpm;obtain ⟨j,hj⟩:=w0v.1 hf;obtain ⟨y,hye,hy⟩:=hat j f hj;obtain ⟨d',ps'⟩:=y
     exact z14 hp n f.type _ d' ps' (by simpa using hpt.1 f hf) hy (Qu _ _ hwt j f.type d' (by simp [hj]) (by simp [hye])))
    refine ⟨ts,⟨by omega,fun j v x hv hx=>g2 j v x (by simpa using hv) hx⟩,by omega,fun f hf=>?_⟩
    have:=(g3 (f.offset,f.type) (w0m.2 ⟨f,hf,rfl⟩)).2;simpa using this
   |array m e=>
    simp only [w07,beq_iff_eq] at hpt
    have hh:cs.length=P.cellsOf t/\∃xs,((List.range m).mapM fun i=>DataW.trod enc P w 0 sp held n e ((cs.drop (i*P.cellsOf e)).take (P.cellsOf e)))=some xs/\d= .agg (xs.map (·.1)):=by
     have h':=h;simp only [DataW.trod,hu] at h';split at h'
     ·rename_i hc;simp only [w06] at h';obtain ⟨xs,hxs,hd⟩:=h'
      exact ⟨hc,xs,hxs,by simp only [w05] at hd;exact hd.1.symm⟩
     ·cases h'
    obtain ⟨hlen,xs,hxs,rfl⟩:=hh;obtain ⟨hl,hat⟩:=z0V hxs;simp only [DataW.weights,hu] at hwt
    obtain ⟨_,ts,g1,g2,g3⟩:=pieces (n:=n) (w:=w) (cs:=cs) _ 0 _ hpt.2 (by omega) (fun p hpm=>by
     rw [w0m] at hpm;obtain ⟨i,hi,rfl⟩:=hpm;obtain ⟨y,hye,hy⟩:=hat i i (by simp [w20.1 hi]);obtain ⟨d',ps'⟩:=y
     exact z14 hp n e _ d' ps' (by simpa using hpt.1) hy (WE _ hwt _ (w0m.2 ⟨(d',ps'),zMG hye,rfl⟩)))
    refine ⟨ts,⟨by omega,fun j v x hv hx=>g2 j v x (by simpa using hv) hx⟩,by omega,fun i hi=>?_⟩
    have:=(g3 (i*P.cellsOf e,e) (w0m.2 ⟨i,w20.2 hi,rfl⟩)).2;simpa using this
   |_=>simp at hpt
def z4V (P:Program) (t:TypeId) (ts:List T):V:=if Z3 P t then .agg (ts.map V.t) else .t (ts.headD .z2e)
def L.all (w:World):L:={lab:=z5l,fro:=fun _=>0,nxt:=0,w:=w,frf:=fun _ _=>0}
theorem zV.all (w:World):zV (L.all w) ⟨[],0⟩:=⟨by simp [zj],fun b b' k h=>by simp [L.all] at h,fun _ _=>rfl,fun b k h=>by simp [L.all] at h,fun _ _=>rfl,fun b b' k i h=>by simp [L.all] at h,fun b k h=>by simp [L.all] at h,fun _ _ _=>rfl⟩
theorem zd6 (hp:z2T P S=true) {base:Nat} {t:TypeId} {v:Value} {d:DataW H} {ps:List MemPlace} (ht:t∈S) (hok:Value.okWide P w .any base t v) (h:DataW.Trod enc P w 0 sp held t v d ps) (hwt:(d.weights P t).all (· <=reachBytes)=true):
  ∃n ts,WT P n t ts/\zr (L.all w) v (z4V P t ts):=by
 obtain ⟨n,hn⟩:=h;obtain ⟨ts,h1,h2⟩:=z14 hp n t _ d ps ht hn hwt;refine ⟨n,ts,h2,?_⟩;have hpt:=w0i.1 hp t ht;unfold z4V;by_cases hag:Z3 P t=true
 ·simp only [hag,w17]
  have:∃cs,v= .agg cs:=by
   unfold Z3 at hag;unfold Value.okWide at hok
   cases hu:P.underlying t with
   |none=>rw [hu] at hag;simp at hag
   |some td=>rw [hu] at hag hok;cases td<;>simp at hag<;>exact ⟨_,hok.choose_spec.1⟩
  obtain ⟨cs,rfl⟩:=this;refine .agg (by simpa [Value.cells] using h1.1) fun j u c hj hc=>?_;rw [w0c,w06] at hc;obtain ⟨x,hx,rfl⟩:=hc;exact .t (h1.2 j u x (by simpa [Value.cells] using hj) hx)
 ·simp only [hag,w0x,w0h]
  have hcells:v.cells=#[v]:=by
   unfold Z3 at hag;unfold Value.okWide at hok
   cases hu:P.underlying t with
   |none=>rw [hu] at hpt;simp at hpt
   |some td=>
    rw [hu] at hag hok hpt
    cases td<;>simp at hag hpt<;>simp only [Cell.okWide,Cell.ok,hu] at hok<;>cases v<;>first |rfl|(exact hok.elim)
  have hcl:ts.length=1:=by rw [←h1.1,hcells];rfl
  obtain ⟨x,rfl⟩:∃x,ts=[x]:=by
   match ts,hcl with
   |[x],_=>exact ⟨x,rfl⟩
  exact .t (h1.2 0 v x (by rw [hcells];rfl) Z)
inductive WTs (P:Program):List TypeId->List V->Prop
 |nil:WTs P [] []
 |cons {t:TypeId} {ts:List TypeId} {n:Nat} {xs:List T} {vs:List V} (h:WT P n t xs) (r:WTs P ts vs):WTs P (t::ts) (z4V P t xs::vs)
theorem z6f (hp:z2T P S=true) {base:Nat}:∀(ts:List TypeId) (args:List Value) (ds:List (DataW H)) (ps:List MemPlace),(∀t∈ts,t∈S)->(∀(j:Nat) t v,ts[j]?=some t->args[j]?=some v->Value.okWide P w .any base t v)->
  DataW.TrodAll enc P w 0 sp held ts args ds ps->(DataW.weightsEach P ts ds).all (· <=reachBytes)=true->∃vs,WTs P ts vs/\args.length=vs.length/\∀(j:Nat) (v:Value) (x:V),args[j]?=some v->vs[j]?=some x->zr (L.all w) v x
 |[],[],[],ps,_,_,_,_=>⟨[],.nil,rfl,by simp⟩
 |t::ts,v::args,d::ds,ps,hS,hok,⟨p,q,h1,h2,_⟩,hwt=>by
  simp only [DataW.weightsEach,List.all_append,w07] at hwt;obtain ⟨vs,k1,k2,k3⟩:=z6f hp ts args ds q (fun t ht=>hS t (w0k _ ht)) (fun j t v a b=>hok (j+1) t v (by simpa using a) (by simpa using b)) h2 hwt.2;obtain ⟨n,xs,g1,g2⟩:=zd6 hp (hS t (by simp)) (hok 0 t v rfl rfl) h1 hwt.1
  refine ⟨z4V P t xs::vs,.cons g1 k1,by simp [k2],fun j u x hu hx=>?_⟩
  cases j with
  |zero=>simp at hu hx;subst hu;subst hx;exact g2
  |succ j=>exact k3 j u x (by simpa using hu) (by simpa using hx)
 |[],_::_,_,_,_,_,h,_=>by simp [DataW.TrodAll] at h
 |[],[],_::_,_,_,_,h,_=>by simp [DataW.TrodAll] at h
 |_::_,[],_,_,_,_,h,_=>by simp [DataW.TrodAll] at h
 |_::_,_::_,[],_,_,_,h,_=>by simp [DataW.TrodAll] at h
theorem z03 (hl:laidOutB P=true) {W W':World} (hb:Below W.heap.size W W') {sp':Nat->Bool}:∀(ts:List TypeId) (vs:List Value) (ds:List (DataW H)) (ps:List MemPlace),(∀t∈ts,P.readableRec t=true/\t<P.types.size)->DataW.TrodAll enc P W 0 (fun _=>true) true ts vs ds ps->
  (∀p∈ps,p.block<W.heap.size)->(∀p∈ps,sp' p.block=true)->DataW.TrodAll enc P W' 0 sp' true ts vs ds ps
 |[],[],[],_,_,h,_,_=>h
 |t::ts,v::vs,d::ds,_,hT,⟨p,q,h1,h2,e⟩,hlt,hs=>by
  subst e;refine ⟨p,q,WideElems.Trod_stays hl (hT t (by simp)).1 (hT t (by simp)).2 h1 (fun x hx=>hb.same (hlt x (List.mem_append_left _ hx))) (fun x hx=>hs x (List.mem_append_left _ hx)),?_,rfl⟩;exact z03 hl hb ts vs ds q (fun t ht=>hT t (w0k _ ht)) h2 (fun x hx=>hlt x (List.mem_append_right _ hx)) (fun x hx=>hs x (List.mem_append_right _ hx))
 |[],_::_,_,_,_,h,_,_=>by simp [DataW.TrodAll] at h
 |[],[],_::_,_,_,h,_,_=>by simp [DataW.TrodAll] at h
 |_::_,[],_,_,_,h,_,_=>by simp [DataW.TrodAll] at h
 |_::_,_::_,[],_,_,h,_,_=>by simp [DataW.TrodAll] at h
end
section
variable {H:Type} {enc:TypeId×Value->H} {P:Program}
theorem z3G {f:Func} {s:ChangeSpec} {apart fresh handsOn again:Bool} {W W':World} {args:Array Value} {v:Value} {ds gs:List (DataW H)} {before pa pv:List MemPlace}
  (hW:DataW.Whole enc P f.params.toList s.vars apart W args.toList ds gs before)
  (hres:∀(b:Nat) (sp:Nat->Bool) (hd:Bool),DataW.TrodAll enc P W' b sp hd f.resultTypes.toList (v.resultList f.resultTypes.size) (s.fn H (ds++gs)).results [])
  (hargs:∀sp:Nat->Bool,(∀p∈before,sp p.block=true)->DataW.TrodAll enc P W' 0 sp true f.params.toList args.toList (s.fn H (ds++gs)).args pa)
  (hvars:∀sp:Nat->Bool,(∀p∈before,sp p.block=true)->DataW.TrodVars enc P W' sp s.vars (s.fn H (ds++gs)).vars pv)
  (hps:before=pa++pv) (hb:Below W.heap.size W W')
  (hok:∀(j:Nat) (t:TypeId) (r:Value),f.resultTypes[j]?=some t->(v.resultList f.resultTypes.size)[j]?=some r->Value.okWide P W' .any 0 t r):
  s.post enc P f apart fresh handsOn again W args v W':=by
 have hlt:∀p∈before,p.block<W.heap.size:=fun p hp=>hW.lt p hp
 have hold:∀p∈before,(fun b=>decide (b<W.heap.size)) p.block=true:=fun p hp=>by simpa using hlt p hp
 refine ⟨ds,gs,before,[],pa,pv,hW,hres _ _ _,hargs _ hold,hvars _ hold,World.keptBut_mono (fun p hp=>⟨hp,?_⟩) (hb.frame (· ∈before)),fun _=>?_⟩
 ·rw [hps,w14] at hp;exact Or.inr hp
 ·obtain ⟨_,_,_,_,_,hz,hn⟩:=hW;refine ⟨hok,_,_,([]++pa)++pv,⟨[]++pa,pv,trodAll_append (hargs _ (fun _ _=>rfl)) (hres _ _ _),hvars _ (fun _ _=>rfl),rfl,?_,?_⟩,?_⟩
  ·intro b off hp
   have hin:MemPlace.cell b off∈before:=by rw [hps];simpa using hp
   rw [hb.frozen (hlt _ hin)];exact hz b off hin
  ·intro ha;have:=hn ha;rw [hps] at this;simpa using this
  ·intro p hp _;rw [hps];simpa using hp
theorem z5e {S:List TypeId} {f:FuncId} {fn:Func} {s:ChangeSpec} {tb:TypeId} {apart fresh handsOn again:Bool} (hp:z2T P S=true) (hl:laidOutB P=true) (hT:∀t∈fn.params.toList,t∈S/\P.readableRec t=true/\t<P.types.size)
  (hrt:fn.resultTypes=#[tb]) (hb:P.underlying tb=some .bool) (hv:s.vars=[]) (hs:∀ds:List (DataW H),ds.length=fn.params.size->s.fn H ds={results:=[.lit (.bool true)],args:=ds})
  (W:World) (base:Nat) (args:Array Value) (ds gs:List (DataW H)) (before:List MemPlace)
  (hval:∀(j:Nat) t v,fn.params[j]?=some t->args[j]?=some v->Value.okWide P W .any base t v)
  (hW:DataW.Whole enc P fn.params.toList s.vars apart W args.toList ds gs before)
  (hwt:(DataW.weightsEach P (fn.params.toList++s.plain.varTypes P) (ds++gs)).all (· <=reachBytes)=true)
  (hok:∀vs,WTs P fn.params.toList vs->z5 P f vs ⟨[],0⟩ {v:= .t (.bool true)}):
  Calls P f args W fun e W'=>∃v,e= .returned v/\s.post enc P fn apart fresh handsOn again W args v W':=by
 have hW':=hW;obtain ⟨p,q,hA,hV,rfl,hfz,hnd⟩:=hW;rw [hv] at hV;obtain ⟨rfl,rfl⟩:=trodVars_none hV
 have hdl:ds.length=fn.params.size:=by
  have:∀(ts:List TypeId) (vs:List Value) (ds:List (DataW H)) (ps:List MemPlace),DataW.TrodAll enc P W 0 (fun _=>true) true ts vs ds ps->ds.length=ts.length:=by
   intro ts
   induction ts with
   |nil=>intro vs ds ps h;cases vs<;>cases ds<;>simp_all [DataW.TrodAll]
   |cons t ts ih=>
    intro vs ds ps h
    cases vs with
    |nil=>simp [DataW.TrodAll] at h
    |cons v vs=>
     cases ds with
     |nil=>simp [DataW.TrodAll] at h
     |cons d ds=>obtain ⟨p,q,_,h2,_⟩:=h;simp [ih vs ds q h2]
  simpa using this _ _ _ _ hA
 have hwt':(DataW.weightsEach P fn.params.toList ds).all (· <=reachBytes)=true:=by
  have happ:∀(ts us:List TypeId) (ds es:List (DataW H)),ts.length=ds.length->DataW.weightsEach P (ts++us) (ds++es)=DataW.weightsEach P ts ds++DataW.weightsEach P us es:=by
   intro ts
   induction ts with
   |nil=>intro us ds es h;cases ds with
    |nil=>simp [DataW.weightsEach]
    |cons d ds=>simp at h
   |cons t ts ih=>intro us ds es h;cases ds with
    |nil=>simp at h
    |cons d ds=>simp only [w1y,DataW.weightsEach,w1g];rw [ih us ds es (by simpa using h)]
  rw [happ _ _ _ _ (by simpa using hdl.symm),List.all_append,w07] at hwt;exact hwt.1
 obtain ⟨vs,k1,k2,k3⟩:=z6f hp _ _ _ _ (fun t ht=>(hT t ht).1) (fun j t v a b=>hval j t v (by simpa using a) (by simpa using b)) hA hwt';refine ((hok vs k1).2 (L.all W) args (zV.all W) Z (by simpa using k2) (fun j v x a b=>k3 j v x (by simpa using a) b)).mono fun e W' he=>?_;obtain ⟨v,Λ',rfl,rfl,g1,g2,g3,g4⟩:=he;have hvt:=g4.ZC.Ya;subst hvt;have hbel:Below W.heap.size W Λ'.w:=⟨g1.fr.os,g1.fr.tape,g1.fr.output,g1.fr.size,fun b hb=>(g1.fr.fix b hb none rfl).2⟩;have hsf:=hs (ds++[]) (by simpa using hdl);refine ⟨_,rfl,z3G (pa:=p) (pv:=[]) (by simpa using hW') ?_ ?_ ?_ (by simp) hbel ?_⟩
 ·intro b sp hd;rw [hsf,hrt]
  exact ⟨[],[],⟨1,by simp [DataW.trod,hb,Value.cells]⟩,rfl,rfl⟩
 ·intro sp hsp;rw [hsf];have hlt:∀x∈p,x.block<W.heap.size:=fun x hx=>hW'.lt x (by simpa using hx);simpa using z03 hl hbel _ _ _ _ (fun t ht=>(hT t ht).2) hA hlt (fun x hx=>hsp x (by simpa using hx))
 ·intro sp hsp;rw [hsf,hv];rfl
 ·intro j t r hj hr;rw [hrt] at hj
  cases j with
  |zero=>
   simp at hj;subst hj;simp [hrt,Value.resultList] at hr;subst hr;simp [Value.okWide,Cell.okWide,Cell.ok,hb]
  |succ j=>simp at hj
end
inductive Sh where
 |bool
 |int (k:IntKind)
 |str
 |lst (b:Nat) (s:List Sh)
 |any
 |num (i:Nat)
def z1h (P:Program) (g:TypeId->Option (List Sh)):Nat->List (Nat×TypeId)->Option (List Sh)
 |_,[]=>some []
 |off,(o,t)::r=>
  if o=off then
   match g t with
   |some a=>if a.length=P.cellsOf t then (z1h P g (off+P.cellsOf t) r).map fun b=>a++b else none
   |none=>none
  else none
def z2W (P:Program) (sp:TypeId->Option Nat):Nat->TypeId->Option (List Sh)
 |0,t=>
  match P.underlying t with
  |some .bool=>some [.bool]
  |some (.int k)=>some [.int k]
  |some .string=>some [.str]
  |some (.slice e)=>match sp e with|some i=>some [.num i]|none=>some [.any]
  |_=>none
 |n+1,t=>
  match P.underlying t with
  |some .bool=>some [.bool]
  |some (.int k)=>some [.int k]
  |some .string=>some [.str]
  |some (.slice e)=>match sp e with|some i=>some [.num i]|none=>(z2W P sp n e).map fun s=>[.lst (P.bytesOf e) s]
  |some (.struct fs)=>(z1h P (z2W P sp n) 0 (fs.toList.map fun f=>(f.offset,f.type))).bind fun s=>if s.length=P.cellsOf t then some s else none
  |some (.array m e)=>(z1h P (z2W P sp n) 0 ((List.range m).map fun i=>(i*P.cellsOf e,e))).bind fun s=>if s.length=P.cellsOf t then some s else none
  |_=>none
mutual
def Sh.ok (Y:Nat->T->Prop):Sh->T->Prop
 | .bool,x=>∃b,x= .bool b
 | .int k,x=>∃n,x= .int k n/\(Lit.int k n).wf=true
 | .str,x=>∃s,x= .str s/\s.length<=reachBytes
 | .lst b sh,x=>∃xs:List (List T),x= .lst xs/\xs.length*b<=reachBytes/\xs.length<=maxLen/\∀c∈xs,Sh.oks Y sh c
 | .any,_=>True
 | .num i,x=>Y i x
def Sh.oks (Y:Nat->T->Prop):List Sh->List T->Prop
 |[],[]=>True
 |s::r,x::ts=>s.ok Y x/\Sh.oks Y r ts
 |_,_=>False
end
theorem Sh.z3s {Y:Nat->T->Prop}:∀{a b:List Sh} {ts us:List T},Sh.oks Y a ts->Sh.oks Y b us->Sh.oks Y (a++b) (ts++us)
 |[],b,[],us,_,h=>h
 |[],b,x::ts,us,h,_=>by simp [Sh.oks] at h
 |s::r,b,[],us,h,_=>by simp [Sh.oks] at h
 |s::r,b,x::ts,us,h,k=>by
  simp only [Sh.oks,w1y] at h⊢;exact ⟨h.1,Sh.z3s h.2 k⟩
theorem z1c {P:Program} {Y:Nat->T->Prop} {g:TypeId->Option (List Sh)} {n:Nat} (hg:∀t sh ts,g t=some sh->WT P n t ts->Sh.oks Y sh ts):∀(l:List (Nat×TypeId)) (off:Nat) (sh:List Sh) (ts:List T),z1h P g off l=some sh->(∀p∈l,WT P n p.2 ((ts.drop p.1).take (P.cellsOf p.2)))->
  ∃us,Sh.oks Y sh us/\us=(ts.drop off).take sh.length
 |[],off,sh,ts,h,_=>by simp [z1h] at h;subst h;exact ⟨[],trivial,by simp⟩
 |(o,t)::r,off,sh,ts,h,hp=>by
  simp only [z1h] at h;split at h
  ·rename_i e;subst e;split at h
   ·rename_i a ha;split at h
    ·rename_i hl;simp only [w06] at h;obtain ⟨b,hb,rfl⟩:=h;have h1:=hg t a _ ha (hp (o,t) (by simp));obtain ⟨us,h2,h3⟩:=z1c hg r _ b ts hb fun p hpm=>hp p (w0k _ hpm);refine ⟨_,Sh.z3s h1 h2,?_⟩;simp only at h1⊢;rw [h3,w03,hl,List.take_add,List.drop_drop]
    ·cases h
   ·cases h
  ·cases h
theorem z0y {P:Program} {sp:TypeId->Option Nat} {Y:Nat->T->Prop}:∀(n m:Nat) (t:TypeId) (sh:List Sh) (ts:List T),(∀e i k xs,k<n->sp e=some i->xs.length*P.bytesOf e<=reachBytes->xs.length<=maxLen->(∀c∈xs,WT P k e c)->Y i (.lst xs))->z2W P sp m t=some sh->WT P n t ts->Sh.oks Y sh ts
 |0,m,t,sh,ts,_,_,h=>by simp [WT] at h
 |n+1,0,t,sh,ts,hsp,hs,h=>by
  simp only [z2W] at hs;simp only [WT] at h
  cases hu:P.underlying t with
  |none=>rw [hu] at h;exact h.elim
  |some td=>
   rw [hu] at h hs
   cases td with
   |bool=>simp only [w00] at hs h;subst hs;obtain ⟨b,rfl⟩:=h;exact ⟨⟨b,rfl⟩,trivial⟩
   |int k=>simp at hs h;subst hs;obtain ⟨x,rfl,hw⟩:=h;exact ⟨⟨x,rfl,hw⟩,trivial⟩
   |string=>simp at hs h;subst hs;obtain ⟨s,rfl,hw⟩:=h;exact ⟨⟨s,rfl,hw⟩,trivial⟩
   |slice e=>
    obtain ⟨xs,rfl,hr,hl,hc⟩:=h
    cases he:sp e with
    |none=>simp only [he,w00] at hs;subst hs;exact ⟨trivial,trivial⟩
    |some i=>simp only [he,w00] at hs;subst hs;exact ⟨hsp e i n xs (by omega) he hr hl hc,trivial⟩
   |_=>simp at hs
 |n+1,m+1,t,sh,ts,hsp,hs,h=>by
  have hsp':∀e i k xs,k<n->sp e=some i->xs.length*P.bytesOf e<=reachBytes->xs.length<=maxLen->(∀c∈xs,WT P k e c)->Y i (.lst xs):=fun e i k xs hk=>hsp e i k xs (by omega);simp only [z2W] at hs;simp only [WT] at h
  cases hu:P.underlying t with
  |none=>rw [hu] at h;exact h.elim
  |some td=>
   rw [hu] at h hs
   cases td with
   |bool=>simp only [w00] at hs h;subst hs;obtain ⟨b,rfl⟩:=h;exact ⟨⟨b,rfl⟩,trivial⟩
   |int k=>simp at hs h;subst hs;obtain ⟨x,rfl,hw⟩:=h;exact ⟨⟨x,rfl,hw⟩,trivial⟩
   |string=>simp at hs h;subst hs;obtain ⟨s,rfl,hw⟩:=h;exact ⟨⟨s,rfl,hw⟩,trivial⟩
   |slice e=>
    obtain ⟨xs,rfl,hr,hl,hc⟩:=h
    cases hse:sp e with
    |none=>
     simp only [hse,w06] at hs;obtain ⟨s,he,rfl⟩:=hs;exact ⟨⟨xs,rfl,hr,hl,fun c hcm=>z0y n m e s c hsp' he (hc c hcm)⟩,trivial⟩
    |some i=>simp only [hse,w00] at hs;subst hs;exact ⟨hsp e i n xs (by omega) hse hr hl hc,trivial⟩
   |struct fs=>
    simp only [w01] at hs h;obtain ⟨s,hs,hs2⟩:=hs;split at hs2
    ·rename_i hl;simp at hs2;subst hs2
     obtain ⟨us,h1,h2⟩:=z1c (ts:=ts) (Y:=Y) (g:=z2W P sp m) (n:=n) (fun t sh ts a b=>z0y n m t sh ts hsp' a b) _ 0 s hs (fun p hp=>by
      rw [w0m] at hp;obtain ⟨f,hf,rfl⟩:=hp
      exact h.2 f hf)
     rw [List.drop_zero,w1l (by omega)] at h2;subst h2;exact h1
    ·cases hs2
   |array k e=>
    simp only [w01] at hs h;obtain ⟨s,hs,hs2⟩:=hs;split at hs2
    ·rename_i hl;simp at hs2;subst hs2
     obtain ⟨us,h1,h2⟩:=z1c (ts:=ts) (Y:=Y) (g:=z2W P sp m) (n:=n) (fun t sh ts a b=>z0y n m t sh ts hsp' a b) _ 0 s hs (fun p hp=>by
      rw [w0m] at hp;obtain ⟨i,hi,rfl⟩:=hp
      exact h.2 i (w20.1 hi))
     rw [List.drop_zero,w1l (by omega)] at h2;subst h2;exact h1
    ·cases hs2
   |_=>simp at h
theorem Sh.zI {Y:Nat->T->Prop} {s:Sh} {r:List Sh} {ts:List T} (h:Sh.oks Y (s::r) ts):∃x ts',ts=x::ts'/\s.ok Y x/\Sh.oks Y r ts':=by
 cases ts with
 |nil=>simp [Sh.oks] at h
 |cons x ts=>exact ⟨x,ts,rfl,h⟩
theorem Sh.YK {Y:Nat->T->Prop} {ts:List T} (h:Sh.oks Y [] ts):ts=[]:=by
 cases ts with
 |nil=>rfl
 |cons x ts=>simp [Sh.oks] at h
theorem wg {α:Type} {f:α->List T} {Q:α->Prop}:∀(xs:List (List T)),(∀c∈xs,∃a,c=f a/\Q a)->∃l:List α,xs=l.map f/\∀a∈l,Q a
 |[],_=>⟨[],rfl,by simp⟩
 |c::xs,h=>by
  obtain ⟨l,h1,h2⟩:=wg xs (fun c hc=>h c (w0k _ hc));obtain ⟨a,rfl,ha⟩:=h c (by simp)
  exact ⟨a::l,by simp [h1],fun b hb=>by
   rcases w0t.1 hb with e|e
   ·subst e;exact ha
   ·exact h2 b e⟩
theorem WTs.cons_inv {P:Program} {t:TypeId} {ts:List TypeId} {vs:List V} (h:WTs P (t::ts) vs) {m:Nat} {sh:List Sh} {sp:TypeId->Option Nat} {Y:Nat->T->Prop} (hsp:∀e i n xs,sp e=some i->xs.length*P.bytesOf e<=reachBytes->xs.length<=maxLen->(∀c∈xs,WT P n e c)->Y i (.lst xs)) (hs:z2W P sp m t=some sh):∃xs r,vs=z4V P t xs::r/\Sh.oks Y sh xs/\WTs P ts r:=by
 cases h with
 |cons h r=>exact ⟨_,_,rfl,z0y _ _ _ _ _ (fun e i k xs _=>hsp e i k xs) hs h,r⟩
theorem WTs.zfw {P:Program} {vs:List V} (h:WTs P [] vs):vs=[]:=by
 cases h;rfl
theorem zeQ {P:Program} {t:TypeId} (h:Z3 P t=true) (xs:List T):z4V P t xs= .agg (xs.map V.t):=by simp [z4V,h]
theorem zfq {P:Program} {t:TypeId} (h:Z3 P t=false) (x:T):z4V P t [x]= .t x:=by simp [z4V,h]
theorem zfA {H:Type} {enc:TypeId×Value->H} {P:Program} (S:List TypeId) {f:FuncId} {fn:Func} {s:ChangeSpec} {tb:TypeId} {apart fresh handsOn again:Bool} (hp:z2T P S=true) (hl:laidOutB P=true)
  (hT:(fn.params.toList.all fun t=>S.contains t&&P.readableRec t&&decide (t<P.types.size))=true)
  (hrt:fn.resultTypes=#[tb]) (hb:P.underlying tb=some .bool) (hv:s.vars=[]) (hs:∀ds:List (DataW H),ds.length=fn.params.size->s.fn H ds={results:=[.lit (.bool true)],args:=ds})
  (W:World) (base:Nat) (args:Array Value) (ds gs:List (DataW H)) (before:List MemPlace)
  (hval:∀(j:Nat) t v,fn.params[j]?=some t->args[j]?=some v->Value.okWide P W .any base t v)
  (hW:DataW.Whole enc P fn.params.toList s.vars apart W args.toList ds gs before)
  (hwt:(DataW.weightsEach P (fn.params.toList++s.plain.varTypes P) (ds++gs)).all (· <=reachBytes)=true)
  (hok:∀vs,WTs P fn.params.toList vs->z5 P f vs ⟨[],0⟩ {v:= .t (.bool true)}):
  Calls P f args W fun e W'=>∃v,e= .returned v/\s.post enc P fn apart fresh handsOn again W args v W':=by
 refine z5e (S:=S) hp hl (fun t ht=>?_) hrt hb hv hs W base args ds gs before hval hW hwt hok;rw [w0i] at hT;have:=hT t ht;simp only [w07,w0j,List.contains_iff_mem] at this;exact ⟨this.1.1,this.1.2,this.2⟩
theorem zfH {α:Type} {l:List α} (h:l.length=1):∃a,l=[a]:=by
 match l,h with
 |[a],_=>exact ⟨a,rfl⟩
theorem zfI {α:Type} {l:List α} (h:l.length=2):∃a b,l=[a,b]:=by
 match l,h with
 |[a,b],_=>exact ⟨a,b,rfl⟩
end Go.GB
namespace Go.GB
open Go.RowKit
def z36:List Sh:=[.int .i64,.int .i64,.str,.num 0,.lst 16 [.str]]
def zdv:List Sh:= .str::z36
def z4Q:List Sh:=[.str,.lst 96 zdv]
def zbg:List Sh:=[.str,.lst 8 [.int .i64]]
def z2h:List Sh:=[.str]++zbg++[.bool]++z36++[.lst 40 z4Q]
def z8D:List Sh:=[.str,.lst 168 z2h]++zbg++[.lst 40 z4Q]
def z5Y:List Sh:=[.str,.lst 40 z4Q]
def zbl:List Sh:=[.int .i64,.str,.lst 16 [.str],.lst 40 z4Q,.lst 104 z8D,.lst 40 z5Y,.lst 168 z2h]
def zfg:List Sh:=[.lst 144 zbl]
def YA:Nat->T->Prop
 |0,x=>∃l:List Val,x= .lst (l.map Val.enc)/\l.length*80<=B47/\∀v∈l,v.Ok
 |_,x=>∃l:List Y9,x= .lst (l.map Y9.enc)/\l.length*160<=B47/\∀p∈l,p.Ok/\p.on.length<=maxLen
theorem yj:reachBytes<=140737488355328:=by decide
theorem z8x {Y:Nat->T->Prop} {x:T} {b:Nat} (h:(Sh.lst b [.str]).ok Y x):∃l:List Str,x= .lst (l.map sE)/\l.length*b<=reachBytes/\∀s∈l,s.length<=reachBytes:=by
 obtain ⟨xs,rfl,h1,_,h2⟩:=h
 obtain ⟨l,rfl,h3⟩:=wg (f:=sE) (Q:=fun s=>s.length<=reachBytes) xs fun c hc=>by
  obtain ⟨x,r,rfl,⟨s,rfl,hs⟩,h⟩:=Sh.zI (h2 c hc);obtain rfl:=Sh.YK h;exact ⟨s,rfl,hs⟩
 exact ⟨l,rfl,by simpa using h1,h3⟩
theorem zcw {Y:Nat->T->Prop} {x:T} {b:Nat} (h:(Sh.lst b [.int .i64]).ok Y x):∃l:List Int,x= .lst (l.map nE)/\l.length*b<=reachBytes:=by
 obtain ⟨xs,rfl,h1,_,h2⟩:=h
 obtain ⟨l,rfl,h3⟩:=wg (f:=nE) (Q:=fun _=>True) xs fun c hc=>by
  obtain ⟨x,r,rfl,⟨s,rfl,hs⟩,h⟩:=Sh.zI (h2 c hc);obtain rfl:=Sh.YK h;exact ⟨s,rfl,trivial⟩
 exact ⟨l,rfl,by simpa using h1⟩
theorem qM {α:Type} {f:α->List T} {Q:α->Prop} {Y:Nat->T->Prop} {x:T} {b:Nat} {sh:List Sh} (hf:∀c,Sh.oks Y sh c->∃a,c=f a/\Q a) (h:(Sh.lst b sh).ok Y x):∃l:List α,x= .lst (l.map f)/\l.length*b<=reachBytes/\l.length<=maxLen/\∀a∈l,Q a:=by
 obtain ⟨xs,rfl,h1,h0,h2⟩:=h;obtain ⟨l,rfl,h3⟩:=wg (f:=f) (Q:=Q) xs fun c hc=>hf c (h2 c hc)
 exact ⟨l,rfl,by simpa using h1,by simpa using h0,h3⟩
theorem z77 {r:List Sh} {c:List T} (h:Sh.oks YA (z36++r) c):∃(v:Val) (c':List T),c=v.cs++c'/\v.Ok/\Sh.oks YA r c':=by
 obtain ⟨x1,c,rfl,⟨k,rfl,_⟩,g1⟩:=Sh.zI h;obtain ⟨x2,c,rfl,⟨i,rfl,_⟩,g2⟩:=Sh.zI g1;obtain ⟨x3,c,rfl,⟨t,rfl,ht⟩,g3⟩:=Sh.zI g2;obtain ⟨x4,c,rfl,⟨its,rfl,hi1,hi2⟩,g4⟩:=Sh.zI g3;obtain ⟨x5,c,rfl,hk,g5⟩:=Sh.zI g4;obtain ⟨ks,rfl,hk1,hk2⟩:=z8x hk;have:=yj
 refine ⟨.mk k i t its ks,c,rfl,.mk hi1 (by unfold B47;omega) hi2 (by omega) (fun x hx=>by have:=hk2 x hx;omega),g5⟩
theorem zd4 {c:List T} (h:Sh.oks YA z36 c):∃v:Val,c=v.enc/\v.Ok:=by
 obtain ⟨v,c',rfl,h1,h2⟩:=z77 (r:=[]) (by simpa using h);obtain rfl:=Sh.YK h2
 exact ⟨v,by rw [Val.w4,w1j],h1⟩
theorem zec {c:List T} (h:Sh.oks YA zdv c):∃a:Arg,c=a.enc/\a.Ok:=by
 obtain ⟨x,c,rfl,⟨n,rfl,_⟩,g1⟩:=Sh.zI h;obtain ⟨v,c',rfl,h1,h2⟩:=z77 (r:=[]) (by simpa using g1);obtain rfl:=Sh.YK h2
 exact ⟨⟨n,v⟩,by simp [Arg.enc,Val.cs],h1⟩
theorem zdZ {c:List T} (h:Sh.oks YA z4Q c):∃a:Dir,c=a.enc/\a.Ok:=by
 have:=yj;obtain ⟨x,c,rfl,⟨n,rfl,hn⟩,g1⟩:=Sh.zI h;obtain ⟨x,c,rfl,hx,g2⟩:=Sh.zI g1;obtain rfl:=Sh.YK g2;obtain ⟨l,rfl,h1,_,h2⟩:=qM (fun c hc=>zec hc) hx
 exact ⟨⟨n,l⟩,rfl,⟨by show l.length<=_;omega,h2,by show n.length<=_;omega⟩⟩
theorem z2j {b:Nat} (hb:0<b) {x:T} (h:(Sh.lst b z4Q).ok YA x):∃l:List Dir,x= .lst (l.map Dir.enc)/\l.length<=140737488355328/\∀d∈l,d.Ok:=by
 have:=yj;obtain ⟨l,rfl,h1,_,h2⟩:=qM (fun c hc=>zdZ hc) h;refine ⟨l,rfl,?_,h2⟩;have:l.length<=l.length*b:=Nat.le_mul_of_pos_right _ hb;omega
theorem zbz {r:List Sh} {c:List T} (h:Sh.oks YA (zbg++r) c):∃(v:Ref) (c':List T),c= .str v.name:: .lst (v.z8.map nE)::c'/\v.Ok/\Sh.oks YA r c':=by
 have:=yj;obtain ⟨x1,c,rfl,⟨n,rfl,hn⟩,g1⟩:=Sh.zI h;obtain ⟨x5,c,rfl,hk,g2⟩:=Sh.zI g1;obtain ⟨ks,rfl,hk1⟩:=zcw hk
 exact ⟨⟨n,ks⟩,c,rfl,⟨by show ks.length*8<=_;omega,by show n.length<=_;omega⟩,g2⟩
theorem zbZ {c:List T} (h:Sh.oks YA z2h c):∃a:Input,c=a.enc/\a.Ok:=by
 have:=yj;obtain ⟨x,c,rfl,⟨n,rfl,hn⟩,g1⟩:=Sh.zI h;obtain ⟨t,c,rfl,ht,g2⟩:=zbz g1;obtain ⟨x,c,rfl,⟨b,rfl⟩,g3⟩:=Sh.zI g2;obtain ⟨v,c,rfl,hv,g4⟩:=z77 g3;obtain ⟨x,c,rfl,hx,g5⟩:=Sh.zI g4;obtain rfl:=Sh.YK g5;obtain ⟨l,rfl,h1,h2⟩:=z2j (by decide) hx
 exact ⟨⟨n,t,b,v,l⟩,by simp [Input.enc,Val.cs],⟨ht,hv,h1,h2,by show n.length<=_;omega⟩⟩
theorem z4l {x:T} (h:(Sh.lst 168 z2h).ok YA x):∃l:List Input,x= .lst (l.map Input.enc)/\l.length<=140737488355328/\∀d∈l,d.Ok:=by
 have:=yj;obtain ⟨l,rfl,h1,_,h2⟩:=qM (fun c hc=>zbZ hc) h
 exact ⟨l,rfl,by omega,h2⟩
theorem zc8 {c:List T} (h:Sh.oks YA z8D c):∃a:Field,c=a.enc/\a.Ok:=by
 have:=yj;obtain ⟨x,c,rfl,⟨n,rfl,hn⟩,g1⟩:=Sh.zI h;obtain ⟨x,c,rfl,hx,g2⟩:=Sh.zI g1;obtain ⟨ins,rfl,i1,i2⟩:=z4l hx;obtain ⟨t,c,rfl,ht,g3⟩:=zbz g2;obtain ⟨x,c,rfl,hx,g4⟩:=Sh.zI g3;obtain rfl:=Sh.YK g4;obtain ⟨l,rfl,h1,h2⟩:=z2j (by decide) hx
 exact ⟨⟨n,ins,t,l⟩,rfl,⟨i1,i2,ht,h1,h2,by show n.length<=_;omega⟩⟩
theorem zaf {c:List T} (h:Sh.oks YA z5Y c):∃a:zh,c=a.enc/\a.Ok:=by
 have:=yj;obtain ⟨x,c,rfl,⟨n,rfl,hn⟩,g1⟩:=Sh.zI h;obtain ⟨x,c,rfl,hx,g2⟩:=Sh.zI g1;obtain rfl:=Sh.YK g2;obtain ⟨l,rfl,h1,h2⟩:=z2j (by decide) hx
 exact ⟨⟨n,l⟩,rfl,⟨h1,h2,by show n.length<=_;omega⟩⟩
theorem zea {c:List T} (h:Sh.oks YA zbl c):∃a:Def,c=a.enc/\a.Ok:=by
 have:=yj;obtain ⟨x,c,rfl,⟨k,rfl,_⟩,g1⟩:=Sh.zI h;obtain ⟨x,c,rfl,⟨n,rfl,hn⟩,g2⟩:=Sh.zI g1;obtain ⟨x,c,rfl,hx,g3⟩:=Sh.zI g2;obtain ⟨im,rfl,a1,a2⟩:=z8x hx;obtain ⟨x,c,rfl,hx,g4⟩:=Sh.zI g3;obtain ⟨ds,rfl,b1,b2⟩:=z2j (by decide) hx;obtain ⟨x,c,rfl,hx,g5⟩:=Sh.zI g4;obtain ⟨fs,rfl,c1,_,c2⟩:=qM (fun c hc=>zc8 hc) hx;obtain ⟨x,c,rfl,hx,g6⟩:=Sh.zI g5;obtain ⟨ms,rfl,d1,_,d2⟩:=qM (fun c hc=>zaf hc) hx;obtain ⟨x,c,rfl,hx,g7⟩:=Sh.zI g6;obtain ⟨is,rfl,e1,e2⟩:=z4l hx;obtain rfl:=Sh.YK g7
 exact ⟨⟨k,n,im,ds,fs,ms,is⟩,rfl,⟨by show im.length<=_;omega,b1,b2,by show fs.length<=_;omega,c2,by show ms.length<=_;omega,d2,e1,e2,by show n.length<=_;omega,fun y hy=>by have:=a2 y hy;omega⟩⟩
theorem zeK {r:List Sh} {c:List T} (h:Sh.oks YA (zfg++r) c):∃(l:List Def) (c':List T),c= .lst (l.map Def.enc)::c'/\Z2 l/\Sh.oks YA r c':=by
 have:=yj;obtain ⟨x,c,rfl,hx,g1⟩:=Sh.zI h;obtain ⟨l,rfl,h1,_,h2⟩:=qM (fun c hc=>zea hc) hx
 exact ⟨l,c,rfl,⟨by omega,h2,by omega⟩,g1⟩
def spV (vt:TypeId) (e:TypeId):Option Nat:=if e=vt then some 0 else none
theorem zdQ {P:Program} {vt:TypeId} (hb:P.bytesOf vt=80) (hs:z2W P (spV vt) 6 vt=some z36):∀(n:Nat) (c:List T),WT P n vt c->∃v:Val,c=v.enc/\v.Ok:=by
 intro n
 induction n using Nat.strongRecOn with
 |_ n ih=>
  intro c h;refine zd4 (z0y (Y:=YA) n 6 vt z36 c (fun e i k xs hk he hr hl hc=>?_) hs h);unfold spV at he;split at he
  ·rename_i e1;subst e1;simp only [w00] at he;subst he;obtain ⟨l,rfl,h3⟩:=wg (f:=Val.enc) (Q:=Val.Ok) xs fun c hcm=>ih k hk c (hc c hcm);have:=yj;rw [hb] at hr
   exact ⟨l,rfl,by unfold B47;simp at hr;omega,h3⟩
  ·cases he
end Go.GB
namespace Go.GB
open Go.RowKit Go.WideShapes Go.ChangeShapes
section
variable {H:Type} {enc:TypeId×Value->H} {P:Program} {w:World} {sp:Nat->Bool} {held:Bool} {S:List TypeId} {B:DataW H->Nat}
end
section
variable {H:Type} {enc:TypeId×Value->H} {P:Program}
end
end Go.GB
namespace Go.GB.C35
open Go.GB
structure Pr (P:Program):Prop where
 mixed:P.follows .mixedOrders=true
 i171:z7 P 171=some (n171,c171.bare,r171)
 i141:z7 P 141=some (n141,c141.bare,r141)
 i140:z7 P 140=some (n140,c140.bare,r140)
 i80:z7 P 80=some (n80,c80.bare,r80)
 i170:z7 P 170=some (n170,c170.bare,r170)
 i169:z7 P 169=some (n169,c169.bare,r169)
 i137:z7 P 137=some (n137,c137.bare,r137)
 i33:z7 P 33=some (n33,c33.bare,r33)
 i181:z7 P 181=some (n181,c181.bare,r181)
 i182:z7 P 182=some (n182,c182.bare,r182)
 i183:z7 P 183=some (n183,c183.bare,r183)
 i178:z7 P 178=some (n178,c178.bare,r178)
 i179:z7 P 179=some (n179,c179.bare,r179)
 i180:z7 P 180=some (n180,c180.bare,r180)
 i185:z7 P 185=some (n185,c185.bare,r185)
 i186:z7 P 186=some (n186,c186.bare,r186)
variable {P:Program}
theorem zcb (H:Pr P) (l:List Str) (hl:l.length*16<=140737488355328):z5 P 33 [.t (.lst (l.map sE))] ⟨[],0⟩ {v:= .t (.lst (l.map sE))}:=by
 refine z5.run H.i33 H.mixed Z Z ?_;refine fR Z ?_;refine p0 Z ?_;refine fM Z ?_;refine Run.z2S Z Z (fun h=>?_) (fun _=>?_)
 ·have hn:l=[]:=by
   cases l with
   |nil=>rfl
   |cons x r=>
    have:=h (sE x) (by simp);simp [sE] at this
  subst hn;refine fR Z ?_;refine Run.fin Z (z3.go ?_);exact .nil Z
 ·refine fR Z ?_;refine apN sE l Z Z Z ?_ (h1:=hl) (h2:=by omega);refine fM rfl ?_;refine Run.fin rfl (z3.go ?_);exact .own rfl
def z4J (P:Program) (v:Val):Prop:=z5 P 80 [v.v] ⟨[],0⟩ {v:=v.v}
theorem z6n (H:Pr P) (l:List Val) (hl:l.length*80<=140737488355328) (hrec:∀x,x∈l->z4J P x):z5 P 137 [.t (.lst (l.map Val.enc))] ⟨[],0⟩ {v:= .t (.lst (l.map Val.enc))}:=by
 refine z5.run H.i137 H.mixed Z Z ?_;refine fR Z ?_;refine lM Z Z Z ?_;refine fM Z ?_;refine zn l (fun i (B:List Val)=>{env:=[(3,.own 0 5 (B.map Val.enc)),(6,.t (.lst (l.map Val.enc))),(7,.t (.int .i64 l.length)),(8,.t (.int .i64 i))],s:=⟨[(0,.arr B.length)],1⟩}) (fun r i B=>B.length=i/\B++r=l) 0 [] Z ⟨rfl,rfl⟩ Z Z Z ?_ ?_
 ·rintro B ⟨hBl,hB⟩
  have e:B=l:=by rw [←hB];simp
  refine fR Z ?_;refine Run.z9 Z Z (by simp) ?_;refine fR Z ?_;refine Run.fin Z (z3.go ?_);exact .own (by rw [e])
 ·rintro i x r B h1 hi hd ⟨hBl,hB⟩ ih;have hBl':B.length=i:=hBl;have hc:=hrec x (zMG h1);unfold z4J at hc;refine fR Z ?_;refine Run.zb Z Z (by simp;omega) ?_;refine fR Z ?_;refine Mid.YI (Val.w4 x) Z Z Z h1 Z Z ?_;refine fM Z ?_;refine Mid.call (hc) Z Z Z Z ?_;refine fM Z ?_;refine apM Val.enc B [x] Z (congrArg (fun c=>some (T.lst [c])) (Val.w4 x).symm) Z Z Z ?_ (hl:=fun x=>(congrArg List.length (Val.w4 x)).trans Z);refine fM Z ?_;refine aL Z Z Z Z Z ?_;refine fM Z ?_;exact zd 1 Z (ih (B++[x]) ⟨by simp;omega,by rw [←hB];simp⟩) rfl rfl rfl
theorem z9h (H:Pr P) (v:Val) (hv:v.Ok) (hrec:∀x,x∈v.items->z4J P x):z4J P v:=by
 have hil:=hv.il;have hkl:=hv.kl;unfold z4J;refine z5.run H.i80 H.mixed Z Z ?_;refine fR Z ?_;refine Mid.call (z6n H v.items hil hrec) Z Z Z Z ?_;refine fM Z ?_;refine Mid.call (zcb H v.keys hkl) Z Z Z Z ?_;refine fM Z ?_;refine Run.fin Z (z3.go ?_);exact .le (.same Z)
theorem z6S (H:Pr P):∀(k:Nat) (v:Val),SizeOf.sizeOf v<=k->v.Ok->z4J P v
 |0,v,h,_=>by cases v;simp at h
 |k+1,v,h,hv=>z9h H v hv fun x hx=>z6S H k x (by have:=Val.yd v hx;omega) (hv.it x hx)
theorem z8p (H:Pr P) (v:Val) (hv:v.Ok):z5 P 80 [v.v] ⟨[],0⟩ {v:=v.v}:=z6S H _ v (w09 _) hv
end Go.GB.C35
namespace Go.GB.C35
open Go.GB
variable {P:Program}
def wy (a b:Int):Int:=if a<b then -1 else if a>b then 1 else 0
def z1x (a b:Str):Int:=if Op.bytesLess a b=true then -1 else if a=b then 0 else 1
theorem wU {a b:Int}:wy a b=0↔a=b:=by
 unfold wy;split
 ·constructor
  ·intro h;omega
  ·intro h;omega
 ·split
  ·constructor
   ·intro h;omega
   ·intro h;omega
  ·constructor
   ·intro _;omega
   ·intro _;rfl
theorem Qa:∀s:List UInt8,Op.bytesLess s s=false
 |[]=>rfl
 |a::r=>by simp [Op.bytesLess,Qa r]
theorem zam {a b:Str}:z1x a b=0↔a=b:=by
 unfold z1x;constructor
 ·intro h;split at h
  ·omega
  ·split at h
   ·assumption
   ·omega
 ·rintro rfl;simp [Qa]
theorem nz {p q:Int}:(if p≠0 then p else q)=0↔p=0/\q=0:=by
 by_cases h:p=0
 ·simp [h]
 ·simp [h]
theorem QD:∀{a b:Str},Go.Lib.compareBytes a b=0↔a=b
 |[],[]=>by simp [Go.Lib.compareBytes]
 |[],y::s=>by simp [Go.Lib.compareBytes]
 |x::r,[]=>by simp [Go.Lib.compareBytes]
 |x::r,y::s=>by
  unfold Go.Lib.compareBytes;by_cases h3:x<y
  ·simp only [h3,w17];constructor
   ·intro h;omega
   ·intro h;cases h;exact absurd h3 (UInt8.lt_irrefl _)
  ·by_cases h4:y<x
   ·simp only [h3,h4,w17,w0x];constructor
    ·intro h;omega
    ·intro h;cases h;exact absurd h4 (UInt8.lt_irrefl _)
   ·have e:x=y:=UInt8.le_antisymm (UInt8.not_lt.1 h4) (UInt8.not_lt.1 h3);subst e;simp only [h3,w0x,QD (a:=r) (b:=s),List.cons.injEq,true_and]
def Yn (l:List Str) (i:Nat):Str:=(l[i]?).getD []
mutual
def QS (c:Str->Str->Int):Val->Val->Int
 | .mk k i t its ks,b=>if wy k b.kind≠0 then wy k b.kind else if wy i b.int≠0 then wy i b.int else if c t b.text≠0 then c t b.text else Y4 c its b.items ks b.keys 0 (wy its.length b.items.length)
def Y4 (c:Str->Str->Int):List Val->List Val->List Str->List Str->Nat->Int->Int
 |[],_,_,_,_,z=>z
 |x::r,l,ka,kb,j,z=>
  match l with
  |[]=>z
  |y::s=>if c (Yn ka j) (Yn kb j)≠0 then c (Yn ka j) (Yn kb j) else if QS c x y≠0 then QS c x y else Y4 c r s ka kb (j+1) z
end
theorem z0P (c:Str->Str->Int) (a b:Val):QS c a b=if wy a.kind b.kind≠0 then wy a.kind b.kind else if wy a.int b.int≠0 then wy a.int b.int else if c a.text b.text≠0 then c a.text b.text else Y4 c a.items b.items a.keys b.keys 0 (wy a.items.length b.items.length):=by
 cases a;rfl
def z4D (a b:Str):Int:=if a=b then 0 else 1
theorem z0k {a b:Str}:z4D a b=0↔a=b:=by unfold z4D;split<;>simp_all
def z1H (a b:Val):Bool:=decide (QS z4D a b=0)
theorem z8L {c d:Str->Str->Int} (hc:∀{a b},c a b=0↔a=b) (hd:∀{a b},d a b=0↔a=b):∀k:Nat,(∀a b:Val,SizeOf.sizeOf a<=k->(QS c a b=0↔QS d a b=0))/\
  ∀(l m:List Val) (ka kb:List Str) (j:Nat) (z:Int),SizeOf.sizeOf l<=k->(Y4 c l m ka kb j z=0↔Y4 d l m ka kb j z=0)
 |0=>⟨fun a b h=>by cases a;simp at h,fun l m ka kb j z h=>by cases l<;>simp at h⟩
 |k+1=>by
  have ih:=z8L (c:=c) (d:=d) hc hd k;have hcd:∀a b,c a b=0↔d a b=0:=fun a b=>hc.trans hd.symm;refine ⟨fun a b h=>?_,fun l m ka kb j z h=>?_⟩
  ·have h2:=ih.2 a.items b.items a.keys b.keys 0 (wy a.items.length b.items.length) (by cases a;simp only [Val.items];simp only [Val.mk.sizeOf_spec] at h;omega);rw [z0P,z0P];simp only [nz,h2,hcd]
  ·cases l with
   |nil=>simp [Y4]
   |cons x r=>
    cases m with
    |nil=>simp [Y4]
    |cons y s=>
     have h1:=ih.1 x y (by simp only [List.cons.sizeOf_spec] at h;omega);have h2:=ih.2 r s ka kb (j+1) z (by simp only [List.cons.sizeOf_spec] at h;omega);simp only [Y4,nz,h1,h2,hcd]
theorem z6p {c:Str->Str->Int} (hc:∀{a b},c a b=0↔a=b) (a b:Val):(QS c a b==0)=z1H a b:=by
 have:=(z8L (c:=c) (d:=z4D) hc z0k _).1 a b (w09 _);rw [w1n];simp [z1H,this]
theorem z5q (H:Pr P) (a b:Int):z5 P 181 [.t (.int .i64 a),.t (.int .i64 b)] ⟨[],0⟩ {v:= .t (.int .i64 (wy a b))}:=by
 refine z5.run H.i181 H.mixed Z Z ?_;refine fR Z ?_;by_cases h1:a<b
 ·refine Run.zb Z Z (by simp [h1]) ?_;refine fR Z ?_;refine Run.fin Z (z3.go ?_);exact .t (by simp [wy,h1])
 ·refine Run.z9 Z Z (by simp;omega) ?_;refine fR Z ?_;by_cases h2:b<a
  ·refine Run.zb Z Z (by simp [h2]) ?_;refine fR Z ?_;refine Run.fin Z (z3.go ?_);exact .t (by simp [wy,h1,h2])
  ·refine Run.z9 Z Z (by simp;omega) ?_;refine fR Z ?_;refine Run.fin Z (z3.go ?_);exact .t (by simp [wy,h1,h2])
theorem qt (H:Pr P) (a b:Str):z5 P 182 [.t (.str a),.t (.str b)] ⟨[],0⟩ {v:= .t (.int .i64 (z1x a b))}:=by
 refine z5.run H.i182 H.mixed Z Z ?_;refine fR Z ?_;by_cases h1:Op.bytesLess a b=true
 ·refine Run.zb Z Z h1 ?_;refine fR Z ?_;refine Run.fin Z (z3.go ?_);exact .t (by simp [z1x,h1])
 ·refine Run.z9 Z Z (by simpa using h1) ?_;refine fR Z ?_;by_cases h2:a=b
  ·refine Run.z9 Z Z (by simp [h1,h2]) ?_;refine fR Z ?_;refine Run.fin Z (z3.go ?_);exact .t (by simp [z1x,h2,Qa])
  ·refine Run.zb Z Z (by simp [h1,h2]) ?_;refine fR Z ?_;refine Run.fin Z (z3.go ?_);exact .t (by simp [z1x,h1,h2])
theorem zc0 (H:Pr P) (v:Val) (hv:v.Ok) (i:Nat) (hi:i<=140737488355328):z5 P 183 [v.v,.t (.int .i64 i)] ⟨[],0⟩ {v:= .t (.str (Yn v.keys i))}:=by
 have hkl:=hv.kl;refine z5.run H.i183 H.mixed Z Z ?_;refine fR Z ?_;refine lM Z Z Z ?_;refine fM Z ?_;refine Run.cond Z Z (fun h=>?_) (fun h=>?_)
 ·have h':i<v.keys.length:=by simpa using h
  have h1:v.keys[i]?=some (v.keys[i]'h'):=by simp
  have hk:Yn v.keys i=v.keys[i]'h':=by simp [Yn,h1]
  generalize v.keys[i]'h'=x at h1 hk;refine fR Z ?_;refine Mid.z6 Z Z Z h1 Z Z ?_;refine fM Z ?_;refine Run.fin Z (z3.go ?_);exact .t (by simp [hk])
 ·have h':¬ i<v.keys.length:=by simpa using h
  have hk:Yn v.keys i=[]:=by simp [Yn,w19 (Nat.le_of_not_lt h')]
  refine fR Z ?_;refine Run.fin Z (z3.go ?_);exact .t (by simp [hk])
theorem z8Y (H:Pr P) (v:Val) (hv:v.Ok) (i:Nat) (hi:i<=140737488355328):z5 P 180 [v.v,.t (.int .i64 i)] ⟨[],0⟩ {v:= .t (.str (Yn v.keys i))}:=by
 have hkl:=hv.kl;refine z5.run H.i180 H.mixed Z Z ?_;refine fR Z ?_;refine lM Z Z Z ?_;refine fM Z ?_;refine Run.cond Z Z (fun h=>?_) (fun h=>?_)
 ·have h':i<v.keys.length:=by simpa using h
  have h1:v.keys[i]?=some (v.keys[i]'h'):=by simp
  have hk:Yn v.keys i=v.keys[i]'h':=by simp [Yn,h1]
  generalize v.keys[i]'h'=x at h1 hk;refine fR Z ?_;refine Mid.z6 Z Z Z h1 Z Z ?_;refine fM Z ?_;refine Run.fin Z (z3.go ?_);exact .t (by simp [hk])
 ·have h':¬ i<v.keys.length:=by simpa using h
  have hk:Yn v.keys i=[]:=by simp [Yn,w19 (Nat.le_of_not_lt h')]
  refine fR Z ?_;refine Run.fin Z (z3.go ?_);exact .t (by simp [hk])
theorem zb9 (H:Pr P) (a:Int):z5 P 185 [.t (.int .i64 a)] ⟨[],0⟩ {v:= .t (.bool false)}:=by
 refine z5.run H.i185 H.mixed Z Z ?_;refine fR Z ?_;refine Run.fin Z (z3.go ?_);exact .t (by simp)
theorem z0c (H:Pr P) (a b:Int):z5 P 178 [.t (.int .i64 a),.t (.int .i64 b)] ⟨[],0⟩ {v:= .t (.int .i64 (wy a b))}:=by
 refine z5.run H.i178 H.mixed Z Z ?_;refine fR Z ?_;refine Mid.call (zb9 H a) Z Z Z Z ?_;refine fM Z ?_;refine Mid.call (zb9 H b) Z Z Z Z ?_;refine fM Z ?_;refine Run.z9 Z Z Z ?_;refine fR Z ?_;refine Run.z9 Z Z Z ?_;refine fR Z ?_;by_cases h1:a<b
 ·refine Run.zb Z Z (by simp [h1]) ?_;refine fR Z ?_;refine Run.fin Z (z3.go ?_);exact .t (by simp [wy,h1])
 ·refine Run.z9 Z Z (by simp;omega) ?_;refine fR Z ?_;by_cases h2:b<a
  ·refine Run.zb Z Z (by simp [h2]) ?_;refine fR Z ?_;refine Run.fin Z (z3.go ?_);exact .t (by simp [wy,h1,h2])
  ·refine Run.z9 Z Z (by simp;omega) ?_;refine fR Z ?_;refine Run.fin Z (z3.go ?_);exact .t (by simp [wy,h1,h2])
theorem z5J (H:Pr P) (a b:Str):z5 P 186 [.t (.str a),.t (.str b)] ⟨[],0⟩ {v:= .t (.int .i64 (Go.Lib.compareBytes a b))}:=by
 refine z5.run H.i186 H.mixed Z Z ?_;refine fR Z ?_;refine p0 Z ?_;refine fM Z ?_;refine Run.fin Z (z3.go ?_);exact .t Z
theorem z25 (H:Pr P) (a b:Str):z5 P 179 [.t (.str a),.t (.str b)] ⟨[],0⟩ {v:= .t (.int .i64 (Go.Lib.compareBytes a b))}:=by
 refine z5.run H.i179 H.mixed Z Z ?_;refine fR Z ?_;refine Mid.call (z5J H a b) Z Z Z Z ?_;refine fM Z ?_;refine Run.fin Z (z3.go ?_);exact .t Z
end Go.GB.C35
namespace Go.GB.C35
open Go.GB
variable {P:Program}
theorem y9 {α:Type} {l:List α} {i:Nat} {x:α} (h:l[i]?=some x):l.drop i=x::l.drop (i+1):=by
 obtain ⟨h1,rfl⟩:=w02.1 h;exact List.drop_eq_getElem_cons h1
theorem z4f {c:Str->Str->Int} {l m:List Val} {ka kb:List Str} {j:Nat} {z:Int} (h:l=[]∨m=[]):Y4 c l m ka kb j z=z:=by
 rcases h with rfl|rfl
 ·simp [Y4]
 ·cases l<;>simp [Y4]
theorem z8I {l m:List Val} {i:Nat} (h:i=(l.zip m).length):l.drop i=[]∨m.drop i=[]:=by
 simp only [List.length_zip] at h;by_cases h2:l.length<=m.length
 ·exact .inl (w1m (by omega))
 ·exact .inr (w1m (by omega))
theorem z62 {c:Str->Str->Int} {l m:List Val} {ka kb:List Str} {i:Nat} {z:Int} {x y:Val} (h1:l[i]?=some x) (h2:m[i]?=some y):Y4 c (l.drop i) (m.drop i) ka kb i z=if c (Yn ka i) (Yn kb i)≠0 then c (Yn ka i) (Yn kb i) else if QS c x y≠0 then QS c x y else Y4 c (l.drop (i+1)) (m.drop (i+1)) ka kb (i+1) z:=by
 rw [y9 h1,y9 h2];simp only [Y4]
def zbS (P:Program) (a:Val):Prop:=∀b:Val,b.Ok->z5 P 170 [a.v,b.v] ⟨[],0⟩ {v:= .t (.int .i64 (QS z1x a b))}
theorem z9P (H:Pr P) (a:Val) (ha:a.Ok) (hrec:∀x,x∈a.items->zbS P x):zbS P a:=by
 intro b hb;have hil:=ha.il;have hil2:=hb.il;have hk:=z5q H a.kind b.kind;have hi:=z5q H a.int b.int;have ht:=qt H a.text b.text;have hz:=z5q H (a.items.length:Nat) (b.items.length:Nat);have hR:=z0P z1x a b;generalize QS z1x a b=R at hR⊢;refine z5.run H.i170 H.mixed Z Z ?_;refine fR Z ?_;by_cases h1:wy a.kind b.kind=0
 ·rw [h1] at hk hR;rw [w0g (by simp)] at hR;refine Mid.call (hk) Z Z Z Z ?_;refine fM Z ?_;refine Run.zb Z Z Z ?_;refine fR Z ?_;by_cases h2:wy a.int b.int=0
  ·rw [h2] at hi hR;rw [w0g (by simp)] at hR;refine Mid.call (hi) Z Z Z Z ?_;refine fM Z ?_;refine Run.zb Z Z Z ?_;refine fR Z ?_;by_cases h3:z1x a.text b.text=0
   ·rw [h3] at ht hR;rw [w0g (by simp)] at hR;generalize wy (a.items.length:Nat) (b.items.length:Nat)=z at hz hR;refine Mid.call (ht) Z Z Z Z ?_;refine fM Z ?_;refine zn (a.items.zip b.items) (fun i (_:Unit)=>{env:=[(2,.ptr 0 0),(3,.ptr 1 0),(5,.t (.int .i64 0)),(6,.t (.int .i64 i))],s:=⟨[(0,(VCo a)),(1,(VCo b))],2⟩}) (fun r i _=>R=Y4 z1x (a.items.drop i) (b.items.drop i) a.keys b.keys i z) 2 () Z hR Z Z Z ?_ ?_
    ·intro _ hinv;rw [z4f (z8I rfl)] at hinv;subst hinv;refine fR Z ?_;refine Run.zb Z Z (by simp) ?_;refine fR Z ?_;refine lM Z Z Z ?_;refine fM Z ?_;refine lMG Z Z Z Z ?_;refine fM Z ?_;refine Run.zb Z Z (by simp [List.length_zip];omega) ?_;refine fR Z ?_;refine lM Z Z Z ?_;refine fM Z ?_;refine lM Z Z Z ?_;refine Mid.call (hz) Z Z Z Z ?_;refine fM Z ?_;refine Run.fin Z (z3.go ?_);exact .t Z
    ·intro i p r _ g1 gi gd hinv ih;obtain ⟨e1,e2⟩:=List.getElem?_zip_eq_some.1 g1;obtain ⟨x,y⟩:=p;simp only at e1 e2;have b1:=(w02.1 e1).1;have b2:=(w02.1 e2).1;rw [z62 e1 e2] at hinv;have hc:=hrec x (zMG e1) y (hb.it y (zMG e2));have hs:=qt H (Yn a.keys i) (Yn b.keys i);refine fR Z ?_;refine Run.zb Z Z (by simp) ?_;refine fR Z ?_;refine lM Z Z Z ?_;refine fM Z ?_;refine lMG Z Z Z Z ?_;refine fM Z ?_;refine Run.z9 Z Z (by simp;omega) ?_;refine fR Z ?_;refine Mid.call (zc0 H a ha i (by omega)) Z Z Z Z ?_;refine fM Z ?_;refine Mid.call (zc0 H b hb i (by omega)) Z Z Z Z ?_;skip;by_cases h4:z1x (Yn a.keys i) (Yn b.keys i)=0
     ·rw [h4] at hs hinv;rw [w0g (by simp)] at hinv;refine Mid.call (hs) Z Z Z Z ?_;refine fM Z ?_;refine Run.zb Z Z Z ?_;refine fR Z ?_;refine Mid.YI (Val.w4 x) Z Z Z e1 Z Z ?_;refine fM Z ?_;refine Mid.YI (Val.w4 y) Z Z Z e2 Z Z ?_;refine fM Z ?_;by_cases h5:QS z1x x y=0
      ·rw [h5] at hc hinv;rw [w0g (by simp)] at hinv;refine Mid.call (hc) Z Z Z Z ?_;refine fM Z ?_;refine aL Z Z Z Z Z ?_;refine fM Z ?_;exact zd 2 Z (ih () hinv) Z Z Z
      ·rw [w0e h5] at hinv;refine Mid.call (hc) Z Z Z Z ?_;refine fM Z ?_;refine aL Z Z Z Z Z ?_;refine fM Z ?_;skip;refine Run.adv 200 Z (Run.wF ?_);refine fR Z ?_;refine Run.z9 Z Z (by simpa using h5) ?_;refine fR Z ?_;refine Run.fin Z (z3.go ?_);exact .t (by rw [hinv])
     ·rw [w0e h4] at hinv;refine Mid.call (hs) Z Z Z Z ?_;refine fM Z ?_;refine Run.z9 Z Z (by simpa using h4) ?_;refine fR Z ?_;refine aL Z Z Z Z Z ?_;refine fM Z ?_;refine Run.adv 200 Z (Run.wF ?_);refine fR Z ?_;refine Run.z9 Z Z (by simpa using h4) ?_;refine fR Z ?_;refine Run.fin Z (z3.go ?_);exact .t (by rw [hinv])
   ·rw [w0e h3] at hR;refine Mid.call (ht) Z Z Z Z ?_;refine fM Z ?_;skip;refine Run.loop Z ?_;refine Run.wF ?_;refine fR Z ?_;refine Run.z9 Z Z (by simpa using h3) ?_;refine fR Z ?_;refine Run.fin Z (z3.go ?_);exact .t (by rw [hR])
  ·rw [w0e h2] at hR;refine Mid.call (hi) Z Z Z Z ?_;refine fM Z ?_;refine Run.z9 Z Z (by simpa using h2) ?_;refine fR Z ?_;refine Run.loop Z ?_;refine Run.wF ?_;refine fR Z ?_;refine Run.z9 Z Z (by simpa using h2) ?_;refine fR Z ?_;refine Run.fin Z (z3.go ?_);exact .t (by rw [hR])
 ·rw [w0e h1] at hR;refine Mid.call (hk) Z Z Z Z ?_;refine fM Z ?_;refine Run.z9 Z Z (by simpa using h1) ?_;refine fR Z ?_;refine Run.z9 Z Z (by simpa using h1) ?_;refine fR Z ?_;refine Run.loop Z ?_;refine Run.wF ?_;refine fR Z ?_;refine Run.z9 Z Z (by simpa using h1) ?_;refine fR Z ?_;refine Run.fin Z (z3.go ?_);exact .t (by rw [hR])
theorem z6A (H:Pr P):∀(k:Nat) (v:Val),SizeOf.sizeOf v<=k->v.Ok->zbS P v
 |0,v,h,_=>by cases v;simp at h
 |k+1,v,h,hv=>z9P H v hv fun x hx=>z6A H k x (by have:=Val.yd v hx;omega) (hv.it x hx)
theorem z6W (H:Pr P) (a b:Val) (ha:a.Ok) (hb:b.Ok):z5 P 141 [a.v,b.v] ⟨[],0⟩ {v:= .t (.bool (z1H a b))}:=by
 have h:=z6A H _ a (w09 _) ha b hb;have e:=z6p (fun {a b}=>zam (a:=a) (b:=b)) a b;refine z5.run H.i141 H.mixed Z Z ?_;refine fR Z ?_;refine Mid.call (h) Z Z Z Z ?_;refine fM Z ?_;refine Run.fin Z (z3.go ?_);exact .t (by rw [←e])
def zbj (P:Program) (a:Val):Prop:=∀b:Val,b.Ok->z5 P 169 [a.v,b.v] ⟨[],0⟩ {v:= .t (.int .i64 (QS Go.Lib.compareBytes a b))}
theorem z96 (H:Pr P) (a:Val) (ha:a.Ok) (hrec:∀x,x∈a.items->zbj P x):zbj P a:=by
 intro b hb;have hil:=ha.il;have hil2:=hb.il;have hk:=z0c H a.kind b.kind;have hi:=z0c H a.int b.int;have ht:=z25 H a.text b.text;have hz:=z0c H (a.items.length:Nat) (b.items.length:Nat);have hR:=z0P Go.Lib.compareBytes a b;generalize QS Go.Lib.compareBytes a b=R at hR⊢;refine z5.run H.i169 H.mixed Z Z ?_;refine fR Z ?_;refine Run.loop Z ?_;refine Run.wF ?_;refine fR Z ?_;refine Run.zb Z Z (by simp) ?_;refine fR Z ?_;by_cases h1:a.kind=b.kind
 ·rw [w0g (by simpa using wU.2 h1)] at hR;refine Run.z9 Z Z (by simpa using h1) ?_;refine fR Z ?_;by_cases h2:a.int=b.int
  ·rw [w0g (by simpa using wU.2 h2)] at hR;refine Run.z9 Z Z (by simpa using h2) ?_;refine fR Z ?_;by_cases h3:a.text=b.text
   ·rw [w0g (by simpa using QD.2 h3)] at hR;refine Run.z9 Z Z (by simpa using h3) ?_;generalize wy (a.items.length:Nat) (b.items.length:Nat)=z at hz hR;refine fR Z ?_;refine lM Z Z Z ?_;refine fM Z ?_;refine lM Z Z Z ?_;refine fM Z ?_
    have hm:(if (b.items.length:Int)<(a.items.length:Int) then (b.items.length:Int) else (a.items.length:Int))=((a.items.zip b.items).length:Nat):=by
     rw [List.length_zip]
     split<;>omega
    rw [hm];refine zn (a.items.zip b.items) (fun i (_:Unit)=>{env:=[(2,.ptr 0 0),(3,.ptr 1 0),(7,.t (.int .i64 0)),(48,.t (.int .i64 (a.items.zip b.items).length)),(49,.t (.int .i64 i))],s:=⟨[(0,(VCo a)),(1,(VCo b))],2⟩}) (fun r i _=>R=Y4 Go.Lib.compareBytes (a.items.drop i) (b.items.drop i) a.keys b.keys i z) 2 () Z hR Z Z Z ?_ ?_
    ·intro _ hinv;rw [z4f (z8I rfl)] at hinv;subst hinv;refine fR Z ?_;refine Run.z9 Z Z (by simp) ?_;refine fR Z ?_;refine lM Z Z Z ?_;refine fM Z ?_;refine lM Z Z Z ?_;refine Mid.call (hz) Z Z Z Z ?_;refine fM Z ?_;refine a64 Z Z Z ?_;refine fM Z ?_;refine Run.adv 200 Z (Run.wF ?_);refine fR Z ?_;refine Run.z9 Z Z (by simp) ?_;refine fR Z ?_;refine Run.fin Z (z3.go ?_);exact .t Z
    ·intro i p r _ g1 gi gd hinv ih;obtain ⟨e1,e2⟩:=List.getElem?_zip_eq_some.1 g1;obtain ⟨x,y⟩:=p;simp only at e1 e2;have b1:=(w02.1 e1).1;have b2:=(w02.1 e2).1;rw [z62 e1 e2] at hinv;have hc:=hrec x (zMG e1) y (hb.it y (zMG e2));have hs:=z25 H (Yn a.keys i) (Yn b.keys i);refine fR Z ?_;refine Run.zb Z Z (by simp [List.length_zip];omega) ?_;refine fR Z ?_;refine Mid.call (z8Y H a ha i (by omega)) Z Z Z Z ?_;refine fM Z ?_;refine Mid.call (z8Y H b hb i (by omega)) Z Z Z Z ?_;skip;by_cases h4:Go.Lib.compareBytes (Yn a.keys i) (Yn b.keys i)=0
     ·rw [h4] at hs hinv;rw [w0g (by simp)] at hinv;refine Mid.call (hs) Z Z Z Z ?_;refine fM Z ?_;refine Run.z9 Z Z Z ?_;refine fR Z ?_;refine Mid.YI (Val.w4 x) Z Z Z e1 Z Z ?_;refine fM Z ?_;refine Mid.YI (Val.w4 y) Z Z Z e2 Z Z ?_;refine fM Z ?_;by_cases h5:QS Go.Lib.compareBytes x y=0
      ·rw [h5] at hc hinv;rw [w0g (by simp)] at hinv;refine Mid.call (hc) Z Z Z Z ?_;refine fM Z ?_;refine Run.z9 Z Z Z ?_;refine fR Z ?_;refine aL Z Z Z Z Z ?_;refine fM Z ?_;exact zd 2 Z (ih () hinv) Z Z Z
      ·rw [w0e h5] at hinv;refine Mid.call (hc) Z Z Z Z ?_;refine fM Z ?_;refine Run.zb Z Z (by simpa using h5) ?_;refine fR Z ?_;refine Run.fin Z (z3.go ?_);exact .t (by rw [hinv])
     ·rw [w0e h4] at hinv;refine Mid.call (hs) Z Z Z Z ?_;refine fM Z ?_;refine Run.zb Z Z (by simpa using h4) ?_;refine fR Z ?_;refine Run.fin Z (z3.go ?_);exact .t (by rw [hinv])
   ·rw [w0e (by simpa using fun e=>h3 (QD.1 e))] at hR;refine Run.zb Z Z (by simpa using h3) ?_;refine fR Z ?_;refine Mid.call (ht) Z Z Z Z ?_;refine fM Z ?_;refine Run.fin Z (z3.go ?_);exact .t (by rw [hR])
  ·rw [w0e (by simpa using fun e=>h2 (wU.1 e))] at hR;refine Run.zb Z Z (by simpa using h2) ?_;refine fR Z ?_;refine Mid.call (hi) Z Z Z Z ?_;refine fM Z ?_;refine Run.fin Z (z3.go ?_);exact .t (by rw [hR])
 ·rw [w0e (by simpa using fun e=>h1 (wU.1 e))] at hR;refine Run.zb Z Z (by simpa using h1) ?_;refine fR Z ?_;refine Mid.call (hk) Z Z Z Z ?_;refine fM Z ?_;refine Run.fin Z (z3.go ?_);exact .t (by rw [hR])
theorem z6v (H:Pr P):∀(k:Nat) (v:Val),SizeOf.sizeOf v<=k->v.Ok->zbj P v
 |0,v,h,_=>by cases v;simp at h
 |k+1,v,h,hv=>z96 H v hv fun x hx=>z6v H k x (by have:=Val.yd v hx;omega) (hv.it x hx)
theorem z6V (H:Pr P) (a b:Val) (ha:a.Ok) (hb:b.Ok):z5 P 140 [a.v,b.v] ⟨[],0⟩ {v:= .t (.bool (z1H a b))}:=by
 have h:=z6v H _ a (w09 _) ha b hb;have e:=z6p (fun {a b}=>QD (a:=a) (b:=b)) a b;refine z5.run H.i140 H.mixed Z Z ?_;refine fR Z ?_;refine Mid.call (h) Z Z Z Z ?_;refine fM Z ?_;refine Run.fin Z (z3.go ?_);exact .t (by rw [←e])
end Go.GB.C35
namespace Go.GB.C29
open Go.GB
structure PrR (P:Program):Prop where
 mixed:P.follows .mixedOrders=true
 i23:z7 P 23=some (n23,c23.bare,r23)
 i61:z7 P 61=some (n61,c61.bare,r61)
 i107:z7 P 107=some (n107,c107.bare,r107)
 i108:z7 P 108=some (n108,c108.bare,r108)
 i109:z7 P 109=some (n109,c109.bare,r109)
 i110:z7 P 110=some (n110,c110.bare,r110)
 i152:z7 P 152=some (n152,c152.bare,r152)
 i154:z7 P 154=some (n154,c154.bare,r154)
structure R6 (P:Program) (zo:Str->Bool) (litF:Val->Bool) (refF:Ref->Bool):Prop where
 nm:∀s,z5 P 106 [.t (.str s)] ⟨[],0⟩ {v:= .t (.bool (zo s))}
 lit:∀v:Val,v.Ok->z5 P 151 [v.v] ⟨[],0⟩ {v:= .t (.bool (litF v))}
 rf:∀r:Ref,r.Ok->z5 P 153 [r.v] ⟨[],0⟩ {v:= .t (.bool (refF r))}
variable {P:Program} {zo:Str->Bool} {litF:Val->Bool} {refF:Ref->Bool}
theorem Q9 {α:Type} {p:α->Bool} {l:List α} {i:Nat} {x:α} (h:l[i]?=some x):(l.drop i).all p=(p x&&(l.drop (i+1)).all p):=by
 obtain ⟨h1,rfl⟩:=w02.1 h;rw [List.drop_eq_getElem_cons h1];rfl
theorem Wx {α:Type} {p:α->Bool} {l:List α}:(l.drop l.length).all p=true:=by simp
mutual
def yv:Val->Bool
 | .mk k _ _ its _=>z0O its&&!(k==7)
def z0O:List Val->Bool
 |[]=>true
 |v::r=>yv v&&z0O r
end
theorem z0J:∀l:List Val,z0O l=l.all yv
 |[]=>rfl
 |v::r=>by simp [z0O,z0J r]
theorem z7t (v:Val):yv v=(v.items.all yv&&!(v.kind==7)):=by
 cases v;simp only [yv,z0J];rfl
def ClC (P:Program) (v:Val):Prop:=z5 P 152 [v.v] ⟨[],0⟩ {v:= .t (.bool (yv v))}
theorem z6C (H:PrR P) (v:Val) (hv:v.Ok) (hrec:∀x,x∈v.items->ClC P x):ClC P v:=by
 have hil:=hv.il;have hR:=z7t v;unfold ClC;generalize yv v=R at hR⊢;refine z5.run H.i152 H.mixed Z Z ?_;refine fR Z ?_;refine zn v.items (fun i (_:Unit)=>{env:=[(1,.ptr 0 0),(3,.t (.int .i64 i))],s:=⟨[(0,(VCo v))],1⟩}) (fun r i _=>v.items.all yv=(v.items.drop i).all yv) 1 () Z Z Z Z Z ?_ ?_
 ·intro _ hinv;rw [Wx] at hinv;rw [hinv,w1b] at hR;refine fR Z ?_;refine lM Z Z Z ?_;refine fM Z ?_;refine Run.z9 Z Z (by simp) ?_;refine fR Z ?_;refine Run.fin Z (z3.go ?_);exact .t (by rw [hR];rfl)
 ·intro i x r _ h1 hi hd hinv ih;have hc:=hrec x (zMG h1);unfold ClC at hc;rw [Q9 h1] at hinv;refine fR Z ?_;refine lM Z Z Z ?_;refine fM Z ?_;refine Run.zb Z Z (by simp;omega) ?_;refine fR Z ?_;refine Mid.YI (Val.w4 x) Z Z Z h1 Z Z ?_;refine fM Z ?_
  cases hx:yv x with
  |true=>
   rw [hx] at hc hinv;refine Mid.call (hc) Z Z Z Z ?_;refine fM Z ?_;refine Run.z9 Z Z Z ?_;refine fR Z ?_;refine aL Z Z Z Z Z ?_;refine fM Z ?_;exact zd 1 Z (ih () (by rw [hinv];rfl)) Z Z Z
  |false=>
   rw [hx] at hc hinv;rw [hinv,w18,w18] at hR;refine Mid.call (hc) Z Z Z Z ?_;refine fM Z ?_;refine Run.zb Z Z Z ?_;refine fR Z ?_;refine Run.fin Z (z3.go ?_);exact .t (by rw [hR])
theorem z3a (H:PrR P):∀(k:Nat) (v:Val),SizeOf.sizeOf v<=k->v.Ok->ClC P v
 |0,v,h,_=>by cases v;simp at h
 |k+1,v,h,hv=>z6C H v hv fun x hx=>z3a H k x (by have:=Val.yd v hx;omega) (hv.it x hx)
theorem z4j (H:PrR P) (v:Val) (hv:v.Ok):z5 P 152 [v.v] ⟨[],0⟩ {v:= .t (.bool (yv v))}:=z3a H _ v (w09 _) hv
def z8Q (v:Val):Bool:=v.kind==0&&v.int==0&&v.text==[]&&v.items.length==0&&v.keys.length==0
theorem zcI (H:PrR P) (v:Val):z5 P 154 [v.v] ⟨[],0⟩ {v:= .t (.bool (z8Q v))}:=by
 refine z5.run H.i154 H.mixed Z Z ?_;refine fR Z ?_;refine lMG Z Z Z Z ?_;refine fM Z ?_;refine lMG Z Z Z Z ?_;refine fM Z ?_
 have e:∀n:Nat,((n:Int)==0)=(n==0):=fun n=>by rw [w1n];simp
 refine Run.fin Z (z3.go ?_);exact .t (by simp [z8Q,e])
section
variable (zo litF refF)
def zdF (a:Arg):Bool:=zo a.name&&litF a.val&&yv a.val
def z7e (d:Dir):Bool:=zo d.name&&decide (d.args.length<=16)&&d.args.all (zdF zo litF)
def wM (l:List Dir):Bool:=decide (l.length<=16)&&l.all (z7e zo litF)
def inR (x:Input):Bool:=zo x.name&&refF x.ty&&wM zo litF x.zg&&(if x.has then litF x.YJ&&yv x.YJ else z8Q x.YJ)
def Yt (l:List Input):Bool:=decide (l.length<=16)&&l.all (inR zo litF refF)
def z1D (f:Field):Bool:=zo f.name&&Yt zo litF refF f.args&&refF f.ty&&wM zo litF f.zg
def wo (l:List Field):Bool:=decide (1<=l.length)&&decide (l.length<=64)&&l.all (z1D zo litF refF)
def za8 (plain:Bool) (m:zh):Bool:=zo m.name&&wM zo litF m.zg&&!(plain&&decide (m.zg.length>0))
def yO (l:List zh) (plain:Bool):Bool:=decide (1<=l.length)&&decide (l.length<=64)&&l.all (za8 zo litF plain)
end
theorem QE (H:PrR P) (K:R6 P zo litF refF) (l:List Dir) (hl:l.length<=140737488355328) (ho:∀d,d∈l->d.Ok):z5 P 107 [.t (.lst (l.map Dir.enc))] ⟨[],0⟩ {v:= .t (.bool (wM zo litF l))}:=by
 by_cases hb:l.length<=16
 ·have hR:wM zo litF l=l.all (z7e zo litF):=by simp [wM,hb]
  rw [hR];generalize hR2:l.all (z7e zo litF)=R;refine z5.run H.i107 H.mixed Z Z ?_;refine fR Z ?_;refine lM Z Z Z ?_;refine fM Z ?_;refine Run.z9 Z Z (by simp;omega) ?_;refine fR Z ?_;refine zn l (fun i (_:Unit)=>{env:=[(0,.t (.lst (l.map Dir.enc))),(3,.t (.int .i64 i))],s:=⟨[],0⟩}) (fun r i _=>(l.drop i).all (z7e zo litF)=R) 0 () Z hR2 Z Z Z ?_ ?_
  ·intro _ hinv;rw [Wx] at hinv;subst hinv;refine fR Z ?_;refine lM Z Z Z ?_;refine fM Z ?_;refine Run.z9 Z Z (by simp) ?_;refine fR Z ?_;refine Run.fin Z (z3.go ?_);exact .t Z
  ·intro i d r _ h1 hi hd hinv ih;have hdk:=ho d (zMG h1);have hal:=hdk.l;have hn:=K.nm d.name;rw [Q9 h1] at hinv;unfold z7e at hinv;refine fR Z ?_;refine lM Z Z Z ?_;refine fM Z ?_;refine Run.zb Z Z (by simp;omega) ?_;refine fR Z ?_;refine Mid.z6 Z Z Z h1 Z Z ?_;refine fM Z ?_
   cases hx:zo d.name with
   |false=>
    rw [hx] at hn hinv;simp only [w18] at hinv;subst hinv;refine Mid.call (hn) Z Z Z Z ?_;refine fM Z ?_;refine elG Z Z Z Z h1 Z Z ?_;refine fM Z ?_;refine lMG Z Z Z Z ?_;refine fM Z ?_;refine Run.zb Z Z Z ?_;refine fR Z ?_;refine Run.fin Z (z3.go ?_);exact .t Z
   |true=>
    rw [hx] at hn hinv;simp only [w1b] at hinv;refine Mid.call (hn) Z Z Z Z ?_;refine fM Z ?_;refine elG Z Z Z Z h1 Z Z ?_;refine fM Z ?_;refine lMG Z Z Z Z ?_;refine fM Z ?_;by_cases ha:d.args.length<=16
    ·rw [decide_eq_true ha,w1b] at hinv;refine Run.z9 Z Z (by simp;omega) ?_;refine fR Z ?_;refine zn d.args (fun j (_:Unit)=>{env:=[(0,.t (.lst (l.map Dir.enc))),(3,.t (.int .i64 i)),(4,.t (.int .i64 j))],s:=⟨[],0⟩}) (fun r2 j _=>((d.args.drop j).all (zdF zo litF)&&(l.drop (i+1)).all (z7e zo litF))=R) 0 () Z hinv Z Z Z ?_ ?_
     ·intro _ hinv2;rw [Wx,w1b] at hinv2;refine fR Z ?_;refine Mid.z6 Z Z Z h1 Z Z ?_;refine fM Z ?_;refine lM Z Z Z ?_;refine fM Z ?_;refine Run.z9 Z Z (by simp) ?_;refine fR Z ?_;refine aL Z Z Z Z Z ?_;refine fM Z ?_;exact zd 0 Z (ih () hinv2) Z Z Z
     ·intro j a r2 _ k1 hj kd hinv2 ih2;have hak:=hdk.a a (zMG k1);have hn2:=K.nm a.name;have hl2:=K.lit a.val hak;have hc2:=z4j H a.val hak;rw [Q9 k1] at hinv2;unfold zdF at hinv2;generalize zo a.name=b1 at hn2 hinv2;generalize litF a.val=b2 at hl2 hinv2;generalize yv a.val=b3 at hc2 hinv2;refine fR Z ?_;refine Mid.z6 Z Z Z h1 Z Z ?_;refine fM Z ?_;refine lM Z Z Z ?_;refine fM Z ?_;refine Run.zb Z Z (by simp;omega) ?_;refine fR Z ?_;refine Mid.z6 Z Z Z h1 Z Z ?_;refine fM Z ?_;refine Mid.z6 Z Z Z k1 Z Z ?_;refine fM Z ?_;refine Mid.call (hn2) Z Z Z Z ?_;refine fM Z ?_;refine caG Z Z (fun hg=>⟨_,rfl,hl2,rfl⟩) Z Z ?_;refine fM Z ?_;refine caG Z Z (fun hg=>⟨_,rfl,hc2,rfl⟩) Z Z ?_;refine fM Z ?_
      cases hb:(b1&&b2&&b3) with
      |true=>
       simp only [w07] at hb;obtain ⟨⟨rfl,rfl⟩,rfl⟩:=hb;refine Run.z9 Z Z Z ?_;refine fR Z ?_;refine aL Z Z Z Z Z ?_;refine fM Z ?_;exact zd 0 Z (ih2 () hinv2) Z Z Z
      |false=>
       rw [hb] at hinv2;simp only [w18] at hinv2;subst hinv2
       refine Run.zb Z Z (by revert hb;cases b1<;>cases b2<;>cases b3<;>simp) ?_
       refine fR Z ?_;refine Run.fin Z (z3.go ?_);exact .t Z
    ·rw [decide_eq_false ha,w18,w18] at hinv;subst hinv;refine Run.zb Z Z (by simp;omega) ?_;refine fR Z ?_;refine Run.fin Z (z3.go ?_);exact .t Z
 ·have hR:wM zo litF l=false:=by simp [wM];omega
  rw [hR];refine z5.run H.i107 H.mixed Z Z ?_;refine fR Z ?_;refine lM Z Z Z ?_;refine fM Z ?_;refine Run.zb Z Z (by simp;omega) ?_;refine fR Z ?_;refine Run.fin Z (z3.go ?_);exact .t Z
end Go.GB.C29
namespace Go.GB.C29
open Go.GB
variable {P:Program} {zo:Str->Bool} {litF:Val->Bool} {refF:Ref->Bool}
theorem yS (H:PrR P) (K:R6 P zo litF refF) (l:List Input) (hl:l.length<=140737488355328) (ho:∀d,d∈l->d.Ok):z5 P 110 [.t (.lst (l.map Input.enc))] ⟨[],0⟩ {v:= .t (.bool (Yt zo litF refF l))}:=by
 by_cases hb:l.length<=16
 ·have hR:Yt zo litF refF l=l.all (inR zo litF refF):=by simp [Yt,hb]
  rw [hR];generalize hR2:l.all (inR zo litF refF)=R;refine z5.run H.i110 H.mixed Z Z ?_;refine fR Z ?_;refine lM Z Z Z ?_;refine fM Z ?_;refine Run.z9 Z Z (by simp;omega) ?_;refine fR Z ?_;refine zn l (fun i (_:Unit)=>{env:=[(0,.t (.lst (l.map Input.enc))),(3,.t (.int .i64 i))],s:=⟨[],0⟩}) (fun r i _=>(l.drop i).all (inR zo litF refF)=R) 0 () Z hR2 Z Z Z ?_ ?_
  ·intro _ hinv;rw [Wx] at hinv;subst hinv;refine fR Z ?_;refine lM Z Z Z ?_;refine fM Z ?_;refine Run.z9 Z Z (by simp) ?_;refine fR Z ?_;refine Run.fin Z (z3.go ?_);exact .t Z
  ·intro i x r _ h1 hi hd hinv ih;have hxk:=ho x (zMG h1);have hn:=K.nm x.name;have hr:=K.rf x.ty hxk.t;have hds:=QE H K x.zg hxk.l hxk.d;have hl2:=K.lit x.YJ hxk.v;have hc2:=z4j H x.YJ hxk.v;have hz2:=zcI H x.YJ;rw [Q9 h1] at hinv;unfold inR at hinv;generalize zo x.name=b1 at hn hinv;generalize refF x.ty=b2 at hr hinv;generalize wM zo litF x.zg=b3 at hds hinv;generalize litF x.YJ=b4 at hl2 hinv;generalize yv x.YJ=b5 at hc2 hinv;generalize z8Q x.YJ=b6 at hz2 hinv;refine fR Z ?_;refine lM Z Z Z ?_;refine fM Z ?_;refine Run.zb Z Z (by simp;omega) ?_;refine fR Z ?_;refine Mid.z6 Z Z Z h1 Z Z ?_;refine fM Z ?_;refine Mid.call (hn) Z Z Z Z ?_;refine fM Z ?_;refine caG Z Z (fun hg=>⟨_,rfl,hr,rfl⟩) Z Z ?_;refine fM Z ?_;refine caG Z Z (fun hg=>⟨_,rfl,hds,rfl⟩) Z Z ?_;refine fM Z ?_
   cases hb2:(b1&&b2&&b3) with
   |false=>
    rw [hb2,w18,w18] at hinv;subst hinv
    refine Run.zb Z Z (by revert hb2;cases b1<;>cases b2<;>cases b3<;>simp) ?_
    refine fR Z ?_;refine Run.fin Z (z3.go ?_);exact .t Z
   |true=>
    rw [hb2,w1b] at hinv;simp only [w07] at hb2;obtain ⟨⟨rfl,rfl⟩,rfl⟩:=hb2;refine Run.z9 Z Z Z ?_;refine fR Z ?_;refine caG Z Z (fun hg=>⟨_,rfl,hl2,rfl⟩) Z Z ?_;refine fM Z ?_;refine caG Z Z (fun hg=>⟨_,rfl,hc2,rfl⟩) Z Z ?_;refine fM Z ?_;refine caG Z Z (fun hg=>⟨_,rfl,hz2,rfl⟩) Z Z ?_;refine fM Z ?_;refine Run.cond Z Z (fun h=>?_) (fun h=>?_)
    ·have e:(if x.has=true then b4&&b5 else b6)=false:=by
      revert h;clear hinv;generalize x.has=b7;cases b7<;>cases b4<;>cases b5<;>cases b6<;>simp
     rw [e,w18] at hinv;subst hinv;refine fR Z ?_;refine Run.fin Z (z3.go ?_);exact .t Z
    ·have e:(if x.has=true then b4&&b5 else b6)=true:=by
      revert h;clear hinv;generalize x.has=b7;cases b7<;>cases b4<;>cases b5<;>cases b6<;>simp
     rw [e,w1b] at hinv;refine fR Z ?_;refine aL Z Z Z Z Z ?_;refine fM Z ?_;exact zd 0 Z (ih () hinv) Z Z Z
 ·have hR:Yt zo litF refF l=false:=by simp [Yt];omega
  rw [hR];refine z5.run H.i110 H.mixed Z Z ?_;refine fR Z ?_;refine lM Z Z Z ?_;refine fM Z ?_;refine Run.zb Z Z (by simp;omega) ?_;refine fR Z ?_;refine Run.fin Z (z3.go ?_);exact .t Z
theorem wV (H:PrR P) (K:R6 P zo litF refF) (l:List Field) (hl:l.length<=140737488355328) (ho:∀d,d∈l->d.Ok):z5 P 108 [.t (.lst (l.map Field.enc))] ⟨[],0⟩ {v:= .t (.bool (wo zo litF refF l))}:=by
 by_cases hb:1<=l.length/\l.length<=64
 ·have hR:wo zo litF refF l=l.all (z1D zo litF refF):=by simp [wo,hb.1,hb.2]
  rw [hR];generalize hR2:l.all (z1D zo litF refF)=R;refine z5.run H.i108 H.mixed Z Z ?_;refine fR Z ?_;refine lM Z Z Z ?_;refine fM Z ?_;refine lMG Z Z Z Z ?_;refine fM Z ?_;refine Run.z9 Z Z (by simp;omega) ?_;refine fR Z ?_;refine zn l (fun i (_:Unit)=>{env:=[(0,.t (.lst (l.map Field.enc))),(3,.t (.int .i64 i))],s:=⟨[],0⟩}) (fun r i _=>(l.drop i).all (z1D zo litF refF)=R) 0 () Z hR2 Z Z Z ?_ ?_
  ·intro _ hinv;rw [Wx] at hinv;subst hinv;refine fR Z ?_;refine lM Z Z Z ?_;refine fM Z ?_;refine Run.z9 Z Z (by simp) ?_;refine fR Z ?_;refine Run.fin Z (z3.go ?_);exact .t Z
  ·intro i x r _ h1 hi hd hinv ih;have hxk:=ho x (zMG h1);have hn:=K.nm x.name;have hr:=K.rf x.ty hxk.t;have hds:=QE H K x.zg hxk.l hxk.d;have hin:=yS H K x.args hxk.al hxk.a;rw [Q9 h1] at hinv;unfold z1D at hinv;generalize zo x.name=b1 at hn hinv;generalize refF x.ty=b2 at hr hinv;generalize wM zo litF x.zg=b3 at hds hinv;generalize Yt zo litF refF x.args=b4 at hin hinv;refine fR Z ?_;refine lM Z Z Z ?_;refine fM Z ?_;refine Run.zb Z Z (by simp;omega) ?_;refine fR Z ?_;refine Mid.z6 Z Z Z h1 Z Z ?_;refine fM Z ?_;refine Mid.call (hn) Z Z Z Z ?_;refine fM Z ?_;refine elG Z Z Z Z h1 Z Z ?_;refine fM Z ?_;refine caG Z Z (fun hg=>⟨_,rfl,hin,rfl⟩) Z Z ?_;refine fM Z ?_;refine elG Z Z Z Z h1 Z Z ?_;refine fM Z ?_;refine caG Z Z (fun hg=>⟨_,rfl,hr,rfl⟩) Z Z ?_;refine fM Z ?_;refine elG Z Z Z Z h1 Z Z ?_;refine fM Z ?_;refine caG Z Z (fun hg=>⟨_,rfl,hds,rfl⟩) Z Z ?_;refine fM Z ?_
   cases hb2:(b1&&b4&&b2&&b3) with
   |false=>
    rw [hb2,w18] at hinv;subst hinv
    refine Run.zb Z Z (by revert hb2;cases b1<;>cases b2<;>cases b3<;>cases b4<;>simp) ?_
    refine fR Z ?_;refine Run.fin Z (z3.go ?_);exact .t Z
   |true=>
    rw [hb2,w1b] at hinv;simp only [w07] at hb2;obtain ⟨⟨⟨rfl,rfl⟩,rfl⟩,rfl⟩:=hb2;refine Run.z9 Z Z Z ?_;refine fR Z ?_;refine aL Z Z Z Z Z ?_;refine fM Z ?_;exact zd 0 Z (ih () hinv) Z Z Z
 ·have hR:wo zo litF refF l=false:=by
   simp only [wo,Bool.and_eq_false_iff,w1u];omega
  rw [hR];refine z5.run H.i108 H.mixed Z Z ?_;refine fR Z ?_;refine lM Z Z Z ?_;refine fM Z ?_;refine lMG Z Z Z Z ?_;refine fM Z ?_;refine Run.zb Z Z (by simp;omega) ?_;refine fR Z ?_;refine Run.fin Z (z3.go ?_);exact .t Z
theorem wa (H:PrR P) (K:R6 P zo litF refF) (l:List zh) (hl:l.length<=140737488355328) (ho:∀d,d∈l->d.Ok) (plain:Bool):z5 P 109 [.t (.lst (l.map zh.enc)),.t (.bool plain)] ⟨[],0⟩ {v:= .t (.bool (yO zo litF l plain))}:=by
 by_cases hb:1<=l.length/\l.length<=64
 ·have hR:yO zo litF l plain=l.all (za8 zo litF plain):=by simp [yO,hb.1,hb.2]
  rw [hR];generalize hR2:l.all (za8 zo litF plain)=R;refine z5.run H.i109 H.mixed Z Z ?_;refine fR Z ?_;refine lM Z Z Z ?_;refine fM Z ?_;refine lMG Z Z Z Z ?_;refine fM Z ?_;refine Run.z9 Z Z (by simp;omega) ?_;refine fR Z ?_;refine zn l (fun i (_:Unit)=>{env:=[(0,.t (.lst (l.map zh.enc))),(1,.t (.bool plain)),(5,.t (.int .i64 i))],s:=⟨[],0⟩}) (fun r i _=>(l.drop i).all (za8 zo litF plain)=R) 0 () Z hR2 Z Z Z ?_ ?_
  ·intro _ hinv;rw [Wx] at hinv;subst hinv;refine fR Z ?_;refine lM Z Z Z ?_;refine fM Z ?_;refine Run.z9 Z Z (by simp) ?_;refine fR Z ?_;refine Run.fin Z (z3.go ?_);exact .t Z
  ·intro i x r _ h1 hi hd hinv ih;have hxk:=ho x (zMG h1);have hn:=K.nm x.name;have hds:=QE H K x.zg hxk.l hxk.d;rw [Q9 h1] at hinv;unfold za8 at hinv;generalize zo x.name=b1 at hn hinv;generalize wM zo litF x.zg=b3 at hds hinv;refine fR Z ?_;refine lM Z Z Z ?_;refine fM Z ?_;refine Run.zb Z Z (by simp;omega) ?_;refine fR Z ?_;refine Mid.z6 Z Z Z h1 Z Z ?_;refine fM Z ?_;refine Mid.call (hn) Z Z Z Z ?_;refine fM Z ?_;refine elG Z Z Z Z h1 Z Z ?_;refine fM Z ?_;refine caG Z Z (fun hg=>⟨_,rfl,hds,rfl⟩) Z Z ?_;refine fM Z ?_;refine elG Z Z Z Z h1 Z Z ?_;refine fM Z ?_;refine lMG Z Z Z Z ?_;refine fM Z ?_;refine Run.cond Z Z (fun h=>?_) (fun h=>?_)
   ·have e:(b1&&b3&&!(plain&&decide (x.zg.length>0)))=false:=by
     revert h;clear hinv;rw [show decide ((x.zg.length:Int)>0)=decide (x.zg.length>0) from decide_eq_decide.2 (by omega)];generalize decide (x.zg.length>0)=b7;cases b7<;>cases b1<;>cases b3<;>cases plain<;>simp
    rw [e,w18] at hinv;subst hinv;refine fR Z ?_;refine Run.fin Z (z3.go ?_);exact .t Z
   ·have e:(b1&&b3&&!(plain&&decide (x.zg.length>0)))=true:=by
     revert h;clear hinv;rw [show decide ((x.zg.length:Int)>0)=decide (x.zg.length>0) from decide_eq_decide.2 (by omega)];generalize decide (x.zg.length>0)=b7;cases b7<;>cases b1<;>cases b3<;>cases plain<;>simp
    rw [e,w1b] at hinv;refine fR Z ?_;refine aL Z Z Z Z Z ?_;refine fM Z ?_;exact zd 0 Z (ih () hinv) Z Z Z
 ·have hR:yO zo litF l plain=false:=by
   simp only [yO,Bool.and_eq_false_iff,w1u];omega
  rw [hR];refine z5.run H.i109 H.mixed Z Z ?_;refine fR Z ?_;refine lM Z Z Z ?_;refine fM Z ?_;refine lMG Z Z Z Z ?_;refine fM Z ?_;refine Run.zb Z Z (by simp;omega) ?_;refine fR Z ?_;refine Run.fin Z (z3.go ?_);exact .t Z
end Go.GB.C29
namespace Go.GB.C29
open Go.GB
variable {P:Program} {zo:Str->Bool} {litF:Val->Bool} {refF:Ref->Bool}
section
variable (zo litF refF)
def z8h (d:Def):Bool:=
 if d.kind=1 then wo zo litF refF d.fields&&decide (d.members.length=0)&&decide (d.zi.length=0)
 else if d.kind=2 then decide (d.implements.length=0)&&wo zo litF refF d.fields&&decide (d.members.length=0)&&decide (d.zi.length=0)
 else if d.kind=3 then decide (d.implements.length=0)&&decide (d.fields.length=0)&&yO zo litF d.members true&&decide (d.zi.length=0)
 else if d.kind=4 then decide (d.implements.length=0)&&decide (d.fields.length=0)&&yO zo litF d.members false&&decide (d.zi.length=0)
 else if d.kind=5 then decide (d.implements.length=0)&&decide (d.fields.length=0)&&decide (d.members.length=0)&&decide (d.zi.length>0)&&Yt zo litF refF d.zi
 else false
def z3J (d:Def):Bool:=zo d.name&&wM zo litF d.zg&&decide (d.implements.length<=64)&&d.implements.all zo&&z8h zo litF refF d
def z83 (ds:List Def):Bool:=decide (1<=ds.length)&&decide (ds.length<=64)&&ds.all (z3J zo litF refF)
end
theorem zeE (H:PrR P) (K:R6 P zo litF refF) (d:Def) (hd:d.Ok):z5 P 61 [d.v] ⟨[],0⟩ {v:= .t (.bool (z3J zo litF refF d))}:=by
 have hil:=hd.il;have hn:=K.nm d.name;have hds:=QE H K d.zg hd.dl hd.d;have hfl:=wV H K d.fields hd.fl hd.f;have hm1:=wa H K d.members hd.ml hd.m true;have hm2:=wa H K d.members hd.ml hd.m false;have hin:=yS H K d.zi hd.nl hd.n;have hR:z3J zo litF refF d=(zo d.name&&wM zo litF d.zg&&decide (d.implements.length<=64)&&d.implements.all zo&&z8h zo litF refF d):=rfl;unfold z8h at hR;generalize z3J zo litF refF d=R at hR⊢;generalize hb1:zo d.name=b1 at hn hR;generalize wM zo litF d.zg=b2 at hds hR;generalize wo zo litF refF d.fields=b3 at hfl hR;generalize yO zo litF d.members true=b4 at hm1 hR;generalize yO zo litF d.members false=b5 at hm2 hR;generalize Yt zo litF refF d.zi=b6 at hin hR;refine z5.run H.i61 H.mixed Z Z ?_;refine fR Z ?_;refine Mid.call (hn) Z Z Z Z ?_;refine fM Z ?_;refine caG Z Z (fun hg=>⟨_,rfl,hds,rfl⟩) Z Z ?_;refine fM Z ?_;refine lMG Z Z Z Z ?_;refine fM Z ?_
 have z0:∀n:Nat,((n:Int)==0)=decide (n=0):=fun n=>by rw [w1n];simp
 have z1:∀n:Nat,decide ((n:Int)>0)=decide (n>0):=fun n=>decide_eq_decide.2 (by omega)
 have z2:∀n:Nat,decide ((n:Int)>64)=!decide (n<=64):=fun n=>by rw [←decide_not];exact decide_eq_decide.2 (by omega)
 refine Run.cond Z Z (fun h=>?_) (fun h=>?_)
 ·have e:(b1&&b2&&decide (d.implements.length<=64))=false:=by
   revert h;rw [z2];generalize decide (d.implements.length<=64)=b7;cases b7<;>cases b1<;>cases b2<;>simp
  rw [e] at hR;simp only [w18] at hR;subst hR;refine fR Z ?_;refine Run.fin Z (z3.go ?_);exact .t Z
 ·have e:(b1&&b2&&decide (d.implements.length<=64))=true:=by
   revert h;rw [z2];generalize decide (d.implements.length<=64)=b7;cases b7<;>cases b1<;>cases b2<;>simp
  rw [e] at hR;simp only [w1b] at hR;refine fR Z ?_;refine zn d.implements (fun i (_:Unit)=>{env:=[(1,.ptr 0 0),(3,.t (.int .i64 i))],s:=⟨[(0,(TCo d))],1⟩}) (fun r i _=>d.implements.all zo=(d.implements.drop i).all zo) 1 () Z Z Z Z Z ?_ ?_
  ·intro _ hinv;rw [Wx] at hinv;rw [hinv,w1b] at hR;refine fR Z ?_;refine lM Z Z Z ?_;refine fM Z ?_;refine Run.z9 Z Z (by simp) ?_;refine fR Z ?_;refine lM Z Z Z ?_;refine fM Z ?_;refine lM Z Z Z ?_;refine fM Z ?_;refine lM Z Z Z ?_;refine fM Z ?_;refine lM Z Z Z ?_;refine fM Z ?_;refine Run.cond Z Z (fun k1=>?_) (fun k1=>?_)
   ·have h':d.kind=1:=by simpa using k1
    rw [w0e h'] at hR;refine fR Z ?_;refine Mid.call (hfl) Z Z Z Z ?_;refine fM Z ?_;refine Run.fin Z (z3.go ?_);exact .t (by rw [hR];try simp only [z0,z1])
   have n1:¬ d.kind=1:=by simpa using k1
   rw [w0g n1] at hR;refine fR Z ?_;refine Run.cond Z Z (fun k1=>?_) (fun k1=>?_)
   ·have h':d.kind=2:=by simpa using k1
    rw [w0e h'] at hR;refine fR Z ?_;refine caG Z Z (fun hg=>⟨_,rfl,hfl,rfl⟩) Z Z ?_;refine fM Z ?_;refine Run.fin Z (z3.go ?_);exact .t (by rw [hR];try simp only [z0,z1])
   have n2:¬ d.kind=2:=by simpa using k1
   rw [w0g n2] at hR;refine fR Z ?_;refine Run.cond Z Z (fun k1=>?_) (fun k1=>?_)
   ·have h':d.kind=3:=by simpa using k1
    rw [w0e h'] at hR;refine fR Z ?_;refine caG Z Z (fun hg=>⟨_,rfl,hm1,rfl⟩) Z Z ?_;refine fM Z ?_;refine Run.fin Z (z3.go ?_);exact .t (by rw [hR];try simp only [z0,z1])
   have n3:¬ d.kind=3:=by simpa using k1
   rw [w0g n3] at hR;refine fR Z ?_;refine Run.cond Z Z (fun k1=>?_) (fun k1=>?_)
   ·have h':d.kind=4:=by simpa using k1
    rw [w0e h'] at hR;refine fR Z ?_;refine caG Z Z (fun hg=>⟨_,rfl,hm2,rfl⟩) Z Z ?_;refine fM Z ?_;refine Run.fin Z (z3.go ?_);exact .t (by rw [hR];try simp only [z0,z1])
   have n4:¬ d.kind=4:=by simpa using k1
   rw [w0g n4] at hR;refine fR Z ?_;refine Run.cond Z Z (fun k1=>?_) (fun k1=>?_)
   ·have h':d.kind=5:=by simpa using k1
    rw [w0e h'] at hR;refine fR Z ?_;refine lMG Z Z Z Z ?_;refine fM Z ?_;refine caG Z Z (fun hg=>⟨_,rfl,hin,rfl⟩) Z Z ?_;refine fM Z ?_;refine Run.fin Z (z3.go ?_);exact .t (by rw [hR];try simp only [z0,z1])
   have n5:¬ d.kind=5:=by simpa using k1
   rw [w0g n5] at hR;refine fR Z ?_;refine Run.fin Z (z3.go ?_);exact .t (by rw [hR];try simp only [z0,z1])
  ·intro i x r _ h1 hi hd2 hinv ih;have hc:=K.nm x;rw [Q9 h1] at hinv;generalize zo x=b8 at hc hinv;refine fR Z ?_;refine lM Z Z Z ?_;refine fM Z ?_;refine Run.zb Z Z (by simp;omega) ?_;refine fR Z ?_;refine Mid.z6 Z Z Z h1 Z Z ?_;refine fM Z ?_;refine Mid.call (hc) Z Z Z Z ?_;refine fM Z ?_
   cases b8 with
   |false=>
    rw [w18] at hinv;rw [hinv,w18] at hR;subst hR;refine Run.zb Z Z Z ?_;refine fR Z ?_;refine Run.fin Z (z3.go ?_);exact .t Z
   |true=>
    rw [w1b] at hinv;refine Run.z9 Z Z Z ?_;refine fR Z ?_;refine aL Z Z Z Z Z ?_;refine fM Z ?_;exact zd 1 Z (ih () hinv) Z Z Z
theorem z0C (H:PrR P) (K:R6 P zo litF refF) (ds:List Def) (hD:Z2 ds):z5 P 23 [yY ds] ⟨[],0⟩ {v:= .t (.bool (z83 zo litF refF ds))}:=by
 by_cases hb:1<=ds.length/\ds.length<=64
 ·have hR:z83 zo litF refF ds=ds.all (z3J zo litF refF):=by simp [z83,hb.1,hb.2]
  rw [hR];generalize hR2:ds.all (z3J zo litF refF)=R;refine z5.run H.i23 H.mixed Z Z ?_;refine fR Z ?_;refine lM Z Z Z ?_;refine fM Z ?_;refine lMG Z Z Z Z ?_;refine fM Z ?_;refine Run.z9 Z Z (by simp;omega) ?_;refine fR Z ?_;refine zn ds (fun i (_:Unit)=>{env:=[(1,.ptr 0 0),(3,.t (.int .i64 i))],s:=⟨[(0,.cells [.t (.lst (ds.map Def.enc))])],1⟩}) (fun r i _=>(ds.drop i).all (z3J zo litF refF)=R) 1 () Z hR2 Z Z Z ?_ ?_
  ·intro _ hinv;rw [Wx] at hinv;subst hinv;refine fR Z ?_;refine lM Z Z Z ?_;refine fM Z ?_;refine Run.z9 Z Z (by simp) ?_;refine fR Z ?_;refine Run.fin Z (z3.go ?_);exact .t Z
  ·intro i x r _ h1 hi hd hinv ih;have hc:=zeE H K x (hD.d x (zMG h1));rw [Q9 h1] at hinv;generalize z3J zo litF refF x=b1 at hc hinv;refine fR Z ?_;refine lM Z Z Z ?_;refine fM Z ?_;refine Run.zb Z Z (by simp;omega) ?_;refine fR Z ?_;refine Mid.z6 Z Z Z h1 Z Z ?_;refine fM Z ?_;refine Mid.call (hc) Z Z Z Z ?_;refine fM Z ?_
   cases b1 with
   |false=>
    rw [w18] at hinv;subst hinv;refine Run.zb Z Z Z ?_;refine fR Z ?_;refine Run.fin Z (z3.go ?_);exact .t Z
   |true=>
    rw [w1b] at hinv;refine Run.z9 Z Z Z ?_;refine fR Z ?_;refine aL Z Z Z Z Z ?_;refine fM Z ?_;exact zd 1 Z (ih () hinv) Z Z Z
 ·have hR:z83 zo litF refF ds=false:=by
   simp only [z83,Bool.and_eq_false_iff,w1u];omega
  rw [hR];refine z5.run H.i23 H.mixed Z Z ?_;refine fR Z ?_;refine lM Z Z Z ?_;refine fM Z ?_;refine lMG Z Z Z Z ?_;refine fM Z ?_;refine Run.zb Z Z (by simp;omega) ?_;refine fR Z ?_;refine Run.fin Z (z3.go ?_);exact .t Z
end Go.GB.C29
namespace Go.GB.C11
open Go.GB
structure Pr (P:Program):Prop where
 mixed:P.follows .mixedOrders=true
 i22:z7 P 22=some (n22,c22.bare,r22)
 i18:z7 P 18=some (n18,c18.bare,r18)
 i51:z7 P 51=some (n51,c51.bare,r51)
 i70:z7 P 70=some (n70,c70.bare,r70)
 i105:z7 P 105=some (n105,c105.bare,r105)
 i176:z7 P 176=some (n176,c176.bare,r176)
 i153:z7 P 153=some (n153,c153.bare,r153)
 i159:z7 P 159=some (n159,c159.bare,r159)
 i24:z7 P 24=some (n24,c24.bare,r24)
 i12:z7 P 12=some (n12,c12.bare,r12)
 i13:z7 P 13=some (n13,c13.bare,r13)
 i36:z7 P 36=some (n36,c36.bare,r36)
 i111:z7 P 111=some (n111,c111.bare,r111)
 i28:z7 P 28=some (n28,c28.bare,r28)
 i125:z7 P 125=some (n125,c125.bare,r125)
 i148:z7 P 148=some (n148,c148.bare,r148)
 i118:z7 P 118=some (n118,c118.bare,r118)
 i120:z7 P 120=some (n120,c120.bare,r120)
 i128:z7 P 128=some (n128,c128.bare,r128)
 i106:z7 P 106=some (n106,c106.bare,r106)
 i76:z7 P 76=some (n76,c76.bare,r76)
 i136:z7 P 136=some (n136,c136.bare,r136)
 i77:z7 P 77=some (n77,c77.bare,r77)
 i99:z7 P 99=some (n99,c99.bare,r99)
 i146:z7 P 146=some (n146,c146.bare,r146)
 i97:z7 P 97=some (n97,c97.bare,r97)
 i95:z7 P 95=some (n95,c95.bare,r95)
 i62:z7 P 62=some (n62,c62.bare,r62)
 i63:z7 P 63=some (n63,c63.bare,r63)
 i64:z7 P 64=some (n64,c64.bare,r64)
 i65:z7 P 65=some (n65,c65.bare,r65)
 i132:z7 P 132=some (n132,c132.bare,r132)
 i84:z7 P 84=some (n84,c84.bare,r84)
 i85:z7 P 85=some (n85,c85.bare,r85)
 i163:z7 P 163=some (n163,c163.bare,r163)
 i149:z7 P 149=some (n149,c149.bare,r149)
 i150:z7 P 150=some (n150,c150.bare,r150)
 i79:z7 P 79=some (n79,c79.bare,r79)
 i135:z7 P 135=some (n135,c135.bare,r135)
 i145:z7 P 145=some (n145,c145.bare,r145)
 i144:z7 P 144=some (n144,c144.bare,r144)
 i102:z7 P 102=some (n102,c102.bare,r102)
 i143:z7 P 143=some (n143,c143.bare,r143)
 i112:z7 P 112=some (n112,c112.bare,r112)
 i113:z7 P 113=some (n113,c113.bare,r113)
 i114:z7 P 114=some (n114,c114.bare,r114)
 i115:z7 P 115=some (n115,c115.bare,r115)
 i60:z7 P 60=some (n60,c60.bare,r60)
 i116:z7 P 116=some (n116,c116.bare,r116)
 i165:z7 P 165=some (n165,c165.bare,r165)
 i155:z7 P 155=some (n155,c155.bare,r155)
 i156:z7 P 156=some (n156,c156.bare,r156)
 i157:z7 P 157=some (n157,c157.bare,r157)
 i158:z7 P 158=some (n158,c158.bare,r158)
 i88:z7 P 88=some (n88,c88.bare,r88)
 i32:z7 P 32=some (n32,c32.bare,r32)
 i174:z7 P 174=some (n174,c174.bare,r174)
 i175:z7 P 175=some (n175,c175.bare,r175)
 i78:z7 P 78=some (n78,c78.bare,r78)
variable {P:Program}
def ze (n:Str):List Def->Option Def
 |[]=>none
 |d::r=>if (d.name==n)=true then some d else ze n r
theorem wu {n:Str}:∀{l:List Def} {d:Def},ze n l=some d->d∈l
 |[],d,h=>by simp [ze] at h
 |x::r,d,h=>by
  simp only [ze] at h;split at h
  ·cases h;exact w1x ..
  ·exact w0k _ (wu h)
def zu (n:Str):List Field->Option Field
 |[]=>none
 |d::r=>if (d.name==n)=true then some d else zu n r
theorem WI {n:Str}:∀{l:List Field} {d:Field},zu n l=some d->d∈l
 |[],d,h=>by simp [zu] at h
 |x::r,d,h=>by
  simp only [zu] at h;split at h
  ·cases h;exact w1x ..
  ·exact w0k _ (WI h)
theorem z15 (H:Pr P) (ds:List Def) (hl:ds.length<=140737488355328) (n:Str):z5 P 28 [yY ds,.t (.str n)] ⟨[],0⟩ {v:= .tup [((ze n ds).getD Def.zero).v,.t (.bool (ze n ds).isSome)]}:=by
 refine z5.run H.i28 H.mixed Z Z ?_;refine fR Z ?_;refine lM Z Z Z ?_;refine fM Z ?_;refine zn ds (fun i (_:Unit)=>{env:=[(1,.t (.str n)),(4,.ptr 1 0),(9,.t (.lst (ds.map Def.enc))),(10,.t (.int .i64 ds.length)),(11,.t (.int .i64 i))],s:=⟨[(1,.cells [.t (.int .i64 0),.t (.str []),.zp,.zp,.zp,.zp,.zp])],2⟩}) (fun r i _=>ze n ds=ze n r) 2 () Z Z Z Z Z ?_ ?_
 ·intro _ hinv;refine fR Z ?_;refine Run.z9 Z Z (by simp) ?_;refine fR Z ?_
  have e:ze n ds=none:=by rw [hinv];rfl
  rw [e];refine Run.fin Z (z3.go ?_);exact .ZG (.agg (.cons (.t Z) (.cons (.t Z) (.cons (.nil Z) (.cons (.nil Z) (.cons (.nil Z) (.cons (.nil Z) (.cons (.nil Z) .nil)))))))) (.t Z)
 ·intro i x r _ h1 hi hd hinv ih;refine fR Z ?_;refine Run.zb Z Z (by simp;omega) ?_;refine fR Z ?_;refine Mid.z6 Z Z Z h1 Z Z ?_;refine fM Z ?_;refine Run.cond Z Z (fun h=>?_) (fun h=>?_)
  ·refine fR Z ?_
   have e:ze n ds=some x:=by rw [hinv];simp only [ze];rw [w0e h]
   rw [e];refine Run.fin Z (z3.go ?_);exact .ZG (.le (.same Z)) (.t Z)
  ·refine fR Z ?_;refine aL Z Z Z Z Z ?_;refine fM Z ?_
   have h':¬ (x.name==n)=true:=by rw [h];simp
   exact zd 2 Z (ih () (by rw [hinv];simp only [ze];rw [w0g h'])) Z Z Z
theorem qJ (H:Pr P) (d:Def) (hl:d.fields.length<=140737488355328) (n:Str):z5 P 85 [d.v,.t (.str n)] ⟨[],0⟩ {v:= .tup [((zu n d.fields).getD Field.zero).v,.t (.bool (zu n d.fields).isSome)]}:=by
 refine z5.run H.i85 H.mixed Z Z ?_;refine fR Z ?_;refine lM Z Z Z ?_;refine fM Z ?_;refine zn d.fields (fun i (_:Unit)=>{env:=[(1,.t (.str n)),(4,.ptr 1 0),(9,.t (.lst ((d.fields).map Field.enc))),(10,.t (.int .i64 (d.fields).length)),(11,.t (.int .i64 i))],s:=⟨[(1,.cells [.t (.str []),.zp,.t (.str []),.zp,.zp])],2⟩}) (fun r i _=>zu n (d.fields)=zu n r) 2 () Z Z Z Z Z ?_ ?_
 ·intro _ hinv;refine fR Z ?_;refine Run.z9 Z Z (by simp) ?_;refine fR Z ?_
  have e:zu n (d.fields)=none:=by rw [hinv];rfl
  rw [e];refine Run.fin Z (z3.go ?_);exact .ZG (.agg (.cons (.t Z) (.cons (.nil Z) (.cons (.t Z) (.cons (.nil Z) (.cons (.nil Z) .nil)))))) (.t Z)
 ·intro i x r _ h1 hi hd hinv ih;refine fR Z ?_;refine Run.zb Z Z (by simp;omega) ?_;refine fR Z ?_;refine Mid.z6 Z Z Z h1 Z Z ?_;refine fM Z ?_;refine Run.cond Z Z (fun h=>?_) (fun h=>?_)
  ·refine fR Z ?_
   have e:zu n (d.fields)=some x:=by rw [hinv];simp only [zu];rw [w0e h]
   rw [e];refine Run.fin Z (z3.go ?_);exact .ZG (.le (.same Z)) (.t Z)
  ·refine fR Z ?_;refine aL Z Z Z Z Z ?_;refine fM Z ?_
   have h':¬ (x.name==n)=true:=by rw [h];simp
   exact zd 2 Z (ih () (by rw [hinv];simp only [zu];rw [w0g h'])) Z Z Z
theorem yn (H:Pr P) (ds:List Def) (hl:ds.length<=140737488355328) (n:Str):z5 P 12 [yY ds,.t (.str n)] ⟨[],0⟩ {v:= .tup [((ze n ds).getD Def.zero).v,.t (.bool (ze n ds).isSome)]}:=by
 refine z5.run H.i12 H.mixed Z Z ?_;refine fR Z ?_;refine zn ds (fun i (_:Unit)=>{env:=[(1,.t (.str n)),(2,.ptr 0 0),(4,.ptr 1 0),(6,.t (.int .i64 i))],s:=⟨[(0,.cells [.t (.lst (ds.map Def.enc))]),(1,.cells [.t (.int .i64 0),.t (.str []),.zp,.zp,.zp,.zp,.zp])],2⟩}) (fun r i _=>ze n (ds)=ze n r) 2 () Z Z Z Z Z ?_ ?_
 ·intro _ hinv;refine fR Z ?_;refine lM Z Z Z ?_;refine fM Z ?_;refine Run.z9 Z Z (by simp) ?_;refine fR Z ?_
  have e:ze n (ds)=none:=by rw [hinv];rfl
  rw [e];refine Run.fin Z (z3.go ?_);exact .ZG (.agg (.cons (.t Z) (.cons (.t Z) (.cons (.nil Z) (.cons (.nil Z) (.cons (.nil Z) (.cons (.nil Z) (.cons (.nil Z) .nil)))))))) (.t Z)
 ·intro i x r _ h1 hi hd hinv ih;refine fR Z ?_;refine lM Z Z Z ?_;refine fM Z ?_;refine Run.zb Z Z (by simp;omega) ?_;refine fR Z ?_;refine Mid.z6 Z Z Z h1 Z Z ?_;refine fM Z ?_;refine Run.cond Z Z (fun h=>?_) (fun h=>?_)
  ·refine fR Z ?_;refine Mid.z6 Z Z Z h1 Z Z ?_;refine fM Z ?_
   have e:ze n (ds)=some x:=by rw [hinv];simp only [ze];rw [w0e h]
   rw [e];refine Run.fin Z (z3.go ?_);exact .ZG (.le (.same Z)) (.t Z)
  ·refine fR Z ?_;refine aL Z Z Z Z Z ?_;refine fM Z ?_
   have h':¬ (x.name==n)=true:=by rw [h];simp
   exact zd 2 Z (ih () (by rw [hinv];simp only [ze];rw [w0g h'])) Z Z Z
theorem yL (H:Pr P) (d:Def) (hl:d.fields.length<=140737488355328) (n:Str):z5 P 13 [d.v,.t (.str n)] ⟨[],0⟩ {v:= .tup [((zu n d.fields).getD Field.zero).v,.t (.bool (zu n d.fields).isSome)]}:=by
 refine z5.run H.i13 H.mixed Z Z ?_;refine fR Z ?_;refine zn d.fields (fun i (_:Unit)=>{env:=[(1,.t (.str n)),(2,.ptr 0 0),(4,.ptr 1 0),(6,.t (.int .i64 i))],s:=⟨[(0,(TCo d)),(1,.cells [.t (.str []),.zp,.t (.str []),.zp,.zp])],2⟩}) (fun r i _=>zu n (d.fields)=zu n r) 2 () Z Z Z Z Z ?_ ?_
 ·intro _ hinv;refine fR Z ?_;refine lM Z Z Z ?_;refine fM Z ?_;refine Run.z9 Z Z (by simp) ?_;refine fR Z ?_
  have e:zu n (d.fields)=none:=by rw [hinv];rfl
  rw [e];refine Run.fin Z (z3.go ?_);exact .ZG (.agg (.cons (.t Z) (.cons (.nil Z) (.cons (.t Z) (.cons (.nil Z) (.cons (.nil Z) .nil)))))) (.t Z)
 ·intro i x r _ h1 hi hd hinv ih;refine fR Z ?_;refine lM Z Z Z ?_;refine fM Z ?_;refine Run.zb Z Z (by simp;omega) ?_;refine fR Z ?_;refine Mid.z6 Z Z Z h1 Z Z ?_;refine fM Z ?_;refine Run.cond Z Z (fun h=>?_) (fun h=>?_)
  ·refine fR Z ?_;refine Mid.z6 Z Z Z h1 Z Z ?_;refine fM Z ?_
   have e:zu n (d.fields)=some x:=by rw [hinv];simp only [zu];rw [w0e h]
   rw [e];refine Run.fin Z (z3.go ?_);exact .ZG (.le (.same Z)) (.t Z)
  ·refine fR Z ?_;refine aL Z Z Z Z Z ?_;refine fM Z ?_
   have h':¬ (x.name==n)=true:=by rw [h];simp
   exact zd 2 Z (ih () (by rw [hinv];simp only [zu];rw [w0g h'])) Z Z Z
def YZ (s:Str):List Str->Int->Int
 |[],_=>-1
 |x::r,i=>if (s==x)=true then i else YZ s r (i+1)
theorem zbV (H:Pr P) (l:List Str) (hl:l.length<=140737488355328) (s:Str):z5 P 84 [.t (.lst (l.map sE)),.t (.str s)] ⟨[],0⟩ {v:= .t (.int .i64 (YZ s l 0))}:=by
 refine z5.run H.i84 H.mixed Z Z ?_;refine fR Z ?_;refine lM Z Z Z ?_;refine fM Z ?_;refine zn l (fun i (_:Unit)=>{env:=[(0,.t (.lst (l.map sE))),(1,.t (.str s)),(7,.t (.int .i64 l.length)),(8,.t (.int .i64 i))],s:=⟨[],0⟩}) (fun r i _=>YZ s l 0=YZ s r i) 0 () Z Z Z Z Z ?_ ?_
 ·intro _ hinv;refine fR Z ?_;refine Run.z9 Z Z (by simp) ?_;refine fR Z ?_;refine Run.fin Z (z3.go ?_);exact .t (by rw [hinv];simp [YZ])
 ·intro i x r _ h1 hi hd hinv ih;refine fR Z ?_;refine Run.zb Z Z (by simp;omega) ?_;refine fR Z ?_;refine Mid.z6 Z Z Z h1 Z Z ?_;refine fM Z ?_;refine Run.cond Z Z (fun h=>?_) (fun h=>?_)
  ·refine fR Z ?_;refine Run.fin Z (z3.go ?_);exact .t (by rw [hinv];simp only [YZ];rw [w0e h])
  ·refine fR Z ?_;refine aL Z Z Z Z Z ?_;refine fM Z ?_
   have h':¬ (s==x)=true:=by rw [h];simp
   exact zd 0 Z (ih () (by rw [hinv];simp only [YZ];rw [w0g h'];rfl)) Z Z Z
theorem z44 (s:Str):∀(l:List Str) (i:Int),0<=i->(decide (YZ s l i≥0))=decide (s∈l)
 |[],i,_=>by simp [YZ]
 |x::r,i,hi=>by
  by_cases h:s=x
  ·subst h;simp [YZ,hi]
  ·have h':¬ (s==x)=true:=by simpa using h
   have e:YZ s (x::r) i=YZ s r (i+1):=by simp only [YZ];rw [w0g h']
   rw [e,z44 s r (i+1) (by omega)];simp [h]
theorem Qo (H:Pr P) (l:List Str) (hl:l.length<=140737488355328) (s:Str):z5 P 36 [.t (.lst (l.map sE)),.t (.str s)] ⟨[],0⟩ {v:= .t (.bool (decide (s∈l)))}:=by
 refine z5.run H.i36 H.mixed Z Z ?_;refine fR Z ?_;refine Mid.call (zbV H l hl s) Z Z Z Z ?_;refine fM Z ?_;refine Run.fin Z (z3.go ?_);exact .t (by rw [←z44 s l 0 (by omega)])
end Go.GB.C11
namespace Go.GB.C11
open Go.GB
variable {P:Program}
theorem z5S (a b:Int):(a !=b)=!(a==b):=rfl
theorem z5A (H:Pr P) (l:List Str) (hl:l.length<=140737488355328) (s:Str):z5 P 118 [.t (.lst (l.map sE)),.t (.str s)] ⟨[],0⟩ {v:= .t (.bool (decide (s∈l)))}:=by
 refine z5.run H.i118 H.mixed Z Z ?_;refine fR Z ?_;refine zn l (fun i (_:Unit)=>{env:=[(0,.t (.lst (l.map sE))),(1,.t (.str s)),(5,.t (.int .i64 i))],s:=⟨[],0⟩}) (fun r i _=>decide (s∈l)=decide (s∈r)) 0 () Z Z Z Z Z ?_ ?_
 ·intro _ hinv;refine fR Z ?_;refine lM Z Z Z ?_;refine fM Z ?_;refine Run.z9 Z Z (by simp) ?_;refine fR Z ?_;refine Run.fin Z (z3.go ?_);exact .t (by rw [hinv];simp)
 ·intro i x r _ h1 hi hd hinv ih;refine fR Z ?_;refine lM Z Z Z ?_;refine fM Z ?_;refine Run.zb Z Z (by simp;omega) ?_;refine fR Z ?_;refine Mid.z6 Z Z Z h1 Z Z ?_;refine fM Z ?_;refine Run.cond Z Z (fun h=>?_) (fun h=>?_)
  ·have h':x=s:=by simpa using h
   refine fR Z ?_;refine Run.fin Z (z3.go ?_);exact .t (by rw [hinv];simp [h'])
  ·have h':¬ x=s:=by simpa using h
   have h2:¬ s=x:=fun e=>h' e.symm;refine fR Z ?_;refine aL Z Z Z Z Z ?_;refine fM Z ?_;exact zd 0 Z (ih () (by rw [hinv];simp [h2])) Z Z Z
def Wl (l:List zh) (n:Str):Bool:=l.any fun m=>m.name==n
theorem z4u (H:Pr P) (t:Def) (hl:t.members.length<=140737488355328) (n:Str):z5 P 120 [t.v,.t (.str n)] ⟨[],0⟩ {v:= .t (.bool (Wl t.members n))}:=by
 refine z5.run H.i120 H.mixed Z Z ?_;refine fR Z ?_;refine zn t.members (fun i (_:Unit)=>{env:=[(1,.t (.str n)),(2,.ptr 0 0),(5,.t (.int .i64 i))],s:=⟨[(0,(TCo t))],1⟩}) (fun r i _=>Wl t.members n=Wl r n) 1 () Z Z Z Z Z ?_ ?_
 ·intro _ hinv;refine fR Z ?_;refine lM Z Z Z ?_;refine fM Z ?_;refine Run.z9 Z Z (by simp) ?_;refine fR Z ?_;refine Run.fin Z (z3.go ?_);exact .t (by rw [hinv];rfl)
 ·intro i x r _ h1 hi hd hinv ih;refine fR Z ?_;refine lM Z Z Z ?_;refine fM Z ?_;refine Run.zb Z Z (by simp;omega) ?_;refine fR Z ?_;refine Mid.z6 Z Z Z h1 Z Z ?_;refine fM Z ?_;refine Run.cond Z Z (fun h=>?_) (fun h=>?_)
  ·refine fR Z ?_;refine Run.fin Z (z3.go ?_);exact .t (by rw [hinv];simp only [Wl,w1d,h,Bool.true_or])
  ·refine fR Z ?_;refine aL Z Z Z Z Z ?_;refine fM Z ?_;exact zd 1 Z (ih () (by rw [hinv];simp only [Wl,w1d,h,w1z])) Z Z Z
theorem z02 (H:Pr P) (t:Def) (ht:t.Ok) (n:Str):z5 P 125 [t.v,.t (.str n)] ⟨[],0⟩ {v:= .t (.bool (decide (n∈t.implements)))}:=by
 refine z5.run H.i125 H.mixed Z Z ?_;refine fR Z ?_;refine Mid.call (Qo H t.implements ht.il n) Z Z Z Z ?_;refine fM Z ?_;refine Run.fin Z (z3.go ?_);exact .t Z
def ZK (pre:List Def) (n:Str):Bool:=!(pre.any fun x=>x.name==n)
theorem z0Q (H:Pr P) (ds:List Def) (hl:ds.length<=140737488355328) (i:Nat) (x:Def) (h:ds[i]?=some x):z5 P 148 [yY ds,.t (.int .i64 i)] ⟨[],0⟩ {v:= .t (.bool (ZK (ds.take i) x.name))}:=by
 have hi:i<ds.length:=(w02.1 h).1
 have hlt:(ds.take i).length=i:=by simp;omega
 refine z5.run H.i148 H.mixed Z Z ?_;refine fR Z ?_;refine zn (ds.take i) (fun j (_:Unit)=>{env:=[(1,.t (.int .i64 i)),(2,.ptr 0 0),(5,.t (.int .i64 j))],s:=⟨[(0,.cells [.t (.lst (ds.map Def.enc))])],1⟩}) (fun r j _=>ZK (ds.take i) x.name=ZK r x.name) 1 () Z Z Z Z Z ?_ ?_
 ·intro _ hinv;refine fR Z ?_;refine Run.z9 Z Z (by rw [hlt];simp) ?_;refine fR Z ?_;refine Run.fin Z (z3.go ?_);exact .t (by rw [hinv];rfl)
 ·intro j y r _ h2 hj hd hinv ih
  have h2':ds[j]?=some y:=by rw [w0p] at h2;split at h2;exact h2;cases h2
  have hj':j<i:=by omega
  refine fR Z ?_;refine Run.zb Z Z (by simp;omega) ?_;refine fR Z ?_;refine Mid.z6 Z Z Z h2' Z Z ?_;refine fM Z ?_;refine Mid.z6 Z Z Z h Z Z ?_;refine fM Z ?_;refine Run.cond Z Z (fun he=>?_) (fun he=>?_)
  ·refine fR Z ?_;refine Run.fin Z (z3.go ?_);exact .t (by rw [hinv];simp only [ZK,w1d,he,Bool.true_or,Bool.not_true])
  ·refine fR Z ?_;refine aL Z Z Z Z Z ?_;refine fM Z ?_;exact zd 1 Z (ih () (by rw [hinv];simp only [ZK,w1d,he,w1z])) Z Z Z
def isP (t:Def) (nm:Str) (o:Def):Bool:=(t.kind==1&&o.name==nm)||(t.kind==2&&decide (nm∈o.implements))||(t.kind==3&&Wl t.members o.name)
def wq (t:Def) (nm:Str):List Def->List Def->List Str
 |_,[]=>[]
 |pre,o::r=>if (o.kind==1&&ZK pre o.name&&isP t nm o)=true then o.name::wq t nm (pre++[o]) r else wq t nm (pre++[o]) r
def Yg (ds:List Def) (nm:Str):List Str:=
 match ze nm ds with
 |none=>[]
 |some t=>wq t nm [] ds
theorem z0K {ds:List Def} (hD:Z2 ds) (n:Str):((ze n ds).getD Def.zero).Ok:=by
 cases h:ze n ds with
 |none=>exact Def.Yp
 |some t=>exact hD.d t (wu h)
theorem qH (H:Pr P) (ds:List Def) (hD:Z2 ds) (nm:Str):z5 P 105 [yY ds,.t (.str nm)] ⟨[],0⟩ {v:= .t (.lst ((Yg ds nm).map sE))}:=by
 have hl:=hD.l;have hlb:=hD.lb;have hT:=z0K hD nm
 have hpos:Yg ds nm=if (ze nm ds).isSome=true then wq ((ze nm ds).getD Def.zero) nm [] ds else []:=by
  unfold Yg;cases ze nm ds<;>rfl
 refine z5.run H.i105 H.mixed Z Z ?_;refine fR Z ?_;refine Mid.call (yn H ds hl nm) Z Z Z Z ?_;refine fM Z ?_;generalize (ze nm ds).isSome=b at hpos;generalize (ze nm ds).getD Def.zero=t at hpos hT
 refine zn ds (fun i (B:List Str)=>{env:=[(1,.t (.str nm)),(2,.ptr 0 0),(5,.own 2 1 (B.map sE)),(6,.ptr 1 0),(7,.t (.bool b)),(8,.t (.int .i64 i))],s:=⟨[(0,.cells [.t (.lst (ds.map Def.enc))]),(1,(TCo t)),(2,.arr B.length)],3⟩}) (fun r i B=>B.length<=i/\(b=false->B=[])/\Yg ds nm=if b=true then B++wq t nm (ds.take i) r else []) 2 [] Z ⟨by simp,fun _=>rfl,by rw [hpos];simp⟩ rfl rfl rfl ?_ ?_
 ·rintro B ⟨_,hB0,hB⟩
  cases b with
  |true=>
   obtain rfl:B=Yg ds nm:=by rw [hB];simp [wq]
   refine fR Z ?_;refine lM Z Z Z ?_;refine fM Z ?_;refine Run.z9 Z Z (by simp) ?_;refine fR Z ?_;refine Run.fin Z (z3.go ?_);exact .own Z
  |false=>
   obtain rfl:B=[]:=hB0 rfl
   have hB':Yg ds nm=[]:=by simpa using hB
   refine fR Z ?_;refine lM Z Z Z ?_;refine fM Z ?_;refine Run.z9 Z Z (by simp) ?_;refine fR Z ?_;rw [hB'];refine Run.fin Z (z3.go ?_);exact .own Z
 ·rintro i x r B h1 hi hd ⟨hBl,hB0,hB⟩ ih;have hBl':B.length<=i:=hBl
  have htk:ds.take i++[x]=ds.take (i+1):=by rw [w1f,h1];rfl
  have hx:=hD.d x (zMG h1)
  cases b with
  |true=>
   have hB':Yg ds nm=B++wq t nm (ds.take i) (x::r):=by simpa using hB
   refine fR Z ?_;refine lM Z Z Z ?_;refine fM Z ?_;refine Run.zb Z Z (by simp;omega) ?_;refine fR Z ?_;refine Mid.z6 Z Z Z h1 Z Z ?_;refine fM Z ?_;refine caG Z Z (fun hg=>⟨_,rfl,z0Q H ds hl i x h1,rfl⟩) Z Z ?_;refine fM Z ?_;refine Run.cond Z Z (fun hc=>?_) (fun hc=>?_)
   ·have hn:(x.kind==1&&ZK (ds.take i) x.name&&isP t nm x)=false:=by
     have:(x.kind==1&&ZK (ds.take i) x.name)=false:=by rw [z5S] at hc;revert hc;cases (x.kind==1)<;>cases (ZK (ds.take i) x.name)<;>simp
     rw [this];rfl
    refine fR Z ?_;refine aL Z Z Z Z Z ?_;refine fM Z ?_;exact zd 3 Z (ih B ⟨by omega,by simp,by rw [hB'];simp only [wq,hn];rw [htk];rfl⟩) rfl rfl rfl
   ·have hn:(x.kind==1&&ZK (ds.take i) x.name)=true:=by rw [z5S] at hc;revert hc;cases (x.kind==1)<;>cases (ZK (ds.take i) x.name)<;>simp
    refine fR Z ?_;refine caG Z Z (fun hg=>⟨_,rfl,z5A H x.implements hx.il nm,rfl⟩) Z Z ?_;refine fM Z ?_;refine caG Z Z (fun hg=>⟨_,rfl,z4u H t hT.ml x.name,rfl⟩) Z Z ?_;refine fM Z ?_;refine Run.cond Z Z (fun hp=>?_) (fun hp=>?_)
    ·have hp':isP t nm x=true:=by simpa [isP] using hp
     refine fR Z ?_;refine apM sE B [x.name] Z Z Z Z Z ?_;refine fM Z ?_;refine aL Z Z Z Z Z ?_;refine fM Z ?_;exact zd 3 Z (ih (B++[x.name]) ⟨by simp;omega,by simp,by rw [hB'];simp only [wq,hn,hp'];rw [htk];simp⟩) rfl rfl rfl
    ·have hp':isP t nm x=false:=by simpa [isP] using hp
     refine fR Z ?_;refine aL Z Z Z Z Z ?_;refine fM Z ?_;exact zd 3 Z (ih B ⟨by omega,by simp,by rw [hB'];simp only [wq,hn,hp'];rw [htk];simp⟩) rfl rfl rfl
  |false=>
   obtain rfl:B=[]:=hB0 rfl
   have hB':Yg ds nm=[]:=by simpa using hB
   refine fR Z ?_;refine lM Z Z Z ?_;refine fM Z ?_;refine Run.z9 Z Z (by simp) ?_;refine fR Z ?_;rw [hB'];refine Run.fin Z (z3.go ?_);exact .own Z
end Go.GB.C11
namespace Go.GB.C11
open Go.GB
variable {P:Program}
def bE (b:Bool):T:= .bool b
def y7 (M:List (Str×Bool)) (k:Str):Bool:=(YN k M).isSome
theorem z1e (M:List (Str×Bool)) (x:Str) (k:Str):y7 (We x true M) k=(x==k||y7 M k):=by
 unfold y7;rw [z4M];by_cases h:k=x
 ·subst h;simp
 ·have h':¬ x=k:=fun e=>h e.symm;simp [h,h']
structure MOk (M:List (Str×Bool)):Prop where
 nd:(M.map (·.1)).Nodup
 tr:∀e,e∈M->e.2=true
theorem MOk.nil:MOk []:=⟨by simp,by simp⟩
theorem zaD {M:List (Str×Bool)} {x:Str} {v:Bool}:∀{e:Str×Bool},e∈We x v M->e=(x,v)∨e∈M:=by
 induction M with
 |nil=>intro e h;simp [We] at h;exact .inl h
 |cons a r ih=>
  intro e h;simp only [We] at h;split at h
  ·rcases w0t.1 h with h|h
   ·exact .inl h
   ·exact .inr (w0k _ h)
  ·rcases w0t.1 h with h|h
   ·exact .inr (h▸w1x ..)
   ·rcases ih h with h|h
    ·exact .inl h
    ·exact .inr (w0k _ h)
theorem MOk.We {M:List (Str×Bool)} (h:MOk M) (x:Str):MOk (We x true M):=
 ⟨(z4B h.nd).1,fun e he=>by rcases zaD he with rfl|he;rfl;exact h.tr e he⟩
theorem zbm {M:List (Str×Bool)} {k:Str} (h:y7 M k=true):∃e,e∈M/\e.1=k:=by
 unfold y7 at h
 induction M with
 |nil=>simp [YN] at h
 |cons a r ih=>
  simp only [YN] at h;split at h
  ·rename_i e;exact ⟨a,w1x ..,e.symm⟩
  ·obtain ⟨e,h1,h2⟩:=ih h;exact ⟨e,w0k _ h1,h2⟩
theorem MOk.get {M:List (Str×Bool)} (h:MOk M) (k:Str):(YN k M).getD false=y7 M k:=by
 have h2:=h.tr;unfold y7
 induction M with
 |nil=>rfl
 |cons a r ih=>
  simp only [YN];split
  ·simp [h2 a (w1x ..)]
  ·exact ih ⟨(w15.1 (by simpa using h.nd)).2,fun e he=>h2 e (w0k _ he)⟩ fun e he=>h2 e (w0k _ he)
theorem z6q {κ ν:Type} [DecidableEq κ] {e:κ×ν}:∀{l:List (κ×ν)} {i:Nat},l[i]?=some e->(l.map (·.1)).Nodup->YT e.1 l=l.eraseIdx i
 |[],i,h,_=>by simp at h
 |w::r,0,h,hn=>by simp at h;subst h;simp [YT]
 |w::r,i+1,h,hn=>by
  simp only [w0n,w15] at hn
  have h':r[i]?=some e:=by simpa using h
  have hne:¬ e.1=w.1:=fun heq=>hn.1 (w0m.2 ⟨e,zMG h',heq⟩);simp [YT,hne,z6q h' hn.2]
theorem z3v {M:List (Str×Bool)} (hM:MOk M) {e:Str×Bool} {i:Nat} (h:M[i]?=some e) (k:Str):y7 (M.eraseIdx i) k=(y7 M k&&!(k==e.1)):=by
 unfold y7;rw [←z6q h hM.nd,z04 hM.nd];by_cases hk:k=e.1
 ·simp [hk]
 ·simp [hk]
theorem z9w {M:List (Str×Bool)} (hM:MOk M) (x k:Str):y7 (YT x M) k=(y7 M k&&!(k==x)):=by
 unfold y7;rw [z04 hM.nd];by_cases hk:k=x
 ·simp [hk]
 ·simp [hk]
theorem z9N {M:List (Str×Bool)} (x:Str):(YT x M).Sublist M:=by
 induction M with
 |nil=>exact List.Sublist.refl _
 |cons a r ih=>
  simp only [YT];split
  ·exact List.sublist_cons_self ..
  ·exact ih.cons_cons _
theorem MOk.sub {M M':List (Str×Bool)} (h:MOk M) (hs:M'.Sublist M):MOk M':=
 ⟨h.nd.sublist (hs.map _),fun e he=>h.tr e (hs.subset he)⟩
theorem z0R:∀{bs:List Nat} {i j s:Nat},bs.Nodup->bs[i]?=some s->bs[j]?=some s->i=j
 |[],i,j,s,_,h,_=>by simp at h
 |b::r,0,0,s,_,_,_=>rfl
 |b::r,0,j+1,s,hn,h1,h2=>by
  simp at h1;subst h1;exact absurd (zMG (by simpa using h2)) (w15.1 hn).1
 |b::r,i+1,0,s,hn,h1,h2=>by
  simp at h2;subst h2;exact absurd (zMG (by simpa using h1)) (w15.1 hn).1
 |b::r,i+1,j+1,s,hn,h1,h2=>by
  exact congrArg (· +1) (z0R (w15.1 hn).2 (by simpa using h1) (by simpa using h2))
def z0E (bs seen:List Nat):Nat:=bs.countP fun s=>!decide (s∈seen)
theorem zcN (bs seen:List Nat) (s:Nat):z0E bs (seen++[s])<=z0E bs seen:=by
 unfold z0E;refine List.countP_mono_left fun x _ h=>?_;simp at h⊢;exact h.1
theorem z8j {s:Nat} {seen:List Nat} (hs:s∉seen):∀{bs:List Nat},s∈bs->z0E bs (seen++[s])<z0E bs seen
 |[],h=>by cases h
 |b::r,h=>by
  have hle:=zcN r seen s;unfold z0E at hle⊢;simp only [List.countP_cons]
  rcases w0t.1 h with rfl|h
  ·simp [hs];simp at hle;omega
  ·have ih:=z8j hs h;unfold z0E at ih
   have:(if (!decide (b∈seen++[s]))=true then 1 else 0)<=(if (!decide (b∈seen))=true then 1 else 0):=by
    by_cases hb:b∈seen
    ·simp [hb]
    ·by_cases hbs:b=s<;>simp [hb,hbs]
   omega
theorem z7Y (bs seen:List Nat) (i:Nat):z0E (bs.eraseIdx i) seen<=z0E bs seen:=(List.eraseIdx_sublist ..).countP_le
theorem z1w {α β:Type}:∀(l:List α) (r:List β) (i:Nat),(l.eraseIdx i).zip (r.eraseIdx i)=(l.zip r).eraseIdx i
 |[],r,i=>by simp
 |a::l,[],i=>by cases i<;>simp
 |a::l,b::r,0=>by simp
 |a::l,b::r,i+1=>by simp [z1w l r i]
structure Lp (M:List (Str×Bool)) (bad:Str->Bool) (b:List (Str×Bool)×List Nat×List Nat):Prop where
 ok:MOk b.1
 len:b.2.1.length=b.1.length
 nd:b.2.1.Nodup
 i1:∀k,y7 b.1 k=true->y7 M k=true
 i2:∀k,y7 M k=true->bad k=false->y7 b.1 k=true
 i3:∀p,p∈b.1.zip b.2.1->p.2∈b.2.2->bad p.1.1=false
theorem Lp.ZQ {M:List (Str×Bool)} {bad:Str->Bool} {L:List (Str×Bool)} {bs seen:List Nat} (h:Lp M bad (L,bs,seen)) {i s:Nat} {e:Str×Bool} (he:L[i]?=some e) (hs:bs[i]?=some s) (hb:bad e.1=false):Lp M bad (L,bs,seen++[s]):=by
 refine ⟨h.ok,h.len,h.nd,h.i1,h.i2,fun p hp hps=>?_⟩
 rcases w14.1 hps with hps|hps
 ·exact h.i3 p hp hps
 ·simp at hps;obtain ⟨j,hj⟩:=w0v.1 hp;obtain ⟨h1,h2⟩:=List.getElem?_zip_eq_some.1 hj;rw [hps] at h2;have:=z0R h.nd hs h2;subst this;simp only at h1;rw [he] at h1;simp at h1;rw [←h1];exact hb
theorem Lp.drop {M:List (Str×Bool)} {bad:Str->Bool} {L:List (Str×Bool)} {bs seen:List Nat} (h:Lp M bad (L,bs,seen)) {i s:Nat} {e:Str×Bool} (he:L[i]?=some e) (hs:bs[i]?=some s) (hb:bad e.1=true):Lp M bad (L.eraseIdx i,bs.eraseIdx i,seen++[s]):=by
 have hlen:bs.length=L.length:=h.len;have hok:MOk L:=h.ok
 refine ⟨hok.sub (List.eraseIdx_sublist ..),by show (bs.eraseIdx i).length=(L.eraseIdx i).length;rw [w2b,w2b,hlen],List.Nodup.sublist (List.eraseIdx_sublist ..) h.nd,fun k hk=>?_,fun k hk hkb=>?_,fun p hp hps=>?_⟩
 ·have hk':y7 (L.eraseIdx i) k=true:=hk;rw [z3v hok he] at hk';simp at hk';exact h.i1 k hk'.1
 ·show y7 (L.eraseIdx i) k=true;rw [z3v hok he];have h1:=h.i2 k hk hkb
  have hne:¬ k=e.1:=by rintro rfl;rw [hb] at hkb;cases hkb
  simp [hne];exact h1
 ·have hp':p∈(L.zip bs).eraseIdx i:=by rw [←z1w];exact hp
  have hpm:p∈L.zip bs:=(List.eraseIdx_sublist ..).subset hp'
  rcases w14.1 hps with hps|hps
  ·exact h.i3 p hpm hps
  ·exfalso;simp at hps
   have hz:(bs.eraseIdx i)=((L.zip bs).eraseIdx i).map (·.2):=by
    rw [←z1w];rw [List.map_snd_zip (by rw [w2b,w2b,hlen];exact w09 _)]
   have hmem:s∈bs.eraseIdx i:=by rw [hz,←hps];exact w0m.2 ⟨p,hp',rfl⟩
   obtain ⟨j,hj⟩:=w0v.1 hmem;rw [List.getElem?_eraseIdx] at hj;split at hj
   ·have:=z0R h.nd hs hj;omega
   ·have:=z0R h.nd hs hj;omega
theorem Lp.last {M:List (Str×Bool)} {bad:Str->Bool} {L:List (Str×Bool)} {bs seen:List Nat} (h:Lp M bad (L,bs,seen)) (hall:∀s,s∈bs->s∈seen) (k:Str):y7 L k=(y7 M k&&!(bad k)):=by
 have hlen:bs.length=L.length:=h.len;by_cases hk:y7 L k=true
 ·obtain ⟨e,he,rfl⟩:=zbm hk;obtain ⟨i,hi⟩:=w0v.1 he
  have hil:i<bs.length:=by rw [hlen];exact (w02.1 hi).1
  have hz:(L.zip bs)[i]?=some (e,bs[i]):=List.getElem?_zip_eq_some.2 ⟨hi,by simp [hil]⟩
  have:=h.i3 (e,bs[i]) (zMG hz) (hall _ (by simp));have h1:=h.i1 e.1 hk;simp only at this;rw [hk,h1,this];rfl
 ·have hk':y7 L k=false:=by simpa using hk
  rw [hk'];by_cases h1:y7 M k=true
  ·by_cases h2:bad k=false
   ·exact absurd (h.i2 k h1 h2) hk
   ·have:bad k=true:=by simpa using h2
    simp [this]
  ·have:y7 M k=false:=by simpa using h1
   simp [this]
end Go.GB.C11
namespace Go.GB.C11
open Go.GB
variable {P:Program}
theorem z6b (a b:Str):(a==b)=(b==a):=by
 rw [w1n];simp only [beq_iff_eq];exact eq_comm
def z2B (t:Def) (nm:Str) (ds:List Def) (k:Str):Bool:=
 (t.kind==1&&nm==k)||(t.kind==2&&ds.any (fun x=>decide (nm∈x.implements)&&x.name==k))||(t.kind==3&&Wl t.members k)
def z7j (t:Def) (nm:Str) (ds:List Def) (k:Str):Bool:=
 !(ze k ds).isSome||((ze k ds).getD Def.zero).kind !=1||(t.kind==2&&!(decide (nm∈((ze k ds).getD Def.zero).implements)))
theorem z3u:∀{ds:List Def} {i:Nat} {x:Def},ds[i]?=some x->ZK (ds.take i) x.name=true->ze x.name ds=some x
 |[],i,x,h,_=>by simp at h
 |y::r,0,x,h,_=>by simp at h;subst h;simp [ze]
 |y::r,i+1,x,h,hf=>by
  have hne:¬ (y.name==x.name)=true:=by
   intro e;simp [ZK,e] at hf
  simp only [ze];rw [w0g hne];refine z3u (i:=i) (by simpa using h) ?_;simp only [ZK,List.take_succ_cons,w1d] at hf⊢
  have:(y.name==x.name)=false:=by simpa using hne
  rw [this,w1z] at hf;exact hf
theorem z8T {ds:List Def} {t:Def} {nm:Str} {i:Nat} {x:Def} (h:ds[i]?=some x) (hf:ZK (ds.take i) x.name=true):(z2B t nm ds x.name&&!(z7j t nm ds x.name))=(x.kind==1&&isP t nm x):=by
 have e:=z3u h hf;have hm:x∈ds:=zMG h;unfold z7j z2B isP;rw [e];simp only [Option.isSome_some,w25,Bool.not_true,w1z,z5S];by_cases h2:t.kind=2
 ·have h1:¬ t.kind=1:=by omega
  have h3:¬ t.kind=3:=by omega
  by_cases hx:nm∈x.implements
  ·have:(ds.any fun y=>decide (nm∈y.implements)&&y.name==x.name)=true:=w1v.2 ⟨x,hm,by simp [hx]⟩
   simp [h2,hx,this]
  ·simp [h2,hx]
 ·have e1:(nm==x.name)=(x.name==nm):=z6b _ _
  have h2':(t.kind==2)=false:=by simpa using h2
  simp only [h2',e1,w18,Bool.or_false,Bool.and_comm]
  cases (t.kind==1&&x.name==nm)<;>cases (t.kind==3&&Wl t.members x.name)<;>cases (x.kind==1)<;>rfl
theorem z4L (nm:Str):∀(r pre:List Def),wq Def.zero nm pre r=[]
 |[],pre=>rfl
 |o::r,pre=>by
  have:isP Def.zero nm o=false:=rfl;simp only [wq,this,Bool.and_false,w0h,w0x];exact z4L nm r _
theorem z8q (ds:List Def) (nm:Str):Yg ds nm=wq ((ze nm ds).getD Def.zero) nm [] ds:=by
 unfold Yg
 cases ze nm ds with
 |none=>simp [z4L]
 |some t=>rfl
theorem z20 (l:List Def) (x:Def) (k:Str):ZK (l++[x]) k=(ZK l k&&!(x.name==k)):=by
 simp [ZK,List.any_append,Bool.not_or]
theorem z1W (H:Pr P) (ds:List Def) (hD:Z2 ds) (nm:Str):z5 P 70 [yY ds,.t (.str nm)] ⟨[],0⟩ {v:= .t (.lst ((Yg ds nm).map sE))}:=by
 have hl:=hD.l;have hlb:=hD.lb;have hT:=z0K hD nm;have hpos:=z8q ds nm;refine z5.run H.i70 H.mixed Z Z ?_;refine fR Z ?_;refine Mid.call (z15 H ds hl nm) Z Z Z Z ?_;refine fM Z ?_;generalize (ze nm ds).getD Def.zero=t at hT hpos
 have tail:∀M:List (Str×Bool),MOk M->(∀k,y7 M k=z2B t nm ds k)->Run P n70 (⟨[],0⟩:S).nxt (z3 ⟨[],0⟩ {v:= .t (.lst ((Yg ds nm).map sE))} r70 Ys.ret)
   [It.c (.region false [⟨some 60,none,.mv (.s 7)⟩,⟨some 61,none,.Qk (.s 60)⟩] [] [1,2,5,7,61]),It.c c70_23,It.c c70_13]
   {env:=[(1,.t (.str nm)),(2,.ptr 0 0),(5,.ptr 1 0),(7,.mp 2)],s:=⟨[(0,.cells [.t (.lst (ds.map Def.enc))]),(1,(TCo t)),(2,.map false (mE sE bE M) none)],3⟩}:=by
  intro M hM hMk;refine Run.zc1 (q:=2) Z Z (fun cl bs hbl hbn hblt=>?_);refine fR Z ?_;refine Mid.zdm Z Z Z ?_;refine Mid.WM Z ?_
  refine z7T (β:=List (Str×Bool)×List Nat×List Nat) (fun b=>{env:=[(1,.t (.str nm)),(2,.ptr 0 0),(5,.ptr 1 0),(7,.mp 2),(61,.ptr 3 0)],s:=⟨[(0,.cells [.t (.lst (ds.map Def.enc))]),(1,(TCo t)),(2,.map false (mE sE bE b.1) (some (cl,b.2.1))),(3,.iter 2 cl b.2.2 cl)],4⟩})
   (Lp M (z7j t nm ds)) (fun b=>z0E b.2.1 b.2.2) 4 (M,bs,[]) rfl ⟨hM,by simpa [mE] using hbl,hbn,fun _ h=>h,fun _ h _=>h,fun p hp h=>by cases h⟩ rfl rfl rfl ?_
  rintro ⟨L,bs',seen⟩ hinv ih;refine Run.nxt Z Z Z Z Z (fun hall=>?_) (fun i e s he hs hns=>?_)
  ·have hG:=hinv.last hall;have hLok:MOk L:=hinv.ok;refine fM Z ?_;refine Run.z9 Z Z Z ?_;refine fR Z ?_;refine lM Z Z Z ?_;refine fM Z ?_
   refine zn ds (fun i (B:List Str×List (Str×Bool))=>{env:=[(7,.mp 2),(15,.own 4 1 (B.1.map sE)),(93,.t (.lst (ds.map Def.enc))),(94,.t (.int .i64 ds.length)),(95,.t (.int .i64 i))],s:=⟨[(2,.map false (mE sE bE B.2) none),(4,.arr B.1.length)],5⟩}) (fun r i B=>B.1.length<=i/\MOk B.2/\(∀k,y7 B.2 k=(y7 L k&&ZK (ds.take i) k))/\Yg ds nm=B.1++wq t nm (ds.take i) r) 4 ([],L) Z ⟨by simp,hLok,by intro k;simp [ZK],by rw [hpos];simp⟩ rfl rfl rfl ?_ ?_
   ·rintro ⟨B,N⟩ ⟨_,_,_,hB⟩
    obtain rfl:B=Yg ds nm:=by rw [hB];simp [wq]
    refine fR Z ?_;refine Run.z9 Z Z (by simp) ?_;refine fR Z ?_;refine Run.fin Z (z3.go ?_);exact .own Z
   ·rintro i x r ⟨B,N⟩ h1 hi hd ⟨hBl,hN,hNk,hB⟩ ih2;have hBl':B.length<=i:=hBl;have hNok:MOk N:=hN
    have htk:ds.take i++[x]=ds.take (i+1):=by rw [w1f,h1];rfl
    have hx:=hNk x.name;refine fR Z ?_;refine Run.zb Z Z (by simp;omega) ?_;refine fR Z ?_;refine Mid.z6 Z Z Z h1 Z Z ?_;refine fM Z ?_;refine Mid.zeN (x.name) Z Z Z Z Z (z43) Z ?_;refine fM Z ?_;rw [hNok.get];refine Run.cond Z Z (fun hc=>?_) (fun hc=>?_)
    ·have hc2:y7 L x.name=true/\ZK (ds.take i) x.name=true:=by
      have:y7 N x.name=true:=hc;rw [this] at hx;simpa using hx.symm
     have hg:(x.kind==1&&isP t nm x)=true:=by rw [←z8T h1 hc2.2,←hMk,←hG];exact hc2.1
     have hsel:(x.kind==1&&ZK (ds.take i) x.name&&isP t nm x)=true:=by
      rw [hc2.2,w2a];exact hg
     refine fR Z ?_;refine apM sE B [x.name] Z Z Z Z Z ?_;refine fM Z ?_;refine Mid.zf6 x.name Z Z Z z43 Z ?_;refine fM Z ?_;refine aL Z Z Z Z Z ?_;refine fM Z ?_
     exact zd 5 Z (ih2 (B++[x.name],YT x.name N) ⟨by simp;omega,hNok.sub (z9N _),by
      intro k;show y7 (YT x.name N) k=_;rw [z9w hNok,show y7 N k=_ from hNk k,←htk,z20]
      rw [z6b k x.name,Bool.and_assoc],by rw [hB];simp only [wq];rw [w0e hsel,htk];simp⟩) rfl rfl rfl
    ·have hcN:y7 N x.name=false:=hc
     have hsel:¬ (x.kind==1&&ZK (ds.take i) x.name&&isP t nm x)=true:=by
      intro hs;simp only [w07] at hs
      have hg:(x.kind==1&&isP t nm x)=true:=by rw [hs.1.1,hs.2];rfl
      rw [←z8T h1 hs.1.2,←hMk,←hG] at hg;rw [hcN,hg,hs.1.2] at hx;cases hx
     refine fR Z ?_;refine aL Z Z Z Z Z ?_;refine fM Z ?_
     exact zd 5 Z (ih2 (B,N) ⟨by omega,hNok,by
      intro k;show y7 N k=_;rw [show y7 N k=_ from hNk k,←htk,z20];by_cases e:x.name=k
      ·subst e;rw [show y7 N x.name=_ from hNk x.name] at hcN;rw [hcN];simp
      ·have e':(x.name==k)=false:=by simpa using e
       rw [e'];simp,by rw [hB];simp only [wq];rw [w0g hsel,htk]⟩) rfl rfl rfl
  ·have hbn':bs'.Nodup:=hinv.nd;have hLok:MOk L:=hinv.ok;have hsm:s∈bs':=zMG hs;have hO:=z0K hD e.1;have hil:=hO.il;have hlt:z0E bs' (seen++[s])<z0E bs' seen:=z8j hns hsm;refine fM Z ?_;refine Run.zb Z Z Z ?_;refine fR Z ?_;refine Mid.zf3 (i:=i) (z:=s) Z Z Z (by simp) he hs hbn' Z ?_;refine fM Z ?_;refine Mid.call (z15 H ds hl e.1) Z Z Z Z ?_;refine fM Z ?_;refine caG Z Z (fun hg=>⟨_,rfl,z02 H ((ze e.1 ds).getD Def.zero) hO nm,rfl⟩) Z Z ?_;refine fM Z ?_;refine Run.cond Z Z (fun hb=>?_) (fun hb=>?_)
   ·have hb':z7j t nm ds e.1=true:=by simpa [z7j,z5S] using hb
    refine fR Z ?_;refine Mid.zfy (i:=i) Z Z he hLok.nd Z z43 Z ?_;refine fM Z ?_;exact zd 4 Z (ih (L.eraseIdx i,bs'.eraseIdx i,seen++[s]) (by have:=z7Y bs' (seen++[s]) i;show z0E (bs'.eraseIdx i) (seen++[s])<z0E bs' seen;omega) (hinv.drop he hs hb')) Z Z Z
   ·have hb':z7j t nm ds e.1=false:=by simpa [z7j,z5S] using hb
    skip;exact zd 4 Z (ih (L,bs',seen++[s]) hlt (hinv.ZQ he hs hb')) Z Z Z
 refine Mid.zel sE bE Z ?_;refine fM Z ?_;refine Run.cond Z Z (fun h1=>?_) (fun h1=>?_)
 ·have h1':t.kind=1:=by simpa using h1
  refine fR Z ?_;refine Mid.zdM nm Z Z Z Z z43 Z ?_;refine Mid.WM Z ?_;exact ZD 3 Z (tail (We nm true []) (MOk.nil.We nm) (by intro k;rw [z1e];simp [z2B,h1',y7,YN])) Z Z Z
 ·have h1':¬ t.kind=1:=by simpa using h1
  refine fR Z ?_;refine Run.cond Z Z (fun h2=>?_) (fun h2=>?_)
  ·have h2':t.kind=2:=by simpa using h2
   refine fR Z ?_;refine lM Z Z Z ?_;refine fM Z ?_
   refine zn ds (fun i (M:List (Str×Bool))=>{env:=[(1,.t (.str nm)),(2,.ptr 0 0),(5,.ptr 1 0),(7,.mp 2),(34,.t (.lst (ds.map Def.enc))),(35,.t (.int .i64 ds.length)),(36,.t (.int .i64 i))],s:=⟨[(0,.cells [.t (.lst (ds.map Def.enc))]),(1,(TCo t)),(2,.map false (mE sE bE M) none)],3⟩}) (fun r i M=>MOk M/\∀k,(y7 M k||r.any (fun x=>decide (nm∈x.implements)&&x.name==k))=ds.any (fun x=>decide (nm∈x.implements)&&x.name==k)) 3 [] Z ⟨MOk.nil,fun k=>by simp [y7,YN]⟩ rfl rfl rfl ?_ ?_
   ·rintro M ⟨hM,hMk⟩;refine fR Z ?_;refine Run.z9 Z Z (by simp) ?_;exact ZD 3 Z (tail M hM (by intro k;have:=hMk k;simp only [List.any_nil,Bool.or_false] at this;rw [this];simp [z2B,h2'])) Z Z Z
   ·rintro i x r M hx1 hi hd ⟨hM,hMk⟩ ih;have hxo:=hD.d x (zMG hx1);refine fR Z ?_;refine Run.zb Z Z (by simp;omega) ?_;refine fR Z ?_;refine Mid.z6 Z Z Z hx1 Z Z ?_;refine fM Z ?_;refine Mid.call (z02 H x hxo nm) Z Z Z Z ?_;refine fM Z ?_;refine Run.cond Z Z (fun hc=>?_) (fun hc=>?_)
    ·refine fR Z ?_;refine Mid.zdM (x.name) Z Z Z Z (z43) Z ?_;refine fM Z ?_;refine aL Z Z Z Z Z ?_;refine fM Z ?_
     exact zd 3 Z (ih (We x.name true M) ⟨hM.We _,fun k=>by
      rw [←hMk k,z1e];have:decide (nm∈x.implements)=true:=hc;simp only [w1d,this,w1b]
      cases (x.name==k)<;>cases (y7 M k)<;>simp⟩) rfl rfl rfl
    ·refine fR Z ?_;refine aL Z Z Z Z Z ?_;refine fM Z ?_
     exact zd 3 Z (ih M ⟨hM,fun k=>by
      rw [←hMk k];have:decide (nm∈x.implements)=false:=hc
      simp only [w1d,this,w18,w1z]⟩) rfl rfl rfl
  ·have h2':¬ t.kind=2:=by simpa using h2
   refine fR Z ?_;refine Run.cond Z Z (fun h3=>?_) (fun h3=>?_)
   ·have h3':t.kind=3:=by simpa using h3
    have hml:=hT.ml;refine fR Z ?_;refine lM Z Z Z ?_;refine fM Z ?_
    refine zn t.members (fun i (M:List (Str×Bool))=>{env:=[(1,.t (.str nm)),(2,.ptr 0 0),(5,.ptr 1 0),(7,.mp 2),(50,.t (.lst (t.members.map zh.enc))),(51,.t (.int .i64 t.members.length)),(52,.t (.int .i64 i))],s:=⟨[(0,.cells [.t (.lst (ds.map Def.enc))]),(1,(TCo t)),(2,.map false (mE sE bE M) none)],3⟩}) (fun r i M=>MOk M/\∀k,(y7 M k||Wl r k)=Wl t.members k) 3 [] Z ⟨MOk.nil,fun k=>by simp [y7,YN]⟩ rfl rfl rfl ?_ ?_
    ·rintro M ⟨hM,hMk⟩;refine fR Z ?_;refine Run.z9 Z Z (by simp) ?_;exact ZD 3 Z (tail M hM (by intro k;have:=hMk k;simp only [Wl,List.any_nil,Bool.or_false] at this;rw [this];simp [z2B,h3',Wl])) Z Z Z
    ·rintro i x r M hx1 hi hd ⟨hM,hMk⟩ ih;refine fR Z ?_;refine Run.zb Z Z (by simp;omega) ?_;refine fR Z ?_;refine Mid.z6 Z Z Z hx1 Z Z ?_;refine fM Z ?_;refine Mid.zdM (x.name) Z Z Z Z (z43) Z ?_;refine fM Z ?_;refine aL Z Z Z Z Z ?_;refine fM Z ?_
     exact zd 3 Z (ih (We x.name true M) ⟨hM.We _,fun k=>by
      rw [←hMk k,z1e];simp only [Wl,w1d]
      cases (x.name==k)<;>cases (y7 M k)<;>simp⟩) rfl rfl rfl
   ·have h3':¬ t.kind=3:=by simpa using h3
    exact ZD 3 Z (tail [] MOk.nil (by intro k;simp [z2B,y7,YN,h1',h2',h3'])) Z Z Z
end Go.GB.C11
namespace Go.GB.C11
open Go.GB
variable {P:Program}
def nnF:List Int->Bool
 |[]=>false
 |w::_=>w==1
def zD:List Int->List Int
 |[]=>[]
 |w::r=>if (w==1)=true then r else w::r
def z91:List Int->Bool
 |[]=>false
 |w::_=>w==2
def ZR (w:List Int):Bool:=z91 (zD w)
theorem WO (w:List Int):(zD w).length<=w.length:=by
 cases w with
 |nil=>simp [zD]
 |cons a r=>simp only [zD];split<;>simp
theorem qh {w:List Int} (h:nnF w=true):zD w=w.tail:=by
 cases w with
 |nil=>cases h
 |cons a r=>simp only [nnF] at h;simp only [zD];rw [w0e h];rfl
theorem z2s {w:List Int} (h:¬ nnF w=true):zD w=w:=by
 cases w with
 |nil=>rfl
 |cons a r=>simp only [nnF] at h;simp only [zD];rw [w0g h]
theorem z8H (f:FuncId) (hi:z7 P f=some (n76,c76.bare,r76)) (hm:P.follows .mixedOrders=true) (t:Ref) (ht:t.Ok):z5 P f [t.v] ⟨[],0⟩ {v:= .t (.bool (nnF t.z8))}:=by
 have hl:=ht.l;obtain ⟨n,w⟩:=t;refine z5.run hi hm Z Z ?_
 cases w with
 |nil=>
  refine fR Z ?_;refine lM Z Z Z ?_;refine fM Z ?_;refine Mid.YQ Z Z Z Z Z ?_;refine Mid.YQ Z Z Z Z Z ?_;refine Mid.YQ Z Z Z Z Z ?_;refine fM Z ?_;refine Run.fin Z (z3.go ?_);exact .t Z
 |cons a r=>
  refine fR Z ?_;refine lM Z Z Z ?_;refine fM Z ?_;refine gr Z ?_;refine fM Z ?_;refine Run.fin Z (z3.go ?_);exact .t (by simp [nnF])
theorem zb2 (H:Pr P) (t:Ref) (ht:t.Ok):z5 P 76 [t.v] ⟨[],0⟩ {v:= .t (.bool (nnF t.z8))}:=z8H 76 H.i76 H.mixed t ht
theorem Qq (H:Pr P) (t:Ref) (ht:t.Ok):z5 P 99 [t.v] ⟨[],0⟩ {v:= .t (.bool (nnF t.z8))}:=z8H 99 H.i99 H.mixed t ht
theorem q7 (H:Pr P) (l:List Int) (hl:l.length*8<=140737488355328):z5 P 79 [.t (.lst (l.map nE))] ⟨[],0⟩ {v:= .t (.lst (l.map nE))}:=by
 refine z5.run H.i79 H.mixed Z Z ?_;refine fR Z ?_;refine p0 Z ?_;refine fM Z ?_;refine Run.z2S Z Z (fun h=>?_) (fun _=>?_)
 ·have hn:l=[]:=by
   cases l with
   |nil=>rfl
   |cons x r=>
    have:=h (nE x) (by simp);simp [nE] at this
  subst hn;refine fR Z ?_;refine Run.fin Z (z3.go ?_);exact .nil Z
 ·refine fR Z ?_;refine apN nE l Z Z Z ?_ (h1:=hl) (h2:=by omega);refine fM rfl ?_;refine Run.fin rfl (z3.go ?_);exact .own rfl
theorem z5g {t:Ref} (ht:t.Ok):(⟨t.name,zD t.z8⟩:Ref).Ok:=⟨by have:=WO t.z8;have:=ht.l;show (zD t.z8).length*8<=_;omega,ht.nm⟩
theorem z22 (H:Pr P) (t:Ref) (ht:t.Ok):z5 P 136 [t.v] ⟨[],0⟩ {v:=(⟨t.name,zD t.z8⟩:Ref).v}:=by
 have hl:=ht.l;have hn:=zb2 H t ht;have hno:=(z5g ht).l;obtain ⟨n,w⟩:=t;refine z5.run H.i136 H.mixed Z Z ?_;refine fR Z ?_;refine Mid.call (hn) Z Z Z Z ?_;refine fM Z ?_;refine Run.cond Z Z (fun h=>?_) (fun h=>?_)
 ·have h':nnF w=true:=h
  cases w with
  |nil=>cases h'
  |cons a r=>
   have e:zD (a::r)=r:=qh h';refine fR Z ?_;refine lF1 Z Z Z Z ?_;refine fM Z ?_;refine Mid.call (q7 H r (by simp at hl;omega)) Z Z Z Z ?_;refine fM Z ?_;refine Run.fin Z (z3.go ?_);exact .agg (.cons (.t Z) (.cons (.t (by rw [e])) .nil))
 ·have h':¬ nnF w=true:=by rw [show nnF w=false from h];simp
  refine fR Z ?_;refine Mid.call (q7 H w hl) Z Z Z Z ?_;refine fM Z ?_;refine Run.fin Z (z3.go ?_);exact .agg (.cons (.t Z) (.cons (.t (by rw [z2s h'])) .nil))
theorem zaV (H:Pr P) (n:Str) (a:Int) (r:List Int) (hl:r.length*8<=140737488355320):z5 P 145 [(⟨n,a::r⟩:Ref).v] ⟨[],0⟩ {v:=(⟨n,r⟩:Ref).v}:=by
 refine z5.run H.i145 H.mixed Z Z ?_;refine fR Z ?_;refine lF1 Z Z Z Z ?_;refine apN nE r Z Z Z ?_ (h1:=by omega) (h2:=by omega);refine fM rfl ?_;refine Run.fin rfl (z3.go ?_);exact .agg (.cons (.t rfl) (.cons (.own rfl) .nil))
theorem YB (H:Pr P) (t:Ref) (ht:t.Ok):z5 P 146 [t.v] ⟨[],0⟩ {v:=(⟨t.name,zD t.z8⟩:Ref).v}:=by
 have hl:=ht.l;have hn:=Qq H t ht;obtain ⟨n,w⟩:=t;refine z5.run H.i146 H.mixed Z Z ?_;refine fR Z ?_;refine Mid.call (hn) Z Z Z Z ?_;refine fM Z ?_;refine Run.cond Z Z (fun h=>?_) (fun h=>?_)
 ·have h':nnF w=true:=h
  cases w with
  |nil=>cases h'
  |cons a r=>
   have e:zD (a::r)=r:=qh h';refine fR Z ?_;refine Mid.call (zaV H n a r (by simp at hl;omega)) Z Z Z Z ?_;refine fM Z ?_;refine Run.fin Z (z3.go ?_);exact .agg (.cons (.t Z) (.cons (.t (by rw [e])) .nil))
 ·have h':¬ nnF w=true:=by rw [show nnF w=false from h];simp
  refine fR Z ?_;refine apN nE w Z Z Z ?_ (h1:=hl) (h2:=by simp at hl;omega);refine fM rfl ?_;refine Run.fin rfl (z3.go ?_);exact .agg (.cons (.t rfl) (.cons (.own (by rw [z2s h'])) .nil))
end Go.GB.C11
namespace Go.GB.C11
open Go.GB
variable {P:Program}
theorem z4b (H:Pr P) (t:Ref) (ht:t.Ok):z5 P 135 [t.v] ⟨[],0⟩ {v:= .t (.bool (ZR t.z8))}:=by
 have hn:=z22 H t ht;unfold ZR;generalize zD t.z8=N at hn;refine z5.run H.i135 H.mixed Z Z ?_;refine fR Z ?_;refine Mid.call (hn) Z Z Z Z ?_;refine fM Z ?_;refine lM Z Z Z ?_;refine fM Z ?_
 cases N with
 |nil=>
  refine Mid.YQ Z Z Z Z Z ?_;refine Mid.YQ Z Z Z Z Z ?_;refine Mid.YQ Z Z Z Z Z ?_;refine fM Z ?_;refine Run.fin Z (z3.go ?_);exact .t Z
 |cons a r=>
  refine gr Z ?_;refine fM Z ?_;refine Run.fin Z (z3.go ?_);exact .t (by simp [z91])
theorem z3e (H:Pr P) (t:Ref) (ht:t.Ok):z5 P 144 [t.v] ⟨[],0⟩ {v:= .t (.bool (ZR t.z8))}:=by
 have hn:=YB H t ht;unfold ZR;generalize zD t.z8=N at hn;refine z5.run H.i144 H.mixed Z Z ?_;refine fR Z ?_;refine Mid.call (hn) Z Z Z Z ?_;refine fM Z ?_;refine lM Z Z Z ?_;refine fM Z ?_
 cases N with
 |nil=>
  refine Mid.YQ Z Z Z Z Z ?_;refine Mid.YQ Z Z Z Z Z ?_;refine Mid.YQ Z Z Z Z Z ?_;refine fM Z ?_;refine Run.fin Z (z3.go ?_);exact .t Z
 |cons a r=>
  refine gr Z ?_;refine fM Z ?_;refine Run.fin Z (z3.go ?_);exact .t (by simp [z91])
theorem WN {w:List Int} (h:ZR w=true):∃r,zD w=2::r:=by
 unfold ZR at h
 cases hn:zD w with
 |nil=>rw [hn] at h;cases h
 |cons a r=>rw [hn] at h;simp [z91] at h;subst h;exact ⟨r,rfl⟩
theorem wR (H:Pr P) (t:Ref) (ht:t.Ok) (h:ZR t.z8=true):z5 P 77 [t.v] ⟨[],0⟩ {v:= .tup [(⟨t.name,(zD t.z8).tail⟩:Ref).v,.t (.bool true)]}:=by
 have hn:=z22 H t ht;have hi:=z4b H t ht;rw [h] at hi;obtain ⟨r,hr⟩:=WN h;rw [hr] at hn⊢;refine z5.run H.i77 H.mixed Z Z ?_;refine fR Z ?_;refine Mid.call (hi) Z Z Z Z ?_;refine fM Z ?_;refine Run.z9 Z Z Z ?_;refine fR Z ?_;refine Mid.call (hn) Z Z Z Z ?_;refine fM Z ?_;refine lF1 Z Z Z Z ?_;refine fM Z ?_;refine Run.fin Z (z3.go ?_);exact .ZG (.agg (.cons (.t Z) (.cons (.t Z) .nil))) (.t Z)
theorem W3 (H:Pr P) (t:Ref) (ht:t.Ok) (h:ZR t.z8=false):z5 P 77 [t.v] ⟨[],0⟩ {v:= .tup [(⟨[],[]⟩:Ref).v,.t (.bool false)]}:=by
 have hi:=z4b H t ht;rw [h] at hi;refine z5.run H.i77 H.mixed Z Z ?_;refine fR Z ?_;refine Mid.call (hi) Z Z Z Z ?_;refine fM Z ?_;refine Run.zb Z Z Z ?_;refine fR Z ?_;refine Run.fin Z (z3.go ?_);exact .ZG (.agg (.cons (.t Z) (.cons (.nil Z) .nil))) (.t Z)
theorem w8 (H:Pr P) (t:Ref) (ht:t.Ok) (h:ZR t.z8=true):z5 P 97 [t.v] ⟨[],0⟩ {v:= .tup [(⟨t.name,(zD t.z8).tail⟩:Ref).v,.t (.bool true)]}:=by
 have hn:=YB H t ht;have hi:=z3e H t ht;rw [h] at hi;obtain ⟨r,hr⟩:=WN h;have hlen:=WO t.z8;have hl:=ht.l;rw [hr] at hn hlen⊢;refine z5.run H.i97 H.mixed Z Z ?_;refine fR Z ?_;refine Mid.call (hi) Z Z Z Z ?_;refine fM Z ?_;refine Run.z9 Z Z Z ?_;refine fR Z ?_;refine Mid.call (hn) Z Z Z Z ?_;skip;refine Mid.call (zaV H t.name 2 r (by simp at hlen;omega)) Z Z Z Z ?_;refine fM Z ?_;refine Run.fin Z (z3.go ?_);exact .ZG (.agg (.cons (.t Z) (.cons (.t Z) .nil))) (.t Z)
theorem w6 (H:Pr P) (t:Ref) (ht:t.Ok) (h:ZR t.z8=false):z5 P 97 [t.v] ⟨[],0⟩ {v:= .tup [(⟨[],[]⟩:Ref).v,.t (.bool false)]}:=by
 have hi:=z3e H t ht;rw [h] at hi;refine z5.run H.i97 H.mixed Z Z ?_;refine fR Z ?_;refine Mid.call (hi) Z Z Z Z ?_;refine fM Z ?_;refine Run.zb Z Z Z ?_;refine fR Z ?_;refine Run.fin Z (z3.go ?_);exact .ZG (.agg (.cons (.t Z) (.cons (.nil Z) .nil))) (.t Z)
def isF (ds:List Def) (o n:Str):Bool:=decide (o∈Yg ds n)
theorem z5U (t:Def) (nm:Str):∀(r pre:List Def),(wq t nm pre r).length<=r.length
 |[],pre=>by simp [wq]
 |o::r,pre=>by
  have:=z5U t nm r (pre++[o]);simp only [wq]
  split<;>simp<;>omega
theorem Qr (ds:List Def) (nm:Str):(Yg ds nm).length<=ds.length:=by
 rw [z8q];exact z5U _ nm ds []
theorem zew (H:Pr P) (ds:List Def) (hD:Z2 ds) (o n:Str):z5 P 176 [yY ds,.t (.str o),.t (.str n)] ⟨[],0⟩ {v:= .t (.bool (isF ds o n))}:=by
 have hl:=Qr ds n;have:=hD.l;refine z5.run H.i176 H.mixed Z Z ?_;refine fR Z ?_;refine Mid.call (qH H ds hD n) Z Z Z Z ?_;refine fM Z ?_;refine Mid.call (z5A H (Yg ds n) (by omega) o) Z Z Z Z ?_;refine fM Z ?_;refine Run.fin Z (z3.go ?_);exact .t Z
def z0A (bas:Bool):Nat->List Int->List Int->Bool
 |0,_,_=>false
 |k+1,a,b=>
  if nnF b=true then nnF a&&z0A bas k (zD a) (zD b)
  else if nnF a=true then z0A bas k (zD a) b
  else if (ZR a||ZR b)=true then ZR a&&ZR b&&z0A bas k (zD a).tail (zD b).tail
  else bas
def z52 (ds:List Def) (a b:Str):Bool:=a==b||isF ds a b
def z7W (P:Program) (f:Nat) (ds:List Def) (k:Nat) (a b:Ref):Prop:=z5 P f [yY ds,a.v,b.v] ⟨[],0⟩ {v:= .t (.bool (z0A (z52 ds a.name b.name) k a.z8 b.z8))}
theorem z5k {t:Ref} (ht:t.Ok):(⟨t.name,(zD t.z8).tail⟩:Ref).Ok:=⟨by
 have:=WO t.z8;have:=ht.l;show (zD t.z8).tail.length*8<=_
 rw [List.length_tail];omega,ht.nm⟩
end Go.GB.C11
namespace Go.GB.C11
open Go.GB
variable {P:Program}
theorem z9G (H:Pr P) (ds:List Def) (hD:Z2 ds) (k:Nat) (a b:Ref) (ha:a.Ok) (hb:b.Ok)
  (hrec:∀x y:Ref,x.Ok->y.Ok->x.z8.length+y.z8.length<a.z8.length+b.z8.length->z7W P 159 ds k x y):z7W P 159 ds (k+1) a b:=by
 unfold z7W;refine z5.run H.i159 H.mixed Z Z ?_;refine fR Z ?_;refine Mid.call (Qq H b hb) Z Z Z Z ?_;refine fM Z ?_;refine Run.cond Z Z (fun h1=>?_) (fun h1=>?_)
 ·have h1':nnF b.z8=true:=h1
  have e:z0A (z52 ds a.name b.name) (k+1) a.z8 b.z8=(nnF a.z8&&z0A (z52 ds a.name b.name) k (zD a.z8) (zD b.z8)):=by simp only [z0A];rw [w0e h1']
  have hc:=hrec ⟨a.name,zD a.z8⟩ ⟨b.name,zD b.z8⟩ (z5g ha) (z5g hb) (by
   have:=WO a.z8;have h2:=qh h1'
   cases hw:b.z8 with
   |nil=>rw [hw] at h1';cases h1'
   |cons c r=>rw [hw] at h2;simp only [h2];simp;omega)
  unfold z7W at hc;refine fR Z ?_;refine Mid.call (Qq H a ha) Z Z Z Z ?_;refine fM Z ?_;refine caG Z Z (fun hg=>⟨_,rfl,YB H a ha,rfl⟩) Z Z ?_;refine fM Z ?_;refine caG Z Z (fun hg=>⟨_,rfl,YB H b hb,rfl⟩) Z Z ?_;skip;refine caG Z Z (fun hg=>⟨_,rfl,hc,rfl⟩) Z Z ?_;refine fM Z ?_;refine Run.fin Z (z3.go ?_);exact .t (by rw [e])
 ·have h1':¬ nnF b.z8=true:=by rw [show nnF b.z8=false from h1];simp
  refine fR Z ?_;refine Mid.call (Qq H a ha) Z Z Z Z ?_;refine fM Z ?_;refine Run.cond Z Z (fun h2=>?_) (fun h2=>?_)
  ·have h2':nnF a.z8=true:=h2
   have e:z0A (z52 ds a.name b.name) (k+1) a.z8 b.z8=z0A (z52 ds a.name b.name) k (zD a.z8) b.z8:=by simp only [z0A];rw [w0g h1',w0e h2']
   have hc:=hrec ⟨a.name,zD a.z8⟩ b (z5g ha) hb (by
    have h2:=qh h2'
    cases hw:a.z8 with
    |nil=>rw [hw] at h2';cases h2'
    |cons c r=>rw [hw] at h2;simp only [h2];simp)
   unfold z7W at hc;refine fR Z ?_;refine Mid.call (YB H a ha) Z Z Z Z ?_;refine fM Z ?_;refine Mid.call (hc) Z Z Z Z ?_;refine fM Z ?_;refine Run.fin Z (z3.go ?_);exact .t (by rw [e])
  ·have h2':¬ nnF a.z8=true:=by rw [show nnF a.z8=false from h2];simp
   have e:z0A (z52 ds a.name b.name) (k+1) a.z8 b.z8=if (ZR a.z8||ZR b.z8)=true then ZR a.z8&&ZR b.z8&&z0A (z52 ds a.name b.name) k (zD a.z8).tail (zD b.z8).tail else z52 ds a.name b.name:=by simp only [z0A];rw [w0g h1',w0g h2']
   refine fR Z ?_
   cases hla:ZR a.z8 with
   |true=>
    refine Mid.call (w8 H a ha hla) Z Z Z Z ?_;refine fM Z ?_
    cases hlb:ZR b.z8 with
    |true=>
     have hc:=hrec ⟨a.name,(zD a.z8).tail⟩ ⟨b.name,(zD b.z8).tail⟩ (z5k ha) (z5k hb) (by
      have h3:=WO a.z8;have h4:=WO b.z8;obtain ⟨r,hr⟩:=WN hla;rw [hr] at h3;simp only [List.length_tail,hr]
      simp at h3⊢;omega)
     unfold z7W at hc;rw [hla,hlb] at e;refine Mid.call (w8 H b hb hlb) Z Z Z Z ?_;refine fM Z ?_;refine Run.zb Z Z Z ?_;refine fR Z ?_;refine Mid.call (hc) Z Z Z Z ?_;refine fM Z ?_;refine Run.fin Z (z3.go ?_);exact .t (by rw [e];rfl)
    |false=>
     rw [hla,hlb] at e;refine Mid.call (w6 H b hb hlb) Z Z Z Z ?_;refine fM Z ?_;refine Run.z9 Z Z Z ?_;refine fR Z ?_;refine Mid.YQ Z Z Z Z Z ?_;refine fM Z ?_;refine Run.fin Z (z3.go ?_);exact .t (by rw [e];rfl)
   |false=>
    refine Mid.call (w6 H a ha hla) Z Z Z Z ?_;refine fM Z ?_
    cases hlb:ZR b.z8 with
    |true=>
     rw [hla,hlb] at e;refine Mid.call (w8 H b hb hlb) Z Z Z Z ?_;refine fM Z ?_;refine Run.z9 Z Z Z ?_;refine fR Z ?_;refine Mid.YQ Z Z Z Z Z ?_;refine fM Z ?_;refine Run.fin Z (z3.go ?_);exact .t (by rw [e];rfl)
    |false=>
     rw [hla,hlb] at e;refine Mid.call (w6 H b hb hlb) Z Z Z Z ?_;refine fM Z ?_;refine Run.z9 Z Z Z ?_;refine fR Z ?_;refine caG Z Z (fun hg=>⟨_,rfl,zew H ds hD a.name b.name,rfl⟩) Z Z ?_;refine fM Z ?_;refine Run.fin Z (z3.go ?_);exact .t (by rw [e];rfl)
theorem z8z (H:Pr P) (ds:List Def) (hD:Z2 ds):∀(k:Nat) (a b:Ref),a.z8.length+b.z8.length<k->a.Ok->b.Ok->z7W P 159 ds k a b
 |0,a,b,h,_,_=>by omega
 |k+1,a,b,h,ha,hb=>z9G H ds hD k a b ha hb fun x y hx hy hlt=>z8z H ds hD k x y (by omega) hx hy
end Go.GB.C11
namespace Go.GB.C11
open Go.GB
variable {P:Program}
theorem y9 {α:Type} {l:List α} {i:Nat} {y:α} (h:l[i]?=some y):l.drop i=y::l.drop (i+1):=by
 obtain ⟨hi,hy⟩:=w02.1 h;rw [List.drop_eq_getElem_cons hi,hy]
theorem yV {α β:Type} {a:List α} {b:List β} (h:a.length=b.length) {i:Nat} (hi:i<a.length):∃y,b[i]?=some y:=⟨b[i]'(by omega),by simp [show i<b.length by omega]⟩
theorem qt (H:Pr P) (a b:List Str) (ha:a.length<=140737488355328) (hb:b.length<=140737488355328):z5 P 51 [.t (.lst (a.map sE)),.t (.lst (b.map sE))] ⟨[],0⟩ {v:= .t (.bool (decide (a=b)))}:=by
 refine z5.run H.i51 H.mixed Z Z ?_;refine fR Z ?_;refine lM Z Z Z ?_;refine fM Z ?_;refine lM Z Z Z ?_;refine fM Z ?_;refine Run.cond Z Z (fun h=>?_) (fun h=>?_)
 ·have h':¬ a.length=b.length:=by simp at h;omega
  refine fR Z ?_;refine Run.fin Z (z3.go ?_);exact .t (by simp;intro e;exact h' (by rw [e]))
 ·have h':a.length=b.length:=by simp at h;omega
  refine fR Z ?_;refine zn a (fun i (_:Unit)=>{env:=[(0,.t (.lst (a.map sE))),(1,.t (.lst (b.map sE))),(5,.t (.int .i64 i))],s:=⟨[],0⟩}) (fun r i _=>decide (a=b)=decide (r=b.drop i)) 0 () Z (by simp) Z Z Z ?_ ?_
  ·intro _ hinv;refine fR Z ?_;refine lM Z Z Z ?_;refine fM Z ?_;refine Run.z9 Z Z (by simp) ?_;refine fR Z ?_;refine Run.fin Z (z3.go ?_);exact .t (by rw [hinv,h'];simp)
  ·intro i x r _ h1 hi hd hinv ih;obtain ⟨y,hy⟩:=yV h' hi;have hinv':decide (a=b)=decide (x::r=b.drop i):=hinv;rw [y9 hy] at hinv';refine fR Z ?_;refine lM Z Z Z ?_;refine fM Z ?_;refine Run.zb Z Z (by simp;omega) ?_;refine fR Z ?_;refine Mid.z6 Z Z Z h1 Z Z ?_;refine fM Z ?_;refine Mid.z6 Z Z Z hy Z Z ?_;refine fM Z ?_;refine Run.cond Z Z (fun hc=>?_) (fun hc=>?_)
   ·have hc':¬ x=y:=by simpa using hc
    refine fR Z ?_;refine Run.fin Z (z3.go ?_);exact .t (by rw [hinv'];simp [hc'])
   ·have hc':x=y:=by simpa using hc
    refine fR Z ?_;refine aL Z Z Z Z Z ?_;refine fM Z ?_;exact zd 0 Z (ih () (by rw [hinv'];simp [hc'])) Z Z Z
theorem z8R (H:Pr P) (a b:List Int) (ha:a.length<=140737488355328) (hb:b.length<=140737488355328):z5 P 102 [.t (.lst (a.map nE)),.t (.lst (b.map nE))] ⟨[],0⟩ {v:= .t (.bool (decide (a=b)))}:=by
 refine z5.run H.i102 H.mixed Z Z ?_;refine fR Z ?_;refine lM Z Z Z ?_;refine fM Z ?_;refine lM Z Z Z ?_;refine fM Z ?_;refine Run.cond Z Z (fun h=>?_) (fun h=>?_)
 ·have h':¬ a.length=b.length:=by simp at h;omega
  refine fR Z ?_;refine Run.fin Z (z3.go ?_);exact .t (by simp;intro e;exact h' (by rw [e]))
 ·have h':a.length=b.length:=by simp at h;omega
  refine fR Z ?_;refine zn a (fun i (_:Unit)=>{env:=[(0,.t (.lst (a.map nE))),(1,.t (.lst (b.map nE))),(5,.t (.int .i64 i))],s:=⟨[],0⟩}) (fun r i _=>decide (a=b)=decide (r=b.drop i)) 0 () Z (by simp) Z Z Z ?_ ?_
  ·intro _ hinv;refine fR Z ?_;refine lM Z Z Z ?_;refine fM Z ?_;refine Run.z9 Z Z (by simp) ?_;refine fR Z ?_;refine Run.fin Z (z3.go ?_);exact .t (by rw [hinv,h'];simp)
  ·intro i x r _ h1 hi hd hinv ih;obtain ⟨y,hy⟩:=yV h' hi;have hinv':decide (a=b)=decide (x::r=b.drop i):=hinv;rw [y9 hy] at hinv';refine fR Z ?_;refine lM Z Z Z ?_;refine fM Z ?_;refine Run.zb Z Z (by simp;omega) ?_;refine fR Z ?_;refine Mid.z6 Z Z Z h1 Z Z ?_;refine fM Z ?_;refine Mid.z6 Z Z Z hy Z Z ?_;refine fM Z ?_;refine Run.cond Z Z (fun hc=>?_) (fun hc=>?_)
   ·have hc':¬ x=y:=by simpa using hc
    refine fR Z ?_;refine Run.fin Z (z3.go ?_);exact .t (by rw [hinv'];simp [hc'])
   ·have hc':x=y:=by simpa using hc
    refine fR Z ?_;refine aL Z Z Z Z Z ?_;refine fM Z ?_;exact zd 0 Z (ih () (by rw [hinv'];simp [hc'])) Z Z Z
theorem z4C (H:Pr P) (a b:List Int) (ha:a.length<=140737488355328) (hb:b.length<=140737488355328):z5 P 78 [.t (.lst (a.map nE)),.t (.lst (b.map nE))] ⟨[],0⟩ {v:= .t (.bool (decide (a=b)))}:=by
 refine z5.run H.i78 H.mixed Z Z ?_;refine fR Z ?_;refine lM Z Z Z ?_;refine fM Z ?_;refine lM Z Z Z ?_;refine fM Z ?_;refine Run.cond Z Z (fun h=>?_) (fun h=>?_)
 ·have h':¬ a.length=b.length:=by simp at h;omega
  refine fR Z ?_;refine Run.fin Z (z3.go ?_);exact .t (by simp;intro e;exact h' (by rw [e]))
 ·have h':a.length=b.length:=by simp at h;omega
  refine fR Z ?_;refine lM Z Z Z ?_;refine fM Z ?_;refine zn a (fun i (_:Unit)=>{env:=[(0,.t (.lst (a.map nE))),(1,.t (.lst (b.map nE))),(12,.t (.int .i64 a.length)),(13,.t (.int .i64 i))],s:=⟨[],0⟩}) (fun r i _=>decide (a=b)=decide (r=b.drop i)) 0 () Z (by simp) Z Z Z ?_ ?_
  ·intro _ hinv;refine fR Z ?_;refine Run.z9 Z Z (by simp) ?_;refine fR Z ?_;refine Run.fin Z (z3.go ?_);exact .t (by rw [hinv,h'];simp)
  ·intro i x r _ h1 hi hd hinv ih;obtain ⟨y,hy⟩:=yV h' hi;have hinv':decide (a=b)=decide (x::r=b.drop i):=hinv;rw [y9 hy] at hinv';refine fR Z ?_;refine Run.zb Z Z (by simp;omega) ?_;refine fR Z ?_;refine Mid.z6 Z Z Z h1 Z Z ?_;refine fM Z ?_;refine Mid.z6 Z Z Z hy Z Z ?_;refine fM Z ?_;refine Run.cond Z Z (fun hc=>?_) (fun hc=>?_)
   ·have hc':¬ x=y:=by simpa using hc
    refine fR Z ?_;refine Run.fin Z (z3.go ?_);exact .t (by rw [hinv'];simp [hc'])
   ·have hc':x=y:=by simpa using hc
    refine fR Z ?_;refine aL Z Z Z Z Z ?_;refine fM Z ?_;exact zd 0 Z (ih () (by rw [hinv'];simp [hc'])) Z Z Z
structure z4 where
 err:Int
 at_:Str
instance:DecidableEq z4:=fun a b=>decidable_of_iff (a.err=b.err/\a.at_=b.at_) (by cases a;cases b;simp)
def z4.enc (f:z4):List T:=[.int .i64 f.err,.str f.at_]
theorem z1B (H:Pr P) (a b:List z4) (ha:a.length<=140737488355328) (hb:b.length<=140737488355328):z5 P 18 [.t (.lst (a.map z4.enc)),.t (.lst (b.map z4.enc))] ⟨[],0⟩ {v:= .t (.bool (decide (a=b)))}:=by
 refine z5.run H.i18 H.mixed Z Z ?_;refine fR Z ?_;refine lM Z Z Z ?_;refine fM Z ?_;refine lM Z Z Z ?_;refine fM Z ?_;refine Run.cond Z Z (fun h=>?_) (fun h=>?_)
 ·have h':¬ a.length=b.length:=by simp at h;omega
  refine fR Z ?_;refine Run.fin Z (z3.go ?_);exact .t (by simp;intro e;exact h' (by rw [e]))
 ·have h':a.length=b.length:=by simp at h;omega
  refine fR Z ?_;refine zn a (fun i (_:Unit)=>{env:=[(0,.t (.lst (a.map z4.enc))),(1,.t (.lst (b.map z4.enc))),(5,.t (.int .i64 i))],s:=⟨[],0⟩}) (fun r i _=>decide (a=b)=decide (r=b.drop i)) 0 () Z (by simp) Z Z Z ?_ ?_
  ·intro _ hinv;refine fR Z ?_;refine lM Z Z Z ?_;refine fM Z ?_;refine Run.z9 Z Z (by simp) ?_;refine fR Z ?_;refine Run.fin Z (z3.go ?_);exact .t (by rw [hinv,h'];simp)
  ·intro i x r _ h1 hi hd hinv ih;obtain ⟨y,hy⟩:=yV h' hi;have hinv':decide (a=b)=decide (x::r=b.drop i):=hinv;rw [y9 hy] at hinv';refine fR Z ?_;refine lM Z Z Z ?_;refine fM Z ?_;refine Run.zb Z Z (by simp;omega) ?_;refine fR Z ?_;refine Mid.z6 Z Z Z h1 Z Z ?_;refine fM Z ?_;refine Mid.z6 Z Z Z hy Z Z ?_;refine fM Z ?_;refine p0 Z ?_;refine fM Z ?_;refine Run.cond Z Z (fun hc=>?_) (fun hc=>?_)
   ·have hc':¬ x=y:=by
     rintro rfl;simp [ZX,T.eqb] at hc
    refine fR Z ?_;refine Run.fin Z (z3.go ?_);exact .t (by rw [hinv'];simp [hc'])
   ·have hc':x=y:=by
     simp [ZX,T.eqb] at hc;cases x;cases y;simp at hc⊢;exact hc
    refine fR Z ?_;refine aL Z Z Z Z Z ?_;refine fM Z ?_;exact zd 0 Z (ih () (by rw [hinv'];simp [hc'])) Z Z Z
end Go.GB.C11
namespace Go.GB.C11
open Go.GB
variable {P:Program}
def z3c (n:Int) (f:Field):Int:=IntKind.i64.wrap (n+IntKind.i64.wrap ((f.args.length:Nat)+(f.zg.length:Nat)))
def qn (n:Int) (d:Def):Int:=d.fields.foldl z3c (IntKind.i64.wrap (n+IntKind.i64.wrap (IntKind.i64.wrap (IntKind.i64.wrap (IntKind.i64.wrap (IntKind.i64.wrap (1+(d.fields.length:Nat))+(d.members.length:Nat))+(d.zi.length:Nat))+(d.zg.length:Nat))+(d.implements.length:Nat))))
def wG (ds:List Def):Bool:=decide ((ds.length:Int)>70)||decide (ds.foldl qn 0>1000)
theorem z6Q (H:Pr P) (ds:List Def) (hD:Z2 ds):z5 P 22 [yY ds] ⟨[],0⟩ {v:= .t (.bool (wG ds))}:=by
 have hl:=hD.l;refine z5.run H.i22 H.mixed Z Z ?_;refine fR Z ?_;refine lM Z Z Z ?_;refine fM Z ?_;refine Run.cond Z Z (fun h=>?_) (fun h=>?_)
 ·refine fR Z ?_;refine Run.fin Z (z3.go ?_);exact .t (by unfold wG;rw [show decide ((ds.length:Int)>70)=true from h];rfl)
 ·have h':decide ((ds.length:Int)>70)=false:=h;refine fR Z ?_;refine zn ds (fun i (n:Int)=>{env:=[(1,.ptr 0 0),(3,.t (.int .i64 n)),(4,.t (.int .i64 i))],s:=⟨[(0,.cells [.t (.lst (ds.map Def.enc))])],1⟩}) (fun r i n=>ds.foldl qn 0=r.foldl qn n) 1 0 Z Z Z Z Z ?_ ?_
  ·rintro n hinv;refine fR Z ?_;refine lM Z Z Z ?_;refine fM Z ?_;refine Run.z9 Z Z (by simp) ?_;refine fR Z ?_;refine Run.fin Z (z3.go ?_);exact .t (by unfold wG;rw [h',hinv];rfl)
  ·rintro i x r n h1 hi hd hinv ih;have hinv':ds.foldl qn 0=r.foldl qn (qn n x):=hinv;refine fR Z ?_;refine lM Z Z Z ?_;refine fM Z ?_;refine Run.zb Z Z (by simp;omega) ?_;refine fR Z ?_;refine Mid.z6 Z Z Z h1 Z Z ?_;refine fM Z ?_;refine lM Z Z Z ?_;refine p0 Z ?_;refine fM Z ?_;refine lM Z Z Z ?_;refine p0 Z ?_;refine fM Z ?_;refine lM Z Z Z ?_;refine p0 Z ?_;refine fM Z ?_;refine lM Z Z Z ?_;refine p0 Z ?_;refine fM Z ?_;refine lM Z Z Z ?_;refine p0 Z ?_;refine p0 Z ?_;refine fM Z ?_;have hfl:=(hD.d x (zMG h1)).fl;generalize hn1:IntKind.i64.wrap (n+IntKind.i64.wrap (IntKind.i64.wrap (IntKind.i64.wrap (IntKind.i64.wrap (IntKind.i64.wrap (1+(x.fields.length:Nat))+(x.members.length:Nat))+(x.zi.length:Nat))+(x.zg.length:Nat))+(x.implements.length:Nat)))=n1
   have en:qn n x=x.fields.foldl z3c n1:=by rw [←hn1];rfl
   rw [en] at hinv';refine zn x.fields (fun j (n:Int)=>{env:=[(1,.ptr 0 0),(3,.t (.int .i64 n)),(4,.t (.int .i64 i)),(5,.ptr 1 0),(6,.t (.int .i64 j))],s:=⟨[(0,.cells [.t (.lst (ds.map Def.enc))]),(1,(TCo x))],2⟩}) (fun r2 j n=>ds.foldl qn 0=r.foldl qn (r2.foldl z3c n)) 2 n1 Z (by rw [hinv']) Z Z Z ?_ ?_
   ·rintro n2 hinv2;refine fR Z ?_;refine lM Z Z Z ?_;refine fM Z ?_;refine Run.z9 Z Z (by simp) ?_;refine fR Z ?_;refine aL Z Z Z Z Z ?_;refine fM Z ?_;exact zd 1 Z (ih n2 (by rw [hinv2];rfl)) Z Z Z
   ·rintro j f r2 n2 h2 hj hjd hinv2 ih2;refine fR Z ?_;refine lM Z Z Z ?_;refine fM Z ?_;refine Run.zb Z Z (by simp;omega) ?_;refine fR Z ?_;refine Mid.z6 Z Z Z h2 Z Z ?_;refine fM Z ?_;refine lM Z Z Z ?_;refine fM Z ?_;refine Mid.z6 Z Z Z h2 Z Z ?_;refine fM Z ?_;refine lM Z Z Z ?_;refine p0 Z ?_;refine p0 Z ?_;refine fM Z ?_;refine aL Z Z Z Z Z ?_;refine fM Z ?_;exact zd 2 Z (ih2 (z3c n2 f) (by rw [hinv2];rfl)) Z Z Z
def Qe (n:Str):Bool:=n==[73,110,116]||n==[83,116,114,105,110,103]||n==[66,111,111,108,101,97,110]||n==[73,68]
theorem W9 (H:Pr P) (n:Str):z5 P 111 [.t (.str n)] ⟨[],0⟩ {v:= .t (.bool (Qe n))}:=by
 refine z5.run H.i111 H.mixed Z Z ?_;refine fR Z ?_;refine Run.fin Z (z3.go ?_);exact .t (by simp [Qe])
def z9e (c:Int):Bool:=(decide (c≥65)&&decide (c<=90))||(decide (c≥97)&&decide (c<=122))||c==95
def zao (c:Int):Bool:=decide (c≥48)&&decide (c<=57)
theorem z9F (H:Pr P) (c:Int):z5 P 149 [.t (.int .u8 c)] ⟨[],0⟩ {v:= .t (.bool (z9e c))}:=by
 refine z5.run H.i149 H.mixed Z Z ?_;refine fR Z ?_;refine Run.fin Z (z3.go ?_);exact .t Z
theorem zc6 (H:Pr P) (c:Int):z5 P 150 [.t (.int .u8 c)] ⟨[],0⟩ {v:= .t (.bool (zao c))}:=by
 refine z5.run H.i150 H.mixed Z Z ?_;refine fR Z ?_;refine Run.fin Z (z3.go ?_);exact .t Z
def z7Q (first:Bool):List UInt8->Bool
 |[]=>true
 |c::r=>(z9e c.toNat||(!first&&zao c.toNat))&&z7Q false r
def zo (s:Str):Bool:=decide (1<=s.length/\s.length<=64)&&z7Q true s
theorem QH (H:Pr P) (s:Str) (hs:s.length<=140737488355328):z5 P 106 [.t (.str s)] ⟨[],0⟩ {v:= .t (.bool (zo s))}:=by
 refine z5.run H.i106 H.mixed Z Z ?_;refine fR Z ?_;refine Run.cond Z Z (fun h=>?_) (fun h=>?_)
 ·have h':¬ (1<=s.length/\s.length<=64):=by simp at h;omega
  refine fR Z ?_;refine Run.fin Z (z3.go ?_);exact .t (by unfold zo;rw [show decide (1<=s.length/\s.length<=64)=false from by simpa using h'];rfl)
 ·have h':1<=s.length/\s.length<=64:=by simp at h;omega
  have e:zo s=z7Q true s:=by unfold zo;rw [show decide (1<=s.length/\s.length<=64)=true from by simpa using h'];rfl
  refine fR Z ?_;refine zn s (fun i (_:Unit)=>{env:=[(0,.t (.str s)),(3,.t (.int .i64 i))],s:=⟨[],0⟩}) (fun r i _=>z7Q true s=z7Q (i==0) r) 0 () Z Z Z Z Z ?_ ?_
  ·intro _ hinv;refine fR Z ?_;refine Run.z9 Z Z (by simp) ?_;refine fR Z ?_;refine Run.fin Z (z3.go ?_);exact .t (by rw [e,hinv];rfl)
  ·intro i c r _ h1 hi hd hinv ih;refine fR Z ?_;refine Run.zb Z Z (by simp;omega) ?_;refine fR Z ?_;refine Mid.byte Z Z h1 Z ?_;skip;refine Mid.call (z9F H c.toNat) Z Z Z Z ?_;refine fM Z ?_;refine byG Z Z Z h1 Z ?_;skip;refine caG Z Z (fun hg=>⟨_,rfl,zc6 H c.toNat,rfl⟩) Z Z ?_;refine fM Z ?_
   have hb:((i:Int)==0)=(i==0):=by
    cases i with
    |zero=>rfl
    |succ i=>simp;omega
   have hb2:(i+1==0)=false:=by simp
   refine Run.cond Z Z (fun hc=>?_) (fun hc=>?_)
   ·have hc':(z9e c.toNat||(!(i==0)&&zao c.toNat))=false:=by
     rw [hb] at hc
     revert hc;cases z9e c.toNat<;>cases (i==0)<;>cases zao c.toNat<;>simp
    refine fR Z ?_;refine Run.fin Z (z3.go ?_);exact .t (by rw [e,hinv];simp only [z7Q];rw [hc'];rfl)
   ·have hc':(z9e c.toNat||(!(i==0)&&zao c.toNat))=true:=by
     rw [hb] at hc
     revert hc;cases z9e c.toNat<;>cases (i==0)<;>cases zao c.toNat<;>simp
    refine fR Z ?_;refine aL Z Z Z Z Z ?_;refine fM Z ?_;exact zd 0 Z (ih () (by rw [hinv,hb2];simp only [z7Q];rw [hc'];rfl)) Z Z Z
def rgW (first nn:Bool):List Int->Bool
 |[]=>true
 |w::r=>!(w !=1&&w !=2)&&!(!first&&w==1&&nn)&&rgW false (w==1) r
def Wz (t:Ref):Bool:=zo t.name&&decide (t.z8.length<=24)&&rgW true false t.z8
theorem z0C (H:Pr P) (t:Ref) (ht:t.Ok):z5 P 153 [t.v] ⟨[],0⟩ {v:= .t (.bool (Wz t))}:=by
 have hl:=ht.l;have hn:=ht.nm;refine z5.run H.i153 H.mixed Z Z ?_;refine fR Z ?_;refine Mid.call (QH H t.name hn) Z Z Z Z ?_;refine fM Z ?_;refine lMG Z Z Z Z ?_;refine fM Z ?_;refine Run.cond Z Z (fun h=>?_) (fun h=>?_)
 ·refine fR Z ?_
  refine Run.fin Z (z3.go ?_);exact .t (by
   unfold Wz
   have:(zo t.name&&decide (t.z8.length<=24))=false:=by
    cases h1:zo t.name with
    |false=>rfl
    |true=>rw [h1] at h;simp at h;simp;omega
   rw [this];rfl)
 ·have h':(zo t.name&&decide (t.z8.length<=24))=true:=by
   cases h1:zo t.name with
   |false=>rw [h1] at h;simp at h
   |true=>rw [h1] at h;simp at h;simp;omega
  have e:Wz t=rgW true false t.z8:=by unfold Wz;rw [h'];rfl
  refine fR Z ?_
  refine zn t.z8 (fun i (_:Unit)=>{env:=[(1,.ptr 0 0),(3,.t (.int .i64 i))],s:=⟨[(0,.cells [.t (.str t.name),.t (.lst (t.z8.map nE))])],1⟩}) (fun r i _=>∃nn:Bool,(∀j:Nat,i=j+1->∃w,t.z8[j]?=some w/\nn=(w==1))/\rgW true false t.z8=rgW (i==0) nn r) 1 () Z ⟨false,fun j h=>by omega,rfl⟩ rfl rfl rfl ?_ ?_
  ·rintro _ ⟨nn,_,hinv⟩;refine fR Z ?_;refine lM Z Z Z ?_;refine fM Z ?_;refine Run.z9 Z Z (by simp) ?_;refine fR Z ?_;refine Run.fin Z (z3.go ?_);exact .t (by rw [e,hinv];rfl)
  ·rintro i w r _ h1 hi hd ⟨nn,hnn,hinv⟩ ih;refine fR Z ?_;refine lM Z Z Z ?_;refine fM Z ?_;refine Run.zb Z Z (by simp;omega) ?_;refine fR Z ?_;refine Mid.z6 Z Z Z h1 Z Z ?_;refine fM Z ?_;refine elG Z Z Z Z h1 Z Z ?_;refine fM Z ?_;refine Run.cond Z Z (fun hc=>?_) (fun hc=>?_)
   ·refine fR Z ?_;refine Run.fin Z (z3.go ?_);exact .t (by rw [e,hinv];simp only [rgW];rw [show (w !=1&&w !=2)=true from hc];rfl)
   ·have hc':(w !=1&&w !=2)=false:=hc
    have hlast:∀j:Nat,i+1=j+1->∃w',t.z8[j]?=some w'/\(w==1)=(w'==1):=fun j hj=>by
     obtain rfl:j=i:=by omega
     exact ⟨w,h1,rfl⟩
    have hb2:(i+1==0)=false:=by simp
    cases i with
    |zero=>
     obtain ⟨nm,ws⟩:=t
     cases ws with
     |nil=>simp at hi
     |cons w0 r0=>
      simp at h1 hd;subst h1;subst hd;refine fR Z ?_;refine gr Z ?_;refine fM Z ?_;refine zfe Z Z Z Z ?_;refine gr Z ?_;refine fM Z ?_;refine Run.z9 Z Z Z ?_;refine fR Z ?_;refine aL Z Z Z Z Z ?_;refine fM Z ?_;exact zd 1 Z (ih () ⟨w0==1,hlast,by rw [hinv,hb2];simp only [rgW];rw [hc'];rfl⟩) rfl rfl rfl
    |succ j=>
     obtain ⟨w',hw',rfl⟩:=hnn j rfl
     have ej:IntKind.i64.wrap (((j+1:Nat):Int) - 1)=(j:Int):=by rw [wrap64 (by omega) (by omega)];omega
     refine fR Z ?_;refine elG Z Z Z Z h1 Z Z ?_;refine fM Z ?_;refine zfe Z Z Z Z ?_
     rw [show ((j+1:Nat):Int) - 1=(j:Int) from by omega]
     refine elG Z Z Z Z hw' Z Z ?_;refine fM Z ?_;have hg:decide (((j+1:Nat):Int)>0)=true:=decide_eq_true (by omega)
     have hb1:(j+1==0)=false:=by simp
     refine Run.cond Z Z (fun hx=>?_) (fun hx=>?_)
     ·refine fR Z ?_
      refine Run.fin Z (z3.go ?_);exact .t (by
       rw [hg] at hx;have e3:(w==1&&w'==1)=true:=hx
       rw [e,hinv,hb1];simp only [rgW,hc',Bool.not_false,w1b,e3];rfl)
     ·rw [hg] at hx;refine fR Z ?_;refine aL Z Z Z Z Z ?_;refine fM Z ?_
      exact zd 1 Z (ih () ⟨w==1,hlast,by
       have e3:(w==1&&w'==1)=false:=hx
       rw [hinv,hb1,hb2];simp only [rgW,hc',Bool.not_false,w1b,e3]⟩) rfl rfl rfl
def loose:List Int->List Int
 |[]=>[]
 |w::r=>if (w !=1)=true then w::loose r else loose r
theorem qo:∀l:List Int,(loose l).length<=l.length
 |[]=>by simp [loose]
 |w::r=>by have:=qo r;simp only [loose];split<;>simp<;>omega
theorem z5M (H:Pr P) (t:Ref) (ht:t.Ok):z5 P 143 [t.v] ⟨[],0⟩ {v:= .t (.lst ((loose t.z8).map nE))}:=by
 have hl:=ht.l;refine z5.run H.i143 H.mixed Z Z ?_;refine fR Z ?_
 refine zn t.z8 (fun i (B:List Int)=>{env:=[(1,.ptr 0 0),(3,.own 1 1 (B.map nE)),(4,.t (.int .i64 i))],s:=⟨[(0,.cells [.t (.str t.name),.t (.lst (t.z8.map nE))]),(1,.arr B.length)],2⟩}) (fun r i B=>B.length<=i/\loose t.z8=B++loose r) 1 [] Z ⟨by simp,by simp⟩ rfl rfl rfl ?_ ?_
 ·rintro B ⟨_,hB⟩
  obtain rfl:B=loose t.z8:=by rw [hB];simp [loose]
  refine fR Z ?_;refine lM Z Z Z ?_;refine fM Z ?_;refine Run.z9 Z Z (by simp) ?_;refine fR Z ?_;refine Run.fin Z (z3.go ?_);exact .own Z
 ·rintro i w r B h1 hi hd ⟨hBl,hB⟩ ih;have hBl':B.length<=i:=hBl;refine fR Z ?_;refine lM Z Z Z ?_;refine fM Z ?_;refine Run.zb Z Z (by simp;omega) ?_;refine fR Z ?_;refine Mid.z6 Z Z Z h1 Z Z ?_;refine fM Z ?_;refine Run.cond Z Z (fun hc=>?_) (fun hc=>?_)
  ·have hc':(w !=1)=true:=hc;refine fR Z ?_;refine Mid.z6 Z Z Z h1 Z Z ?_;refine fM Z ?_;refine apM nE B [w] Z Z Z Z Z ?_;refine fM Z ?_;refine aL Z Z Z Z Z ?_;refine fM Z ?_;exact zd 2 Z (ih (B++[w]) ⟨by simp;omega,by rw [hB];simp only [loose];rw [w0e hc'];simp⟩) rfl rfl rfl
  ·have hc':¬ (w !=1)=true:=by rw [show (w !=1)=false from hc];simp
   refine fR Z ?_;refine aL Z Z Z Z Z ?_;refine fM Z ?_;exact zd 2 Z (ih B ⟨by omega,by rw [hB];simp only [loose];rw [w0g hc']⟩) rfl rfl rfl
def Zj (a b:Ref):Bool:=a.name==b.name&&decide (loose a.z8=loose b.z8)
theorem z6M (H:Pr P) (a b:Ref) (ha:a.Ok) (hb:b.Ok):z5 P 95 [a.v,b.v] ⟨[],0⟩ {v:= .t (.bool (Zj a b))}:=by
 have h1:=qo a.z8;have h2:=qo b.z8;have h3:=ha.l;have h4:=hb.l;refine z5.run H.i95 H.mixed Z Z ?_;refine fR Z ?_;refine caG Z Z (fun hg=>⟨_,rfl,z5M H a ha,rfl⟩) Z Z ?_;refine fM Z ?_;refine caG Z Z (fun hg=>⟨_,rfl,z5M H b hb,rfl⟩) Z Z ?_;skip;refine caG Z Z (fun hg=>⟨_,rfl,z8R H (loose a.z8) (loose b.z8) (by omega) (by omega),rfl⟩) Z Z ?_;refine fM Z ?_;refine Run.fin Z (z3.go ?_);exact .t Z
end Go.GB.C11
namespace Go.GB.C11
open Go.GB
variable {P:Program}
end Go.GB.C11
namespace Go.GB.C11
open Go.GB
end Go.GB.C11
namespace Go.GB.C11
open Go.GB
variable {P:Program}
def Input.v (x:Input):V:= .agg [.t (.str x.name),.t (.str x.ty.name),.t (.lst (x.ty.z8.map nE)),.t (.bool x.has),.t (.int .i64 x.YJ.kind),.t (.int .i64 x.YJ.int),.t (.str x.YJ.text),.t (.lst (x.YJ.items.map Val.enc)),.t (.lst (x.YJ.keys.map sE)),.t (.lst (x.zg.map Dir.enc))]
def Input.zero:Input:=⟨[],⟨[],[]⟩,false,Val.zero,[]⟩
theorem Input.Yp:Input.zero.Ok:=⟨⟨by decide,by decide⟩,Val.Yp,by decide,by simp [Input.zero],by decide⟩
def zw (n:Str):List Input->Option Input
 |[]=>none
 |d::r=>if (d.name==n)=true then some d else zw n r
theorem wm {n:Str}:∀{l:List Input} {d:Input},zw n l=some d->d∈l
 |[],d,h=>by simp [zw] at h
 |x::r,d,h=>by
  simp only [zw] at h;split at h
  ·cases h;exact w1x ..
  ·exact w0k _ (wm h)
theorem qP (H:Pr P) (l:List Input) (hl:l.length<=140737488355328) (n:Str):z5 P 88 [.t (.lst (l.map Input.enc)),.t (.str n)] ⟨[],0⟩ {v:= .tup [Input.v ((zw n l).getD Input.zero),.t (.bool (zw n l).isSome)]}:=by
 refine z5.run H.i88 H.mixed Z Z ?_;refine fR Z ?_;refine lM Z Z Z ?_;refine fM Z ?_;refine zn l (fun i (_:Unit)=>{env:=[(1,.t (.str n)),(4,.ptr 0 0),(8,.t (.lst (l.map Input.enc))),(9,.t (.int .i64 l.length)),(10,.t (.int .i64 i))],s:=⟨[(0,.cells [.t (.str []),.t (.str []),.zp,.t (.bool false),.t (.int .i64 0),.t (.int .i64 0),.t (.str []),.zp,.zp,.zp])],1⟩}) (fun r i _=>zw n l=zw n r) 1 () Z Z Z Z Z ?_ ?_
 ·intro _ hinv;refine fR Z ?_;refine Run.z9 Z Z (by simp) ?_;refine fR Z ?_
  have e:zw n l=none:=by rw [hinv];rfl
  rw [e];refine Run.fin Z (z3.go ?_);exact .ZG (.agg (.cons (.t Z) (.cons (.t Z) (.cons (.nil Z) (.cons (.t Z) (.cons (.t Z) (.cons (.t Z) (.cons (.t Z) (.cons (.nil Z) (.cons (.nil Z) (.cons (.nil Z) .nil))))))))))) (.t Z)
 ·intro i x r _ h1 hi hd hinv ih;refine fR Z ?_;refine Run.zb Z Z (by simp;omega) ?_;refine fR Z ?_;refine Mid.z6 Z Z Z h1 Z Z ?_;refine fM Z ?_;refine Run.cond Z Z (fun h=>?_) (fun h=>?_)
  ·refine fR Z ?_
   have e:zw n l=some x:=by rw [hinv];simp only [zw];rw [w0e h]
   rw [e];refine Run.fin Z (z3.go ?_);exact .ZG (.le (.same Z)) (.t Z)
  ·refine fR Z ?_;refine aL Z Z Z Z Z ?_;refine fM Z ?_
   have h':¬ (x.name==n)=true:=by rw [h];simp
   exact zd 1 Z (ih () (by rw [hinv];simp only [zw];rw [w0g h'])) Z Z Z
def wL (a b:Ref):Bool:=a.name==b.name&&decide (a.z8=b.z8)
theorem z2w (H:Pr P) (a b:Ref) (ha:a.Ok) (hb:b.Ok):z5 P 32 [a.v,b.v] ⟨[],0⟩ {v:= .t (.bool (wL a b))}:=by
 have h1:=ha.l;have h2:=hb.l;refine z5.run H.i32 H.mixed Z Z ?_;refine fR Z ?_;refine caG Z Z (fun hg=>⟨_,rfl,z4C H a.z8 b.z8 (by omega) (by omega),rfl⟩) Z Z ?_;refine fM Z ?_;refine Run.fin Z (z3.go ?_);exact .t Z
def yl (ds:List Def) (n:Str) (k:Int):Int:=
 if (!(ze n ds).isSome&&!(Qe n))=true then 8
 else if (!(ze n ds).isSome||((ze n ds).getD Def.zero).kind !=k)=true then 9
 else 0
end Go.GB.C11
namespace Go.GB.C11
open Go.GB
variable {P:Program}
def z8v (ds:List Def) (a b:Ref):Bool:=z0A (z52 ds a.name b.name) (a.z8.length+b.z8.length+1) a.z8 b.z8
theorem zap (H:Pr P) (ds:List Def) (hD:Z2 ds) (a b:Ref) (ha:a.Ok) (hb:b.Ok):z5 P 159 [yY ds,a.v,b.v] ⟨[],0⟩ {v:= .t (.bool (z8v ds a b))}:=z8z H ds hD _ a b (Nat.lt_succ_self _) ha hb
def zd8 (y:Field) (a:Input):Bool:=!(zw a.name y.args).isSome||!(wL a.ty ((zw a.name y.args).getD Input.zero).ty)
def Qb (y:Field) (at_:Str):List Input->List z4
 |[]=>[]
 |a::r=>if zd8 y a=true then ⟨22,at_++[40]++a.name++[41]⟩::Qb y at_ r else Qb y at_ r
def zdg (x:Field) (b:Input):Bool:=!(zw b.name x.args).isSome&&nnF b.ty.z8&&!b.has
def qW (x:Field) (at_:Str):List Input->List z4
 |[]=>[]
 |b::r=>if zdg x b=true then ⟨22,at_++[40]++b.name++[41]⟩::qW x at_ r else qW x at_ r
def atF (t:Def) (x:Field):Str:=t.name++[46]++x.name
def z6X (ds:List Def) (t:Def) (x:Field):List z4:=
 match zu x.name t.fields with
 |none=>[⟨20,atF t x⟩]
 |some y=>(if z8v ds y.ty x.ty=true then [] else [(⟨10,atF t x⟩:z4)])++(Qb y (atF t x) x.args++qW x (atF t x) y.args)
def qT (ds:List Def) (t:Def):List Field->List z4
 |[]=>[]
 |x::r=>z6X ds t x++qT ds t r
theorem zer {l:List Input} (h:∀y,y∈l->y.Ok) (n:Str):((zw n l).getD Input.zero).Ok:=by
 cases e:zw n l with
 |none=>exact Input.Yp
 |some x=>exact h x (wm e)
end Go.GB.C11
namespace Go.GB.C11
open Go.GB
variable {P:Program}
def z3N (ds:List Def) (pre:List Str) (n:Str):Int:=if (yl ds n 2==0&&decide (n∈pre))=true then 7 else yl ds n 2
def z5B (ds:List Def) (t:Def):List Str->List Str->List z4
 |_,[]=>[]
 |pre,n::r=>(if z3N ds pre n=0 then qT ds t ((ze n ds).getD Def.zero).fields else [(⟨z3N ds pre n,t.name⟩:z4)])++z5B ds t (pre++[n]) r
def za5 (ds:List Def) (t:Def):List z4:=z5B ds t [] t.implements
end Go.GB.C11
namespace Go.GB.C11
open Go.GB
variable {P:Program}
def unE (ds:List Def) (pre:List zh) (m:zh):Int:=if (yl ds m.name 1==0&&Wl pre m.name)=true then 7 else yl ds m.name 1
def unL (ds:List Def) (t:Def):List zh->List zh->List z4
 |_,[]=>[]
 |pre,m::r=>(if unE ds pre m=0 then [] else [(⟨unE ds pre m,t.name++[46]++m.name⟩:z4)])++unL ds t (pre++[m]) r
def WA (ds:List Def):List Def->List z4
 |[]=>[]
 |t::r=>(if t.kind=1 then za5 ds t else if t.kind=3 then unL ds t [] t.members else [])++WA ds r
def Zq (ds:List Def):List z4:=WA ds ds
end Go.GB.C11
namespace Go.GB.C11
open Go.GB
variable {P:Program}
def zeL:Str->Bool
 |a::b::_=>(a.toNat:Int)==95&&(b.toNat:Int)==95
 |_=>false
theorem z61 (H:Pr P) (s:Str) (hs:s.length<=140737488355328):z5 P 174 [.t (.str s)] ⟨[],0⟩ {v:= .t (.bool (zeL s))}:=by
 match s,hs with
 |[],_=>
  refine z5.run H.i174 H.mixed Z Z ?_;refine fR Z ?_;refine Mid.YQ Z Z Z Z Z ?_;refine Mid.YQ Z Z Z Z Z ?_;refine fM Z ?_;refine Mid.YQ Z Z Z Z Z ?_;refine Mid.YQ Z Z Z Z Z ?_;refine fM Z ?_;refine Run.fin Z (z3.go ?_);exact .t Z
 |[a],_=>
  refine z5.run H.i174 H.mixed Z Z ?_;refine fR Z ?_;refine gr Z ?_;refine fM Z ?_;refine Mid.YQ Z Z Z Z Z ?_;refine Mid.YQ Z Z Z Z Z ?_;refine fM Z ?_;refine Run.fin Z (z3.go ?_);exact .t Z
 |a::b::r,hs=>
  refine z5.run H.i174 H.mixed Z Z ?_;refine fR Z ?_;refine gr Z ?_;refine fM Z ?_;refine gr Z ?_;refine fM Z ?_
  refine Run.fin Z (z3.go ?_);exact .t (by
   have:decide (((a::b::r).length:Int)≥2)=true:=by simp;omega
   rw [this];rfl)
def z0z (n:Str):Bool:=zo n&&!zeL n
theorem z2X (H:Pr P) (n:Str) (hn:n.length<=140737488355328):z5 P 155 [.t (.str n)] ⟨[],0⟩ {v:= .t (.bool (z0z n))}:=by
 refine z5.run H.i155 H.mixed Z Z ?_;refine fR Z ?_;refine Mid.call (QH H n hn) Z Z Z Z ?_;refine fM Z ?_;refine caG Z Z (fun hg=>⟨_,rfl,z61 H n hn,rfl⟩) Z Z ?_;refine fM Z ?_;refine Run.fin Z (z3.go ?_);exact .t Z
def Zs (n:Str) (bad twice:Bool) (at_:Str):List z4:=
 (if (bad||!z0z n)=true then [(⟨6,at_⟩:z4)] else [])++(if twice=true then [(⟨7,at_⟩:z4)] else [])
theorem Q7 (H:Pr P) (n:Str) (hn:n.length<=140737488355328) (bad twice:Bool) (at_:Str):z5 P 112 [.t (.str n),.t (.bool bad),.t (.bool twice),.t (.str at_)] ⟨[],0⟩ {v:= .t (.lst ((Zs n bad twice at_).map z4.enc))}:=by
 refine z5.run H.i112 H.mixed Z Z ?_;refine fR Z ?_;refine caG Z Z (fun hg=>⟨_,rfl,z2X H n hn,rfl⟩) Z Z ?_;refine fM Z ?_;refine Run.cond Z Z (fun h=>?_) (fun h=>?_)
 ·refine fR Z ?_;refine apN z4.enc [(⟨6,at_⟩:z4)] Z Z Z ?_ (h1:=by first |omega|(simp;omega)|(simp;done)) (h2:=by first |omega|(simp;omega)|(simp;done));refine fM rfl ?_
  cases twice with
  |true=>
   refine Run.zb Z Z Z ?_;refine fR Z ?_;refine apM z4.enc [(⟨6,at_⟩:z4)] [(⟨7,at_⟩:z4)] Z Z Z Z Z ?_ (h1:=by first |omega|(simp;omega)|(simp;done)) (h2:=by first |omega|(simp;omega)|(simp;done));refine fM rfl ?_;refine Run.fin rfl (z3.go ?_);exact .own (by unfold Zs;rw [w0e h,w0e rfl])
  |false=>
   refine Run.z9 Z Z Z ?_;refine fR Z ?_;refine Run.fin Z (z3.go ?_);exact .own (by unfold Zs;rw [w0e h,w0g (by simp)];rfl)
 ·refine fR Z ?_
  have h':¬ (bad||!z0z n)=true:=by rw [h];simp
  cases twice with
  |true=>
   refine Run.zb Z Z Z ?_;refine fR Z ?_;refine apN z4.enc [(⟨7,at_⟩:z4)] Z Z Z ?_ (h1:=by first |omega|(simp;omega)|(simp;done)) (h2:=by first |omega|(simp;omega)|(simp;done));refine fM rfl ?_;refine Run.fin rfl (z3.go ?_);exact .own (by unfold Zs;rw [w0g h',w0e rfl];rfl)
  |false=>
   refine Run.z9 Z Z Z ?_;refine fR Z ?_;refine Run.fin Z (z3.go ?_);exact .nil (by unfold Zs;rw [w0g h',w0g (by simp)];rfl)
def yN (d:Def):Bool:=if d.kind=1∨d.kind=2 then ((d.fields.length:Int)==0) else if d.kind=3∨d.kind=4 then ((d.members.length:Int)==0) else if d.kind=5 then ((d.zi.length:Int)==0) else false
def z0j (ds:List Def) (n:Str):Bool:=Qe n||(ze n ds).isSome
theorem z6B (H:Pr P) (ds:List Def) (hD:Z2 ds) (n:Str):z5 P 115 [yY ds,.t (.str n)] ⟨[],0⟩ {v:= .t (.bool (z0j ds n))}:=by
 refine z5.run H.i115 H.mixed Z Z ?_;refine fR Z ?_;refine Mid.call (yn H ds hD.l n) Z Z Z Z ?_;refine fM Z ?_;refine Mid.call (W9 H n) Z Z Z Z ?_;refine fM Z ?_;refine Run.fin Z (z3.go ?_);exact .t Z
def zdA (ds:List Def) (n:Str):Bool:=Qe n||((ze n ds).isSome&&((ze n ds).getD Def.zero).kind==4)
theorem zdc (H:Pr P) (ds:List Def) (hD:Z2 ds) (n:Str):z5 P 158 [yY ds,.t (.str n)] ⟨[],0⟩ {v:= .t (.bool (zdA ds n))}:=by
 refine z5.run H.i158 H.mixed Z Z ?_;refine fR Z ?_;refine Mid.call (yn H ds hD.l n) Z Z Z Z ?_;refine fM Z ?_;refine Mid.call (W9 H n) Z Z Z Z ?_;refine fM Z ?_;refine Run.fin Z (z3.go ?_);exact .t Z
def z8M (ds:List Def) (n:Str):Bool:=zdA ds n||((ze n ds).isSome&&((ze n ds).getD Def.zero).kind==5)
theorem z7o (H:Pr P) (ds:List Def) (hD:Z2 ds) (n:Str):z5 P 116 [yY ds,.t (.str n)] ⟨[],0⟩ {v:= .t (.bool (z8M ds n))}:=by
 refine z5.run H.i116 H.mixed Z Z ?_;refine fR Z ?_;refine Mid.call (yn H ds hD.l n) Z Z Z Z ?_;refine fM Z ?_;refine Mid.call (zdc H ds hD n) Z Z Z Z ?_;refine fM Z ?_;refine Run.fin Z (z3.go ?_);exact .t Z
theorem yP (H:Pr P) (l:List Input) (hl:l.length<=140737488355328) (n:Str):z5 P 60 [.t (.lst (l.map Input.enc)),.t (.str n)] ⟨[],0⟩ {v:= .tup [Input.v ((zw n l).getD Input.zero),.t (.bool (zw n l).isSome)]}:=by
 refine z5.run H.i60 H.mixed Z Z ?_;refine fR Z ?_;refine zn l (fun i (_:Unit)=>{env:=[(0,.t (.lst (l.map Input.enc))),(1,.t (.str n)),(4,.ptr 0 0),(6,.t (.int .i64 i))],s:=⟨[(0,.cells [.t (.str []),.t (.str []),.zp,.t (.bool false),.t (.int .i64 0),.t (.int .i64 0),.t (.str []),.zp,.zp,.zp])],1⟩}) (fun r i _=>zw n l=zw n r) 1 () Z Z Z Z Z ?_ ?_
 ·intro _ hinv;refine fR Z ?_;refine lM Z Z Z ?_;refine fM Z ?_;refine Run.z9 Z Z (by simp) ?_;refine fR Z ?_
  have e:zw n l=none:=by rw [hinv];rfl
  rw [e];refine Run.fin Z (z3.go ?_);exact .ZG (.agg (.cons (.t Z) (.cons (.t Z) (.cons (.nil Z) (.cons (.t Z) (.cons (.t Z) (.cons (.t Z) (.cons (.t Z) (.cons (.nil Z) (.cons (.nil Z) (.cons (.nil Z) .nil))))))))))) (.t Z)
 ·intro i x r _ h1 hi hd hinv ih;refine fR Z ?_;refine lM Z Z Z ?_;refine fM Z ?_;refine Run.zb Z Z (by simp;omega) ?_;refine fR Z ?_;refine Mid.z6 Z Z Z h1 Z Z ?_;refine fM Z ?_;refine Run.cond Z Z (fun h=>?_) (fun h=>?_)
  ·refine fR Z ?_;refine Mid.z6 Z Z Z h1 Z Z ?_;refine fM Z ?_
   have e:zw n l=some x:=by rw [hinv];simp only [zw];rw [w0e h]
   rw [e];refine Run.fin Z (z3.go ?_);exact .ZG (.le (.same Z)) (.t Z)
  ·refine fR Z ?_;refine aL Z Z Z Z Z ?_;refine fM Z ?_
   have h':¬ (x.name==n)=true:=by rw [h];simp
   exact zd 1 Z (ih () (by rw [hinv];simp only [zw];rw [w0g h'])) Z Z Z
theorem zb4 (H:Pr P) (d:Def):z5 P 113 [d.v] ⟨[],0⟩ {v:= .t (.bool (yN d))}:=by
 refine z5.run H.i113 H.mixed Z Z ?_;refine fR Z ?_;refine Run.cond Z Z (fun h1=>?_) (fun h1=>?_)
 ·have e:yN d=((d.fields.length:Int)==0):=by unfold yN;rw [w0e (.inl (by simpa using h1))]
  skip;refine Run.zb Z Z h1 ?_;refine fR Z ?_;refine lM Z Z Z ?_;refine fM Z ?_;refine Run.fin Z (z3.go ?_);exact .t (by rw [e])
 ·have n1:¬ d.kind=1:=by simpa using h1
  refine fR Z ?_;refine Run.cond Z Z (fun h2=>?_) (fun h2=>?_)
  ·have e:yN d=((d.fields.length:Int)==0):=by unfold yN;rw [w0e (.inr (by simpa using h2))]
   refine fR Z ?_;refine lM Z Z Z ?_;refine fM Z ?_;refine Run.fin Z (z3.go ?_);exact .t (by rw [e])
  ·have n2:¬ d.kind=2:=by simpa using h2
   refine fR Z ?_;refine Run.cond Z Z (fun h3=>?_) (fun h3=>?_)
   ·have e:yN d=((d.members.length:Int)==0):=by unfold yN;rw [w0g (by omega),w0e (.inl (by simpa using h3))]
    skip;refine Run.zb Z Z h3 ?_;refine fR Z ?_;refine lM Z Z Z ?_;refine fM Z ?_;refine Run.fin Z (z3.go ?_);exact .t (by rw [e])
   ·have n3:¬ d.kind=3:=by simpa using h3
    refine fR Z ?_;refine Run.cond Z Z (fun h4=>?_) (fun h4=>?_)
    ·have e:yN d=((d.members.length:Int)==0):=by unfold yN;rw [w0g (by omega),w0e (.inr (by simpa using h4))]
     refine fR Z ?_;refine lM Z Z Z ?_;refine fM Z ?_;refine Run.fin Z (z3.go ?_);exact .t (by rw [e])
    ·have n4:¬ d.kind=4:=by simpa using h4
     refine fR Z ?_;refine Run.cond Z Z (fun h5=>?_) (fun h5=>?_)
     ·have e:yN d=((d.zi.length:Int)==0):=by unfold yN;rw [w0g (by omega),w0g (by omega),w0e (by simpa using h5)]
      refine fR Z ?_;refine lM Z Z Z ?_;refine fM Z ?_;refine Run.fin Z (z3.go ?_);exact .t (by rw [e])
     ·have n5:¬ d.kind=5:=by simpa using h5
      refine fR Z ?_;refine Run.fin Z (z3.go ?_);exact .t (by unfold yN;rw [w0g (by omega),w0g (by omega),w0g n5])
end Go.GB.C11
namespace Go.GB.C11
open Go.GB
variable {P:Program}
theorem z0D {n:Str}:∀{l:List Def} {d:Def},ze n l=some d->d.name=n
 |[],d,h=>by simp [ze] at h
 |x::r,d,h=>by
  simp only [ze] at h;split at h
  ·rename_i hx;cases h;simpa using hx
  ·exact z0D h
theorem z1l (H:Pr P) (l:List Str) (hl:l.length<=140737488355328) (s:Str):z5 P 157 [.t (.lst (l.map sE)),.t (.str s)] ⟨[],0⟩ {v:= .t (.bool (decide (s∈l)))}:=by
 refine z5.run H.i157 H.mixed Z Z ?_;refine fR Z ?_;refine zn l (fun i (_:Unit)=>{env:=[(0,.t (.lst (l.map sE))),(1,.t (.str s)),(5,.t (.int .i64 i))],s:=⟨[],0⟩}) (fun r i _=>decide (s∈l)=decide (s∈r)) 0 () Z Z Z Z Z ?_ ?_
 ·intro _ hinv;refine fR Z ?_;refine lM Z Z Z ?_;refine fM Z ?_;refine Run.z9 Z Z (by simp) ?_;refine fR Z ?_;refine Run.fin Z (z3.go ?_);exact .t (by rw [hinv];simp)
 ·intro i x r _ h1 hi hd hinv ih;refine fR Z ?_;refine lM Z Z Z ?_;refine fM Z ?_;refine Run.zb Z Z (by simp;omega) ?_;refine fR Z ?_;refine Mid.z6 Z Z Z h1 Z Z ?_;refine fM Z ?_;refine Run.cond Z Z (fun h=>?_) (fun h=>?_)
  ·have h':x=s:=by simpa using h
   refine fR Z ?_;refine Run.fin Z (z3.go ?_);exact .t (by rw [hinv];simp [h'])
  ·have h':¬ x=s:=by simpa using h
   have h2:¬ s=x:=fun e=>h' e.symm;refine fR Z ?_;refine aL Z Z Z Z Z ?_;refine fM Z ?_;exact zd 0 Z (ih () (by rw [hinv];simp [h2])) Z Z Z
def zeX:List Int->Bool
 |[]=>false
 |w::r=>((w::r).length:Int)==1&&w==1
theorem z4k (H:Pr P) (t:Ref):z5 P 175 [t.v] ⟨[],0⟩ {v:= .t (.bool (zeX t.z8))}:=by
 obtain ⟨n,ws⟩:=t
 match ws with
 |[]=>
  refine z5.run H.i175 H.mixed Z Z ?_;refine fR Z ?_;refine lM Z Z Z ?_;refine fM Z ?_;refine Mid.YQ Z Z Z Z Z ?_;refine Mid.YQ Z Z Z Z Z ?_;refine Mid.YQ Z Z Z Z Z ?_;refine fM Z ?_;refine Run.fin Z (z3.go ?_);exact .t Z
 |w::r=>
  have h1:(w::r)[0]?=some w:=rfl;refine z5.run H.i175 H.mixed Z Z ?_;refine fR Z ?_;refine lM Z Z Z ?_;refine fM Z ?_;refine gr Z ?_;refine fM Z ?_;refine Run.fin Z (z3.go ?_);exact .t Z
def z0W (ds:List Def) (nm:Str) (x:Input) (l:List Str):Bool:=
 zeX x.ty.z8&&(x.ty.name==nm||((ze x.ty.name ds).isSome&&((ze x.ty.name ds).getD Def.zero).kind==5))&&!decide (x.ty.name∈l)
def y6 (ds:List Def) (nm:Str):List Input->List Str->List Str
 |[],l=>l
 |x::r,l=>y6 ds nm r (if z0W ds nm x l=true then l++[x.ty.name] else l)
theorem zbI (H:Pr P) (ds:List Def) (hD:Z2 ds) (d:Def) (hd:d.Ok) (nm:Str) (hl:d.zi.length<=4398046511104):
  z5 P 156 [yY ds,d.v,.t (.str nm),.zp] ⟨[],0⟩ {v:= .own 2 1 ((y6 ds nm d.zi []).map sE),ob:=[(2,.arr (y6 ds nm d.zi []).length)],n:=3}:=by
 refine z5.run H.i156 H.mixed Z Z ?_;refine fR Z ?_
 refine zn d.zi (fun i (B:List Str)=>{env:=[(2,.t (.str nm)),(3,.own 2 1 (B.map sE)),(4,.ptr 0 0),(5,.ptr 1 0),(9,.t (.int .i64 i))],s:=⟨[(0,.cells [.t (.lst (ds.map Def.enc))]),(1,(TCo d)),(2,.arr B.length)],3⟩}) (fun r i B=>B.length+r.length<=4398046511104/\y6 ds nm d.zi []=y6 ds nm r B) 2 [] Z ⟨by simpa using hl,rfl⟩ rfl rfl rfl ?_ ?_
 ·rintro B ⟨_,hB⟩;have hB':y6 ds nm d.zi []=B:=hB;rw [hB'];refine fR Z ?_;refine lM Z Z Z ?_;refine fM Z ?_;refine Run.z9 Z Z (by simp) ?_;refine fR Z ?_;refine Run.fin Z (z3.chg Z Z ?_ ?_)
  ·exact .le (.same Z)
  ·exact leSA
 ·rintro i x r B h1 hi hdr ⟨hlB,hB⟩ ih;simp only [w0d] at hlB;have hx:=hd.n x (zMG h1);refine fR Z ?_;refine lM Z Z Z ?_;refine fM Z ?_;refine Run.zb Z Z (by simp;omega) ?_;refine fR Z ?_;refine Mid.z6 Z Z Z h1 Z Z ?_;refine fM Z ?_;refine Mid.call (yn H ds hD.l x.ty.name) Z Z Z Z ?_;refine fM Z ?_;refine Mid.call (z4k H x.ty) Z Z Z Z ?_;refine fM Z ?_;refine caG Z Z (fun hg=>⟨_,rfl,z1l H B (by omega) x.ty.name,rfl⟩) Z Z ?_;refine fM Z ?_;refine Run.cond Z Z (fun hc=>?_) (fun hc=>?_)
  ·have e:z0W ds nm x B=true:=hc;refine fR Z ?_;refine apM sE B [x.ty.name] Z Z Z Z Z ?_ (h1:=by first |omega|(simp;omega)|(simp;done)) (h2:=by first |omega|(simp;omega)|(simp;done));refine fM rfl ?_;refine aL rfl rfl rfl rfl rfl ?_;refine fM rfl ?_;exact zd 3 rfl (ih (B++[x.ty.name]) ⟨by simp;omega,by rw [hB];simp only [y6];rw [w0e e]⟩) rfl rfl rfl
  ·have e:¬ z0W ds nm x B=true:=by rw [show z0W ds nm x B=false from hc];simp
   refine fR Z ?_;refine aL Z Z Z Z Z ?_;refine fM Z ?_;exact zd 3 Z (ih B ⟨by omega,by rw [hB];simp only [y6];rw [w0g e]⟩) rfl rfl rfl
theorem zco (H:Pr P) (ds:List Def) (hD:Z2 ds) (d:Def) (hd:d.Ok) (nm:Str) (l:List Str) (hl:l.length+d.zi.length<=4398046511104):
  z5 P 156 [yY ds,d.v,.t (.str nm),.own 0 1 (l.map sE)] ⟨[(0,.arr l.length)],1⟩ {v:= .own 0 1 ((y6 ds nm d.zi l).map sE),ob:=[(0,.arr (y6 ds nm d.zi l).length)],rd:=true}:=by
 refine z5.run H.i156 H.mixed Z Z ?_;refine fR Z ?_
 refine zn d.zi (fun i (B:List Str)=>{env:=[(2,.t (.str nm)),(3,.own 0 1 (B.map sE)),(4,.ptr 1 0),(5,.ptr 2 0),(9,.t (.int .i64 i))],s:=⟨[(0,.arr B.length),(1,.cells [.t (.lst (ds.map Def.enc))]),(2,(TCo d))],3⟩}) (fun r i B=>B.length+r.length<=4398046511104/\y6 ds nm d.zi l=y6 ds nm r B) 3 l Z ⟨by exact hl,rfl⟩ rfl rfl rfl ?_ ?_
 ·rintro B ⟨_,hB⟩;have hB':y6 ds nm d.zi l=B:=hB;rw [hB'];refine fR Z ?_;refine lM Z Z Z ?_;refine fM Z ?_;refine Run.z9 Z Z (by simp) ?_;refine fR Z ?_;refine Run.fin Z (z3.chg Z Z ?_ ?_)
  ·exact .le (.same Z)
  ·exact leSA
 ·rintro i x r B h1 hi hdr ⟨hlB,hB⟩ ih;simp only [w0d] at hlB;have hx:=hd.n x (zMG h1);refine fR Z ?_;refine lM Z Z Z ?_;refine fM Z ?_;refine Run.zb Z Z (by simp;omega) ?_;refine fR Z ?_;refine Mid.z6 Z Z Z h1 Z Z ?_;refine fM Z ?_;refine Mid.call (yn H ds hD.l x.ty.name) Z Z Z Z ?_;refine fM Z ?_;refine Mid.call (z4k H x.ty) Z Z Z Z ?_;refine fM Z ?_;refine caG Z Z (fun hg=>⟨_,rfl,z1l H B (by omega) x.ty.name,rfl⟩) Z Z ?_;refine fM Z ?_;refine Run.cond Z Z (fun hc=>?_) (fun hc=>?_)
  ·have e:z0W ds nm x B=true:=hc;refine fR Z ?_;refine apM sE B [x.ty.name] Z Z Z Z Z ?_ (h1:=by first |omega|(simp;omega)|(simp;done)) (h2:=by first |omega|(simp;omega)|(simp;done));refine fM rfl ?_;refine aL rfl rfl rfl rfl rfl ?_;refine fM rfl ?_;exact zd 3 rfl (ih (B++[x.ty.name]) ⟨by simp;omega,by rw [hB];simp only [y6];rw [w0e e]⟩) rfl rfl rfl
  ·have e:¬ z0W ds nm x B=true:=by rw [show z0W ds nm x B=false from hc];simp
   refine fR Z ?_;refine aL Z Z Z Z Z ?_;refine fM Z ?_;exact zd 3 Z (ih B ⟨by omega,by rw [hB];simp only [y6];rw [w0g e]⟩) rfl rfl rfl
theorem z5Z (ds:List Def) (nm:Str):∀(ins:List Input) (l:List Str),l.length<=(y6 ds nm ins l).length
 |[],l=>w09 _
 |x::r,l=>by
  simp only [y6];refine w0o ?_ (z5Z ds nm r _)
  split<;>simp
def z2M (ds:List Def) (nm:Str):Nat->Nat->List Str->List Str
 |0,_,l=>l
 |k+1,i,l=>match l[i]? with
  |none=>l
  |some n=>z2M ds nm k (i+1) (y6 ds nm ((ze n ds).getD Def.zero).zi l)
def qX (ds:List Def) (d:Def):Bool:=d.kind==5&&decide (d.name∈z2M ds d.name (ds.length+2) 0 (y6 ds d.name d.zi []))
structure LOk (ds:List Def) (nm:Str) (l:List Str):Prop where
 nd:l.Nodup
 mem:∀x,x∈l->x∈nm::ds.map (fun o=>o.name)
theorem z46 {α:Type} [BEq α] [LawfulBEq α]:∀{l m:List α},l.Nodup->(∀x,x∈l->x∈m)->l.length<=m.length
 |[],_,_,_=>by simp
 |a::r,m,hn,hs=>by
  have ha:a∈m:=hs a (by simp);obtain ⟨hn1,hn2⟩:=w15.1 hn
  have h1:=z46 (l:=r) (m:=m.erase a) hn2 (fun x hx=>by
   have hne:x≠a:=by rintro rfl;exact hn1 hx
   exact (List.mem_erase_of_ne hne).2 (hs x (w0k _ hx)))
  have h2:=List.length_erase_of_mem ha;have h3:0<m.length:=List.length_pos_of_mem ha;simp only [w0d];omega
theorem LOk.len {ds:List Def} {nm:Str} {l:List Str} (h:LOk ds nm l):l.length<=ds.length+1:=by
 have:=z46 h.nd h.mem;simpa using this
theorem z0N {ds:List Def} {nm:Str}:∀{ins:List Input} {l:List Str},LOk ds nm l->LOk ds nm (y6 ds nm ins l)
 |[],l,h=>h
 |x::r,l,h=>by
  simp only [y6];split
  ·rename_i hc;refine z0N ⟨?_,?_⟩
   ·unfold z0W at hc;simp only [w07] at hc
    have hn:¬ x.ty.name∈l:=by simpa using hc.2
    rw [List.nodup_append]
    exact ⟨h.nd,by simp,fun a ha b hb e=>by simp at hb;subst hb;subst e;exact hn ha⟩
   ·intro y hy
    rcases w14.1 hy with hy|hy
    ·exact h.mem y hy
    ·simp at hy;subst hy;unfold z0W at hc;simp only [w07,Bool.or_eq_true,beq_iff_eq] at hc
     rcases hc.1.2 with e|e
     ·rw [e];simp
     ·cases hf:ze x.ty.name ds with
      |none=>rw [hf] at e;simp at e
      |some o=>
       have h1:=wu hf;have h2:=z0D hf;rw [←h2];exact w0k _ (w0m.2 ⟨o,h1,rfl⟩)
  ·exact z0N h
theorem z5K (H:Pr P) (ds:List Def) (hD:Z2 ds) (d:Def) (hd:d.Ok) (hil:∀o,o∈d::ds->o.zi.length<=2199023255552):z5 P 114 [yY ds,d.v] ⟨[],0⟩ {v:= .t (.bool (qX ds d))}:=by
 have hlb:=hD.lb
 have hz:∀n,((ze n ds).getD Def.zero).zi.length<=2199023255552:=by
  intro n
  cases hf:ze n ds with
  |none=>simp [Def.zero]
  |some o=>exact hil o (w0k _ (wu hf))
 refine z5.run H.i114 H.mixed Z Z ?_;refine fR Z ?_;refine Run.cond Z Z (fun hk=>?_) (fun hk=>?_)
 ·have e:qX ds d=false:=by unfold qX;rw [show (d.kind==5)=false from by simpa using hk];rfl
  refine fR Z ?_;refine Run.fin Z (z3.go ?_);exact .t (by rw [e])
 ·have hk':(d.kind==5)=true:=by simpa using hk
  refine fR Z ?_
  have h0:LOk ds d.name (y6 ds d.name d.zi []):=z0N ⟨List.nodup_nil,by simp⟩
  refine Mid.z4o [] (zbI H ds hD d hd d.name (by have:=hil d (by simp);omega)) Z Z Z Z (by simp [zZ]) (by repeat' (first |exact trivial|exact rfl|refine And.intro ?_ ?_|exact (congrArg some (zf.ren_mE _ _ _ _ _ _)).symm|exact (congrArg some (zf.ren_cE _ _ _)).symm)) Z Z (ob':=[(4,.arr (y6 ds d.name d.zi []).length)]) (rfl) Z Z ?_
  refine fM Z ?_
  have eB:qX ds d=decide (d.name∈z2M ds d.name (ds.length+2) 0 (y6 ds d.name d.zi [])):=by unfold qX;rw [hk'];rfl
  generalize hC:z2M ds d.name (ds.length+2) 0 (y6 ds d.name d.zi [])=C at eB
  have hN:∀(i:Nat) (l:List Str),LOk ds d.name l->i<=l.length->ds.length+2 - i=(ds.length+1 - i)+1:=by
   intro i l hl hi;have:=hl.len;omega
  refine z7T (β:=Nat×List Str) (fun b=>{env:=[(2,.ptr 0 0),(3,.ptr 1 0),(5,.own 4 1 (b.2.map sE)),(6,.t (.int .i64 b.1))],s:=⟨[(0,.cells [.t (.lst (ds.map Def.enc))]),(1,(TCo d)),(4,.arr b.2.length)],5⟩})
   (fun b=>LOk ds d.name b.2/\b.1<=b.2.length/\C=z2M ds d.name (ds.length+2 - b.1) b.1 b.2) (fun b=>ds.length+2 - b.1) 5 (0,y6 ds d.name d.zi []) rfl ⟨h0,by simp,hC.symm⟩ rfl rfl rfl ?_
  rintro ⟨i,l⟩ ⟨hl,hi,hinv⟩ ih;dsimp only at hl hi hinv ih⊢;have hlen:=hl.len;have hN':=hN i l hl hi;rw [hN'] at hinv;refine fR Z ?_;refine lM Z Z Z ?_;refine fM Z ?_;by_cases hlt:i<l.length
  ·refine Run.zb Z Z (by simp;omega) ?_;have hg:l[i]?=some l[i]:=w0f hlt;generalize l[i]=n at hg;have hF:=z0K hD n;have hnx:LOk ds d.name (y6 ds d.name ((ze n ds).getD Def.zero).zi l):=z0N hl;simp only [z2M,hg] at hinv;have hzn:=hz n;refine fR Z ?_;refine Mid.z6 Z Z Z hg Z Z ?_;refine fM Z ?_;refine Mid.call (yn H ds hD.l n) Z Z Z Z ?_;refine fM Z ?_
   refine Mid.z4o [4] (zco H ds hD ((ze n ds).getD Def.zero) hF d.name l (by omega)) Z Z Z Z (by simp [zZ];simp [zf.bd]) (by repeat' (first |exact trivial|exact rfl|refine And.intro ?_ ?_|exact (congrArg some (zf.ren_mE _ _ _ _ _ _)).symm|exact (congrArg some (zf.ren_cE _ _ _)).symm)) Z Z (ob':=[(4,.arr (y6 ds d.name ((ze n ds).getD Def.zero).zi l).length)]) (rfl) Z Z ?_
   refine fM Z ?_;refine aL Z Z Z Z Z ?_;refine fM Z ?_
   exact zd 5 Z (ih (i+1,y6 ds d.name ((ze n ds).getD Def.zero).zi l) (by simp only;omega) ⟨hnx,by simp only;have:=z5Z ds d.name ((ze n ds).getD Def.zero).zi l;omega,by rw [hinv];simp only;congr 1;omega⟩) rfl rfl rfl
  ·refine Run.z9 Z Z (by simp;omega) ?_;have hg:l[i]?=none:=w19 (by omega);simp only [z2M,hg] at hinv;refine fR Z ?_;refine Mid.call (z1l H l (by omega) d.name) Z Z Z Z ?_;refine fM Z ?_;refine Run.fin Z (z3.go ?_);exact .t (by rw [eB,hinv])
end Go.GB.C11
namespace Go.GB.C11
open Go.GB
variable {P:Program}
theorem z9I (H:Pr P) (n:Str) (hn:n.length<=140737488355328) (bad twice:Bool) (at_:Str):z5 P 112 [.t (.str n),.t (.bool bad),.t (.bool twice),.t (.str at_)] ⟨[],0⟩ {v:= .own 0 2 ((Zs n bad twice at_).map z4.enc),ob:=[(0,.arr (Zs n bad twice at_).length)],n:=1}:=by
 refine z5.run H.i112 H.mixed Z Z ?_;refine fR Z ?_;refine caG Z Z (fun hg=>⟨_,rfl,z2X H n hn,rfl⟩) Z Z ?_;refine fM Z ?_;refine Run.cond Z Z (fun h=>?_) (fun h=>?_)
 ·refine fR Z ?_;refine apN z4.enc [(⟨6,at_⟩:z4)] Z Z Z ?_ (h1:=by first |omega|(simp;omega)|(simp;done)) (h2:=by first |omega|(simp;omega)|(simp;done));refine fM rfl ?_
  cases twice with
  |true=>
   refine Run.zb Z Z Z ?_;refine fR Z ?_;refine apM z4.enc [(⟨6,at_⟩:z4)] [(⟨7,at_⟩:z4)] Z Z Z Z Z ?_ (h1:=by first |omega|(simp;omega)|(simp;done)) (h2:=by first |omega|(simp;omega)|(simp;done));refine fM rfl ?_
   have e:Zs n bad true at_=[⟨6,at_⟩]++[⟨7,at_⟩]:=by unfold Zs;rw [w0e h,w0e rfl]
   rw [e];refine Run.fin Z (z3.chg Z Z ?_ ?_)
   ·exact .le (.same Z)
   ·exact leSA
  |false=>
   refine Run.z9 Z Z Z ?_;refine fR Z ?_
   have e:Zs n bad false at_=[⟨6,at_⟩]:=by unfold Zs;rw [w0e h,w0g (by simp)];rfl
   rw [e];refine Run.fin Z (z3.chg Z Z ?_ ?_)
   ·exact .le (.same Z)
   ·exact leSA
 ·refine fR Z ?_
  have h':¬ (bad||!z0z n)=true:=by rw [h];simp
  refine ZD 0 Z (st':={env:=[(3,.t (.str at_)),(9,.own 0 2 ([].map z4.enc)),(21,.t (.bool twice))],s:=⟨[(0,.arr 0)],1⟩}) ?_ Z Z Z
  cases twice with
  |true=>
   refine Run.zb Z Z Z ?_;refine fR Z ?_;refine apM z4.enc [] [(⟨7,at_⟩:z4)] Z Z Z Z Z ?_ (h1:=by first |omega|(simp;omega)|(simp;done)) (h2:=by first |omega|(simp;omega)|(simp;done));refine fM rfl ?_
   have e:Zs n bad true at_=[⟨7,at_⟩]:=by unfold Zs;rw [w0g h',w0e rfl];rfl
   rw [e];refine Run.fin Z (z3.chg Z Z ?_ ?_)
   ·exact .le (.same Z)
   ·exact leSA
  |false=>
   refine Run.z9 Z Z Z ?_;refine fR Z ?_
   have e:Zs n bad false at_=[]:=by unfold Zs;rw [w0g h',w0g (by simp)];rfl
   rw [e];refine Run.fin Z (z3.chg Z Z ?_ ?_)
   ·exact .le (.same Z)
   ·exact leSA
def zfn (n:Str):Bool:=n==[81,117,101,114,121]||n==[77,117,116,97,116,105,111,110]||n==[83,117,98,115,99,114,105,112,116,105,111,110]
def QG (d:Def):Bool:=(zfn d.name&&d.kind !=1)||decide (d.kind<1)||decide (d.kind>5)
def z1u (ds:List Def) (i:Nat) (n:Str):Bool:=Qe n||(ds.take i).any fun o=>o.name==n
def YX (ds:List Def) (i:Nat) (d:Def):List z4:=
 Zs d.name false (z1u ds i d.name) d.name++(if yN d=true then [⟨8,d.name⟩] else [])++(if QG d=true then [⟨9,d.name⟩] else [])++(if qX ds d=true then [⟨5,d.name⟩] else [])
theorem Wk (n:Str) (a b:Bool) (s:Str):(Zs n a b s).length<=2:=by
 unfold Zs;split<;>split<;>simp
theorem zaE (H:Pr P) (ds:List Def) (hD:Z2 ds) (hil:∀o,o∈ds->o.zi.length<=2199023255552) (i:Nat) (d:Def) (h:ds[i]?=some d):z5 P 62 [yY ds,.t (.int .i64 i)] ⟨[],0⟩ {v:= .t (.lst ((YX ds i d).map z4.enc))}:=by
 have hdm:=zMG h;have hd:=hD.d d hdm;have hnm:=hd.nm;have hdl:=hD.l;have hi:i<ds.length:=(w02.1 h).1;have hnl:=Wk d.name false (z1u ds i d.name) d.name;have e0:z1u ds i d.name=(Qe d.name||(ds.take i).any fun o=>o.name==d.name):=rfl;refine z5.run H.i62 H.mixed Z Z ?_;refine fR Z ?_;refine Mid.z6 Z Z Z h Z Z ?_;refine fM Z ?_;refine Mid.call (W9 H d.name) Z Z Z Z ?_;refine fM Z ?_;refine zn (ds.take i) (fun j (B:Bool)=>{env:=[(1,.t (.int .i64 i)),(2,.ptr 0 0),(5,.ptr 1 0),(6,.t (.bool B)),(7,.t (.int .i64 j))],s:=⟨[(0,.cells [.t (.lst (ds.map Def.enc))]),(1,(TCo d))],2⟩}) (fun r j B=>z1u ds i d.name=(B||r.any fun o=>o.name==d.name)) 2 (Qe d.name) Z e0 Z Z Z ?_ ?_
 ·intro B hB
  have hl:(ds.take i).length=i:=by simp;omega
  have hB':z1u ds i d.name=B:=by rw [hB];simp
  rw [hl]
  have t0:∀L:List z4,L.length<=5->L=YX ds i d->Run P n62 0 (z3 ⟨[],0⟩ {v:= .t (.lst ((YX ds i d).map z4.enc))} r62 .ret) (ZS 200 [It.c c62_0]) {env:=[(8,.own 2 2 (L.map z4.enc))],s:=⟨[(2,.arr L.length)],3⟩}:=by
   rintro L hLl rfl;refine fR Z ?_;refine Run.fin Z (z3.go ?_);exact .own Z
  have t3:∀L:List z4,L.length<=4->L++(if qX ds d=true then [⟨5,d.name⟩] else [])=YX ds i d->Run P n62 0 (z3 ⟨[],0⟩ {v:= .t (.lst ((YX ds i d).map z4.enc))} r62 .ret) (ZS 200 [It.c c62_3]) {env:=[(2,.ptr 0 0),(5,.ptr 1 0),(8,.own 2 2 (L.map z4.enc))],s:=⟨[(0,.cells [.t (.lst (ds.map Def.enc))]),(1,(TCo d)),(2,.arr L.length)],3⟩}:=by
   rintro L hLl hL;refine fR Z ?_
   refine Mid.call (z5K H ds hD d hd (by intro o ho;rcases w0t.1 ho with rfl|ho;exact hil _ hdm;exact hil _ ho)) Z Z Z Z ?_
   refine fM Z ?_;refine Run.cond Z Z (fun hc=>?_) (fun hc=>?_)
   ·refine fR Z ?_;refine apM z4.enc L [(⟨5,d.name⟩:z4)] Z Z Z Z Z ?_ (h1:=by simp;omega) (h2:=by simp;omega);refine Mid.Wn (f:=1) rfl trivial ?_;refine Mid.WM rfl ?_
    exact ZD 3 Z (t0 (L++[⟨5,d.name⟩]) (by simp;omega) (by rw [←hL,w0e (show qX ds d=true from hc)]<;>simp)) Z Z Z
   ·exact ZD 3 Z (t0 L (by omega) (by rw [←hL,w0g (show ¬ qX ds d=true by rw [show qX ds d=false from hc];simp)]<;>simp)) Z Z Z
  have t7:∀L:List z4,L.length<=3->L++(if QG d=true then [⟨9,d.name⟩] else [])++(if qX ds d=true then [⟨5,d.name⟩] else [])=YX ds i d->Run P n62 0 (z3 ⟨[],0⟩ {v:= .t (.lst ((YX ds i d).map z4.enc))} r62 .ret) (ZS 200 [It.c c62_7]) {env:=[(2,.ptr 0 0),(5,.ptr 1 0),(8,.own 2 2 (L.map z4.enc))],s:=⟨[(0,.cells [.t (.lst (ds.map Def.enc))]),(1,(TCo d)),(2,.arr L.length)],3⟩}:=by
   rintro L hLl hL;refine fR Z ?_;refine Run.cond Z Z (fun hb=>?_) (fun hb=>?_)
   ·refine fR Z ?_;refine apM z4.enc L [(⟨9,d.name⟩:z4)] Z Z Z Z Z ?_ (h1:=by simp;omega) (h2:=by simp;omega);refine Mid.Wn (f:=1) rfl trivial ?_;refine Mid.WM rfl ?_
    exact ZD 3 Z (t3 (L++[⟨9,d.name⟩]) (by simp;omega) (by rw [←hL,w0e (show QG d=true from hb)]<;>simp)) Z Z Z
   ·exact ZD 3 Z (t3 L (by omega) (by rw [←hL,w0g (show ¬ QG d=true by rw [show QG d=false from hb];simp)]<;>simp)) Z Z Z
  refine fR Z ?_;refine Run.z9 Z Z (by simp) ?_;refine fR Z ?_;rw [hB'] at hnl
  refine Mid.z4o [] (z9I H d.name hnm false B d.name) Z Z Z Z (by simp [zZ]) (by repeat' (first |exact trivial|exact rfl|refine And.intro ?_ ?_|exact (congrArg some (zf.ren_mE _ _ _ _ _ _)).symm|exact (congrArg some (zf.ren_cE _ _ _)).symm)) Z Z (ob':=[(2,.arr (Zs d.name false B d.name).length)]) (rfl) Z Z ?_
  refine fM Z ?_;refine Mid.call (zb4 H d) Z Z Z Z ?_;refine fM Z ?_
  have hL:Zs d.name false B d.name++(if yN d=true then [⟨8,d.name⟩] else [])++(if QG d=true then [⟨9,d.name⟩] else [])++(if qX ds d=true then [⟨5,d.name⟩] else [])=YX ds i d:=by unfold YX;rw [hB']
  generalize Zs d.name false B d.name=L at hL hnl;refine Run.cond Z Z (fun he=>?_) (fun he=>?_)
  ·refine fR Z ?_;refine apM z4.enc L [(⟨8,d.name⟩:z4)] Z Z Z Z Z ?_ (h1:=by simp;omega) (h2:=by simp;omega);refine Mid.Wn (f:=1) rfl trivial ?_;refine Mid.WM rfl ?_
   exact ZD 3 Z (t7 (L++[⟨8,d.name⟩]) (by simp;omega) (by rw [←hL,w0e (show yN d=true from he)]<;>simp)) Z Z Z
  ·exact ZD 3 Z (t7 L (by omega) (by rw [←hL,w0g (show ¬ yN d=true by rw [show yN d=false from he];simp)]<;>simp)) Z Z Z
 ·intro j o r B h1 hj hjd hB ih
  have hji:j<i:=by simp at hj;omega
  have ho:ds[j]?=some o:=by rw [w0p] at h1;rw [w0e hji] at h1;exact h1
  have hjl:j<ds.length:=by omega
  refine fR Z ?_;refine Run.zb Z Z (by simp;omega) ?_;refine fR Z ?_;refine elG Z Z Z Z ho Z Z ?_;refine fM Z ?_;refine aL Z Z Z Z Z ?_;refine fM Z ?_
  exact zd 2 Z (ih (B||o.name==d.name) (by rw [hB];simp only [w1d];cases B<;>simp)) Z Z Z
end Go.GB.C11
