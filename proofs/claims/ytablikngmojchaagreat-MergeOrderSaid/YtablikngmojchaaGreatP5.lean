/-
  YtablikngmojchaaGreatP5: lemmas. No conditions.
-/
import Derived.Test.YtablikngmojchaaGreatP2
import Derived.Carry
import Derived.Handed
import Derived.ChangeSame
import Derived.ProofKit
import Derived.OpenShut
import Derived.Test.YtablikngmojchaaGreatP4
import Derived.JoinedCond
import Derived.Deep.CondSized
import Derived.Test.YtablikngmojchaaGreatP3
set_option linter.all false
set_option maxRecDepth 100000
set_option maxHeartbeats 16000000
namespace Go.GB
open Go.RowKit Go.WideShapes Go.ChangeShapes
abbrev z6f:Nat->Lab:=fun _=> .fix none
def WT (P:Program):Nat->TypeId->List T->Prop
 |0,_,_=>False
 |n+1,t,ts=>
  match P.underlying t with
  |some .bool=>∃b,ts=[.bool b]
  |some (.int k)=>∃x,ts=[.int k x]/\(Lit.int k x).wf=true
  |some .string=>∃s,ts=[.str s]/\s.length<=reachBytes
  |some (.slice e)=>∃xs,ts=[.lst xs]/\xs.length*P.bytesOf e<=reachBytes/\xs.length<=maxLen/\∀c∈xs,WT P n e c
  |some (.struct fs)=>ts.length=P.cellsOf t/\∀f∈fs.toList,WT P n f.type ((ts.drop f.offset).take (P.cellsOf f.type))
  |some (.array m e)=>ts.length=P.cellsOf t/\∀i,i<m->WT P n e ((ts.drop (i*P.cellsOf e)).take (P.cellsOf e))
  |_=>False
def z2o (P:Program):Nat->List (Nat×TypeId)->Option Nat
 |off,[]=>some off
 |off,(o,t)::r=>if o=off then z2o P (off+P.cellsOf t) r else none
def z42 (P:Program) (S:List TypeId):Bool:=
 S.all fun t=>
  match P.underlying t with
  |some .bool=>true
  |some (.int _)=>true
  |some .string=>true
  |some (.slice e)=>S.contains e&&decide (0<P.cellsOf e)
  |some (.struct fs)=>(fs.toList.all fun f=>S.contains f.type)&&(z2o P 0 (fs.toList.map fun f=>(f.offset,f.type))==some (P.cellsOf t))
  |some (.array m e)=>S.contains e&&(z2o P 0 ((List.range m).map fun i=>(i*P.cellsOf e,e))==some (P.cellsOf t))
  |_=>false
def z4A (w:World) (cs:List Value) (ts:List T):Prop:=cs.length=ts.length/\∀(j:Nat) (v:Value) (x:T),cs[j]?=some v->ts[j]?=some x->zI z6f w v x
theorem z4A.one {w:World} {v:Value} {x:T} (h:zI z6f w v x):z4A w [v] [x]:=by
 refine ⟨rfl,fun j u y h1 h2=>?_⟩
 cases j with
 |zero=>simp at h1 h2;subst h1;subst h2;exact h
 |succ j=>simp at h1
theorem z1k {α β:Type} {g:α->Option β}:∀{l:List α} {r:List β},l.mapM g=some r->l.length=r.length/\∀(j:Nat) (x:α),l[j]?=some x->∃y,r[j]?=some y/\g x=some y
 |[],r,h=>by simp at h;subst h;simp
 |a::l,r,h=>by
  simp only [List.mapM_cons,w04,Option.pure_def,w01] at h;obtain ⟨y,hy,r',hr,h⟩:=h;simp at h;subst h;obtain ⟨i1,i2⟩:=z1k hr
  refine ⟨by simp [i1],fun j x hx=>?_⟩
  cases j with
  |zero=>simp at hx;subst hx;exact ⟨y,rfl,hy⟩
  |succ j=>simpa using i2 j x (by simpa using hx)
theorem zbv {w:World} {a:Addr} {v:Value} (h:w.cell? a=some v):a.spot=none:=by
 unfold World.cell? at h
 cases hs:a.spot with
 |none=>rfl
 |some s=>
  rw [hs] at h
  split at h<;>simp_all
theorem cells?_at {w:World} {base n:Nat} {a:Addr} {cs:List Value} (h:w.cells? base a n=some cs):cs.length=n/\∀(j:Nat) (v:Value),cs[j]?=some v->w.cell? (a.add j)=some v:=by
 unfold World.cells? at h;split at h
 ·obtain ⟨h1,h2⟩:=z1k h;simp at h1;refine ⟨h1.symm,fun j v hj=>?_⟩
  have hlt:j<n:=by rw [h1];exact (w02.1 hj).1
  obtain ⟨y,e1,e2⟩:=h2 j j (by simp [hlt]);rw [hj] at e1;simp at e1;subst e1;exact e2
 ·cases h
theorem z2T {α:Type} {Q:Nat->α->Prop}:∀(n:Nat),(∀j,j<n->∃v,Q j v)->∃vs:List α,vs.length=n/\∀(j:Nat) (v:α),vs[j]?=some v->Q j v
 |0,_=>⟨[],rfl,by simp⟩
 |n+1,h=>by
  obtain ⟨vs,hl,hv⟩:=z2T n (fun j hj=>h j (by omega));obtain ⟨v,hq⟩:=h n (by omega)
  refine ⟨vs++[v],by simp [hl],fun j u hu=>?_⟩
  by_cases hj:j<vs.length
  ·rw [w0a hj] at hu;exact hv j u hu
  ·rw [w0b (by omega)] at hu;by_cases e:j=n
   ·subst e;rw [hl] at hu;simp at hu;subst hu;exact hq
   ·rw [w19 (by simp;omega)] at hu;cases hu
theorem pieces {P:Program} {w:World} {n:Nat} {cs:List Value}:∀(l:List (Nat×TypeId)) (off tot:Nat),z2o P off l=some tot->tot<=cs.length->(∀p∈l,∃ts,z4A w ((cs.drop p.1).take (P.cellsOf p.2)) ts/\WT P n p.2 ts)->
  off<=tot/\∃ts:List T,ts.length=tot - off/\(∀(j:Nat) (v:Value) (x:T),cs[off+j]?=some v->ts[j]?=some x->zI z6f w v x)/\∀p∈l,off<=p.1/\WT P n p.2 ((ts.drop (p.1 - off)).take (P.cellsOf p.2))
 |[],off,tot,hc,_,_=>by simp [z2o] at hc;subst hc;exact ⟨w09 _,[],by simp,by simp,by simp⟩
 |(o,t)::r,off,tot,hc,hl,hp=>by
  simp only [z2o] at hc;split at hc
  ·rename_i e;subst e;obtain ⟨h1,ts,h2,h3,h4⟩:=pieces r (o+P.cellsOf t) tot hc hl (fun p hp'=>hp p (w0k _ hp'));obtain ⟨us,k1,k2⟩:=hp (o,t) (by simp)
   have hul:us.length=P.cellsOf t:=by rw [←k1.1];simp;omega
   refine ⟨by omega,us++ts,by simp [hul,h2];omega,fun j v x hv hx=>?_,fun p hpm=>?_⟩
   ·by_cases hj:j<us.length
    ·rw [w0a hj] at hx;refine k1.2 j v x ?_ hx;simp only;rw [w0p,w0e (by omega),w0z];exact hv
    ·rw [w0b (by omega)] at hx;refine h3 (j - us.length) v x ?_ hx
     have:o+P.cellsOf t+(j - us.length)=o+j:=by omega
     rw [this];exact hv
   ·rcases w0t.1 hpm with e|e
    ·subst e;refine ⟨w09 _,?_⟩;simp only [Nat.sub_self,List.drop_zero];rw [List.take_append_of_le_length (by omega),w1l (by omega)];exact k2
    ·obtain ⟨g1,g2⟩:=h4 p e
     refine ⟨by omega,?_⟩
     have:p.1 - o=us.length+(p.1 - (o+P.cellsOf t)):=by omega
     rw [this,List.drop_append,w1m (by omega)];simpa using g2
  ·cases hc
section
variable {H:Type} {enc:TypeId×Value->H} {P:Program} {w:World} {sp:Nat->Bool} {held:Bool} {S:List TypeId}
theorem qa {e:TypeId} {r:Nat->Bool}:∀(l:List (DataW H)),(DataW.weightsAll P e l).all r=true->∀d∈l,(d.weights P e).all r=true
 |[],_,d,h=>by cases h
 |x::l,h,d,hd=>by
  simp only [DataW.weightsAll,List.all_append,w07] at h
  cases hd with
  |head=>exact h.1
  |tail _ hd=>exact qa l h.2 d hd
theorem QJ {r:Nat->Bool}:∀(ts:List TypeId) (l:List (DataW H)),(DataW.weightsEach P ts l).all r=true->∀(j:Nat) t d,ts[j]?=some t->l[j]?=some d->(d.weights P t).all r=true
 |[],l,_,j,t,d,h,_=>by simp at h
 |t::ts,[],_,j,t',d,_,h=>by simp at h
 |t::ts,x::l,h,j,t',d,h1,h2=>by
  simp only [DataW.weightsEach,List.all_append,w07] at h
  cases j with
  |zero=>simp at h1 h2;subst h1;subst h2;exact h.1
  |succ j=>exact QJ ts l h.2 j t' d (by simpa using h1) (by simpa using h2)
theorem z1I (hp:z42 P S=true):∀(n:Nat) (t:TypeId) (cs:List Value) (d:DataW H) (ps:List MemPlace),t∈S->DataW.trod enc P w 0 sp held n t cs=some (d,ps)->(d.weights P t).all (· <=reachBytes)=true->∃ts,z4A w cs ts/\WT P n t ts
 |0,t,cs,d,ps,_,h,_=>by simp [DataW.trod] at h
 |n+1,t,cs,d,ps,ht,h,hwt=>by
  have hpt:=w0i.1 hp t ht;simp only [WT]
  cases hu:P.underlying t with
  |none=>rw [hu] at hpt;simp at hpt
  |some td=>
   rw [hu] at hpt
   cases td with
   |bool=>
    rcases cs with _|⟨v,_|⟨v2,r⟩⟩<;>try (simp [DataW.trod,hu] at h;done)
    cases v<;>simp [DataW.trod,hu] at h
    rename_i b;exact ⟨[.bool b],z4A.one (.bool b),b,rfl⟩
   |int k=>
    rcases cs with _|⟨v,_|⟨v2,r⟩⟩<;>try (simp [DataW.trod,hu] at h;done)
    cases v<;>simp [DataW.trod,hu] at h
    rename_i k' x;obtain ⟨⟨rfl,h2⟩,_⟩:=h;exact ⟨[.int k' x],z4A.one (.int _ _),x,rfl,h2⟩
   |string=>
    rcases cs with _|⟨v,_|⟨v2,r⟩⟩<;>try (simp [DataW.trod,hu] at h;done)
    cases v<;>simp [DataW.trod,hu] at h
    rename_i s;rw [←h.2.1] at hwt
    exact ⟨[.str s.data.toList],z4A.one (.str _),s.data.toList,rfl,by simpa [DataW.weights] using hwt⟩
   |slice e=>
    simp only [w07,w0j] at hpt
    have he:e∈S:=by simpa using hpt.1
    rcases cs with _|⟨v,_|⟨v2,r⟩⟩<;>try (simp [DataW.trod,hu] at h;done)
    cases v<;>try (simp [DataW.trod,hu] at h;done)
    rename_i a len cap
    cases a with
    |none=>
     have h0:len=0/\cap=0:=by
      cases len<;>cases cap<;>simp_all [DataW.trod]
     obtain ⟨rfl,rfl⟩:=h0
     exact ⟨[.lst []],z4A.one .nil,[],rfl,by simp,by simp,by simp⟩
    |some a=>
     simp only [DataW.trod,hu] at h;split at h
     ·rename_i hcond;simp only [w01] at h;obtain ⟨elems,hel,hrest⟩:=h;obtain ⟨hl,hat⟩:=z1k hel;simp at hl;rw [w06] at hrest;obtain ⟨rest,_,hde⟩:=hrest;simp only [w05] at hde;rw [←hde.1] at hwt;simp only [DataW.weights,hu,List.all_cons,List.all_append,w07,w0j,w0r] at hwt
      have hreach:len*P.bytesOf e<=reachBytes:=by
       rw [hl];exact w0o (w0s _ (Nat.le_add_right _ _)) hwt.1
      have hone:∀i,i<len->∃q:List Value×List T,w.cells? 0 (a.add (i*P.cellsOf e)) (P.cellsOf e)=some q.1/\z4A w q.1 q.2/\WT P n e q.2:=by
       intro i hi;obtain ⟨y,hye,hy⟩:=hat i i (by simp [hi]);simp only [w01] at hy;obtain ⟨c,hc,hy⟩:=hy;obtain ⟨d',ps'⟩:=y;obtain ⟨ts,k1,k2⟩:=z1I hp n e c d' ps' he hy (qa _ hwt.2.1 _ (w0m.2 ⟨(d',ps'),zMG hye,rfl⟩));exact ⟨(c,ts),hc,k1,k2⟩
      obtain ⟨qs,hql,hq⟩:=z2T len hone
      have hsz:∀(i:Nat) (q:List Value×List T),qs[i]?=some q->q.1.length=P.cellsOf e/\q.2.length=P.cellsOf e:=by
       intro i q hi;obtain ⟨h1,h2,_⟩:=hq i q hi;have:=(cells?_at h1).1
       exact ⟨this,by rw [←h2.1];exact this⟩
      have hspot:0<len->a.spot=none:=by
       intro h0
       have hq0:qs[0]?=some (qs[0]'(by omega)):=by simp
       obtain ⟨h1,_,_⟩:=hq 0 _ hq0;obtain ⟨e1,e2⟩:=cells?_at h1
       have hlt:0<(qs[0]'(by omega)).1.length:=by rw [(hsz 0 _ hq0).1];exact hpt.2
       have:=zbv (e2 0 _ (w0f hlt));simpa [Addr.add] using this
      have hadd:∀m,0<len->a.add m=⟨a.block,a.off+m,none⟩:=by
       intro m h0;have hs:=hspot h0;obtain ⟨b,o,s⟩:=a;simp at hs;subst hs;exact y3 b o m
      refine ⟨[.lst (qs.map (·.2))],z4A.one ?_,qs.map (·.2),rfl,by simpa [hql] using hreach,by simp [hql];omega,fun c hc=>?_⟩
      ·have hlen:len=(qs.map (·.2)).length:=by simp [hql]
       rw [hlen];refine .lst (some a) cap (P.cellsOf e) (qs.map (·.2)) a.block a.off (fun i j=>((qs.map (·.1)).getD i []).getD j undef) (by rw [←hlen];exact hcond.2.1) ?_ ?_ ?_ ?_ ?_
       ·intro i c hc;rw [w0c,w06] at hc;obtain ⟨q,h1,rfl⟩:=hc;exact (hsz i q h1).2
       ·intro i j c x hc hx
        have h0:0<len:=by have:=(w02.1 hc).1;simp [hql] at this;omega
        have hs:=hspot h0;obtain ⟨b,o,s⟩:=a;simp at hs;subst hs;rfl
       ·intro i j c x hc hx;trivial
       ·intro i j c x hc hx;rw [w0c,w06] at hc;obtain ⟨q,h1,rfl⟩:=hc
        have h0:0<len:=by have:=(w02.1 h1).1;omega
        obtain ⟨g1,g2,_⟩:=hq i q h1;obtain ⟨e1,e2⟩:=cells?_at g1
        have hj:j<q.1.length:=by rw [g2.1];exact (w02.1 hx).1
        have:=e2 j _ (w0f hj);rw [hadd _ h0] at this;rw [y3] at this;rw [this];simp [h1,hj]
       ·intro i j c x hc hx;rw [w0c,w06] at hc;obtain ⟨q,h1,rfl⟩:=hc;obtain ⟨g1,g2,_⟩:=hq i q h1
        have hj:j<q.1.length:=by rw [g2.1];exact (w02.1 hx).1
        have:=g2.2 j _ x (w0f hj) hx;simpa [h1,hj] using this
      ·rw [w0m] at hc;obtain ⟨q,h1,rfl⟩:=hc;obtain ⟨i,hi⟩:=w0v.1 h1;exact (hq i q hi).2.2
     ·cases h
   |struct fs=>
    simp only [w07,w0i,beq_iff_eq] at hpt
    have hh:cs.length=P.cellsOf t/\∃xs,(fs.toList.mapM fun f=>DataW.trod enc P w 0 sp held n f.type ((cs.drop f.offset).take (P.cellsOf f.type)))=some xs/\d= .agg (xs.map (·.1)):=by
     have h':=h;simp only [DataW.trod,hu] at h';split at h'
     ·rename_i hc;simp only [w06] at h';obtain ⟨xs,hxs,hd⟩:=h'
      exact ⟨hc,xs,hxs,by simp only [w05] at hd;exact hd.1.symm⟩
     ·cases h'
    obtain ⟨hlen,xs,hxs,rfl⟩:=hh;obtain ⟨hl,hat⟩:=z1k hxs;simp only [DataW.weights,hu] at hwt
    obtain ⟨_,ts,g1,g2,g3⟩:=pieces (n:=n) (w:=w) (cs:=cs) _ 0 _ hpt.2 (by omega) (fun p hpm=>by
     rw [w0m] at hpm;obtain ⟨f,hf,rfl⟩:=hpm;obtain ⟨j,hj⟩:=w0v.1 hf;obtain ⟨y,hye,hy⟩:=hat j f hj;obtain ⟨d',ps'⟩:=y
     exact z1I hp n f.type _ d' ps' (by simpa using hpt.1 f hf) hy (QJ _ _ hwt j f.type d' (by simp [hj]) (by simp [hye])))
    refine ⟨ts,⟨by omega,fun j v x hv hx=>g2 j v x (by simpa using hv) hx⟩,by omega,fun f hf=>?_⟩
    have:=(g3 (f.offset,f.type) (w0m.2 ⟨f,hf,rfl⟩)).2;simpa using this
   |array m e=>
    simp only [w07,beq_iff_eq] at hpt
    have hh:cs.length=P.cellsOf t/\∃xs,((List.range m).mapM fun i=>DataW.trod enc P w 0 sp held n e ((cs.drop (i*P.cellsOf e)).take (P.cellsOf e)))=some xs/\d= .agg (xs.map (·.1)):=by
     have h':=h;simp only [DataW.trod,hu] at h';split at h'
     ·rename_i hc;simp only [w06] at h';obtain ⟨xs,hxs,hd⟩:=h'
      exact ⟨hc,xs,hxs,by simp only [w05] at hd;exact hd.1.symm⟩
     ·cases h'
    obtain ⟨hlen,xs,hxs,rfl⟩:=hh;obtain ⟨hl,hat⟩:=z1k hxs;simp only [DataW.weights,hu] at hwt
    obtain ⟨_,ts,g1,g2,g3⟩:=pieces (n:=n) (w:=w) (cs:=cs) _ 0 _ hpt.2 (by omega) (fun p hpm=>by
     rw [w0m] at hpm;obtain ⟨i,hi,rfl⟩:=hpm;obtain ⟨y,hye,hy⟩:=hat i i (by simp [w20.1 hi]);obtain ⟨d',ps'⟩:=y
     exact z1I hp n e _ d' ps' (by simpa using hpt.1) hy (qa _ hwt _ (w0m.2 ⟨(d',ps'),zMG hye,rfl⟩)))
    refine ⟨ts,⟨by omega,fun j v x hv hx=>g2 j v x (by simpa using hv) hx⟩,by omega,fun i hi=>?_⟩
    have:=(g3 (i*P.cellsOf e,e) (w0m.2 ⟨i,w20.2 hi,rfl⟩)).2;simpa using this
   |_=>simp at hpt
def z6m (P:Program) (t:TypeId) (ts:List T):V:=if Z5 P t then .agg (ts.map V.t) else .t (ts.headD .z2W)
def L.all (w:World):L:={lab:=z6f,fro:=fun _=>0,nxt:=0,w:=w,frf:=fun _ _=>0}
theorem zT.all (w:World):zT (L.all w) ⟨[],0⟩:=⟨by simp [zj],fun b b' k h=>by simp [L.all] at h,fun _ _=>rfl,fun b k h=>by simp [L.all] at h,fun _ _=>rfl,fun b b' k i h=>by simp [L.all] at h,fun b k h=>by simp [L.all] at h,fun _ _ _=>rfl⟩
theorem zeA (hp:z42 P S=true) {base:Nat} {t:TypeId} {v:Value} {d:DataW H} {ps:List MemPlace} (ht:t∈S) (hok:Value.okWide P w .any base t v) (h:DataW.Trod enc P w 0 sp held t v d ps) (hwt:(d.weights P t).all (· <=reachBytes)=true):
  ∃n ts,WT P n t ts/\zr (L.all w) v (z6m P t ts):=by
 obtain ⟨n,hn⟩:=h;obtain ⟨ts,h1,h2⟩:=z1I hp n t _ d ps ht hn hwt;refine ⟨n,ts,h2,?_⟩;have hpt:=w0i.1 hp t ht;unfold z6m;by_cases hag:Z5 P t=true
 ·simp only [hag,w17]
  have:∃cs,v= .agg cs:=by
   unfold Z5 at hag;unfold Value.okWide at hok
   cases hu:P.underlying t with
   |none=>rw [hu] at hag;simp at hag
   |some td=>rw [hu] at hag hok;cases td<;>simp at hag<;>exact ⟨_,hok.choose_spec.1⟩
  obtain ⟨cs,rfl⟩:=this;refine .agg (by simpa [Value.cells] using h1.1) fun j u c hj hc=>?_;rw [w0c,w06] at hc;obtain ⟨x,hx,rfl⟩:=hc;exact .t (h1.2 j u x (by simpa [Value.cells] using hj) hx)
 ·simp only [hag,w0x,w0h]
  have hcells:v.cells=#[v]:=by
   unfold Z5 at hag;unfold Value.okWide at hok
   cases hu:P.underlying t with
   |none=>rw [hu] at hpt;simp at hpt
   |some td=>
    rw [hu] at hag hok hpt
    cases td<;>simp at hag hpt<;>simp only [Cell.okWide,Cell.ok,hu] at hok<;>cases v<;>first |rfl|(exact hok.elim)
  have hcl:ts.length=1:=by rw [←h1.1,hcells];rfl
  obtain ⟨x,rfl⟩:∃x,ts=[x]:=by
   match ts,hcl with
   |[x],_=>exact ⟨x,rfl⟩
  exact .t (h1.2 0 v x (by rw [hcells];rfl) Z)
inductive WTs (P:Program):List TypeId->List V->Prop
 |nil:WTs P [] []
 |cons {t:TypeId} {ts:List TypeId} {n:Nat} {xs:List T} {vs:List V} (h:WT P n t xs) (r:WTs P ts vs):WTs P (t::ts) (z6m P t xs::vs)
theorem z8h (hp:z42 P S=true) {base:Nat}:∀(ts:List TypeId) (args:List Value) (ds:List (DataW H)) (ps:List MemPlace),(∀t∈ts,t∈S)->(∀(j:Nat) t v,ts[j]?=some t->args[j]?=some v->Value.okWide P w .any base t v)->
  DataW.TrodAll enc P w 0 sp held ts args ds ps->(DataW.weightsEach P ts ds).all (· <=reachBytes)=true->∃vs,WTs P ts vs/\args.length=vs.length/\∀(j:Nat) (v:Value) (x:V),args[j]?=some v->vs[j]?=some x->zr (L.all w) v x
 |[],[],[],ps,_,_,_,_=>⟨[],.nil,rfl,by simp⟩
 |t::ts,v::args,d::ds,ps,hS,hok,⟨p,q,h1,h2,_⟩,hwt=>by
  simp only [DataW.weightsEach,List.all_append,w07] at hwt;obtain ⟨vs,k1,k2,k3⟩:=z8h hp ts args ds q (fun t ht=>hS t (w0k _ ht)) (fun j t v a b=>hok (j+1) t v (by simpa using a) (by simpa using b)) h2 hwt.2;obtain ⟨n,xs,g1,g2⟩:=zeA hp (hS t (by simp)) (hok 0 t v rfl rfl) h1 hwt.1
  refine ⟨z6m P t xs::vs,.cons g1 k1,by simp [k2],fun j u x hu hx=>?_⟩
  cases j with
  |zero=>simp at hu hx;subst hu;subst hx;exact g2
  |succ j=>exact k3 j u x (by simpa using hu) (by simpa using hx)
 |[],_::_,_,_,_,_,h,_=>by simp [DataW.TrodAll] at h
 |[],[],_::_,_,_,_,h,_=>by simp [DataW.TrodAll] at h
 |_::_,[],_,_,_,_,h,_=>by simp [DataW.TrodAll] at h
 |_::_,_::_,[],_,_,_,h,_=>by simp [DataW.TrodAll] at h
theorem z0n (hl:laidOutB P=true) {W W':World} (hb:Below W.heap.size W W') {sp':Nat->Bool}:∀(ts:List TypeId) (vs:List Value) (ds:List (DataW H)) (ps:List MemPlace),(∀t∈ts,P.readableRec t=true/\t<P.types.size)->DataW.TrodAll enc P W 0 (fun _=>true) true ts vs ds ps->
  (∀p∈ps,p.block<W.heap.size)->(∀p∈ps,sp' p.block=true)->DataW.TrodAll enc P W' 0 sp' true ts vs ds ps
 |[],[],[],_,_,h,_,_=>h
 |t::ts,v::vs,d::ds,_,hT,⟨p,q,h1,h2,e⟩,hlt,hs=>by
  subst e;refine ⟨p,q,WideElems.Trod_stays hl (hT t (by simp)).1 (hT t (by simp)).2 h1 (fun x hx=>hb.same (hlt x (List.mem_append_left _ hx))) (fun x hx=>hs x (List.mem_append_left _ hx)),?_,rfl⟩;exact z0n hl hb ts vs ds q (fun t ht=>hT t (w0k _ ht)) h2 (fun x hx=>hlt x (List.mem_append_right _ hx)) (fun x hx=>hs x (List.mem_append_right _ hx))
 |[],_::_,_,_,_,h,_,_=>by simp [DataW.TrodAll] at h
 |[],[],_::_,_,_,h,_,_=>by simp [DataW.TrodAll] at h
 |_::_,[],_,_,_,h,_,_=>by simp [DataW.TrodAll] at h
 |_::_,_::_,[],_,_,h,_,_=>by simp [DataW.TrodAll] at h
end
section
variable {H:Type} {enc:TypeId×Value->H} {P:Program}
theorem z4L {f:Func} {s:ChangeSpec} {apart fresh handsOn again:Bool} {W W':World} {args:Array Value} {v:Value} {ds gs:List (DataW H)} {before pa pv:List MemPlace}
  (hW:DataW.Whole enc P f.params.toList s.vars apart W args.toList ds gs before)
  (hres:∀(b:Nat) (sp:Nat->Bool) (hd:Bool),DataW.TrodAll enc P W' b sp hd f.resultTypes.toList (v.resultList f.resultTypes.size) (s.fn H (ds++gs)).results [])
  (hargs:∀sp:Nat->Bool,(∀p∈before,sp p.block=true)->DataW.TrodAll enc P W' 0 sp true f.params.toList args.toList (s.fn H (ds++gs)).args pa)
  (hvars:∀sp:Nat->Bool,(∀p∈before,sp p.block=true)->DataW.TrodVars enc P W' sp s.vars (s.fn H (ds++gs)).vars pv)
  (hps:before=pa++pv) (hb:Below W.heap.size W W')
  (hok:∀(j:Nat) (t:TypeId) (r:Value),f.resultTypes[j]?=some t->(v.resultList f.resultTypes.size)[j]?=some r->Value.okWide P W' .any 0 t r):
  s.post enc P f apart fresh handsOn again W args v W':=by
 have hlt:∀p∈before,p.block<W.heap.size:=fun p hp=>hW.lt p hp
 have hold:∀p∈before,(fun b=>decide (b<W.heap.size)) p.block=true:=fun p hp=>by simpa using hlt p hp
 refine ⟨ds,gs,before,[],pa,pv,hW,hres _ _ _,hargs _ hold,hvars _ hold,World.keptBut_mono (fun p hp=>⟨hp,?_⟩) (hb.frame (· ∈before)),fun _=>?_⟩
 ·rw [hps,w14] at hp;exact Or.inr hp
 ·obtain ⟨_,_,_,_,_,hz,hn⟩:=hW;refine ⟨hok,_,_,([]++pa)++pv,⟨[]++pa,pv,trodAll_append (hargs _ (fun _ _=>rfl)) (hres _ _ _),hvars _ (fun _ _=>rfl),rfl,?_,?_⟩,?_⟩
  ·intro b off hp
   have hin:MemPlace.cell b off∈before:=by rw [hps];simpa using hp
   rw [hb.frozen (hlt _ hin)];exact hz b off hin
  ·intro ha;have:=hn ha;rw [hps] at this;simpa using this
  ·intro p hp _;rw [hps];simpa using hp
theorem z6p {S:List TypeId} {f:FuncId} {fn:Func} {s:ChangeSpec} {tb:TypeId} {apart fresh handsOn again:Bool} (hp:z42 P S=true) (hl:laidOutB P=true) (hT:∀t∈fn.params.toList,t∈S/\P.readableRec t=true/\t<P.types.size)
  (hrt:fn.resultTypes=#[tb]) (hb:P.underlying tb=some .bool) (hv:s.vars=[]) (hs:∀ds:List (DataW H),ds.length=fn.params.size->s.fn H ds={results:=[.lit (.bool true)],args:=ds})
  (W:World) (base:Nat) (args:Array Value) (ds gs:List (DataW H)) (before:List MemPlace)
  (hval:∀(j:Nat) t v,fn.params[j]?=some t->args[j]?=some v->Value.okWide P W .any base t v)
  (hW:DataW.Whole enc P fn.params.toList s.vars apart W args.toList ds gs before)
  (hwt:(DataW.weightsEach P (fn.params.toList++s.plain.varTypes P) (ds++gs)).all (· <=reachBytes)=true)
  (hok:∀vs,WTs P fn.params.toList vs->z6 P f vs ⟨[],0⟩ {v:= .t (.bool true)}):
  Calls P f args W fun e W'=>∃v,e= .returned v/\s.post enc P fn apart fresh handsOn again W args v W':=by
 have hW':=hW;obtain ⟨p,q,hA,hV,rfl,hfz,hnd⟩:=hW;rw [hv] at hV;obtain ⟨rfl,rfl⟩:=trodVars_none hV
 have hdl:ds.length=fn.params.size:=by
  have:∀(ts:List TypeId) (vs:List Value) (ds:List (DataW H)) (ps:List MemPlace),DataW.TrodAll enc P W 0 (fun _=>true) true ts vs ds ps->ds.length=ts.length:=by
   intro ts
   induction ts with
   |nil=>intro vs ds ps h;cases vs<;>cases ds<;>simp_all [DataW.TrodAll]
   |cons t ts ih=>
    intro vs ds ps h
    cases vs with
    |nil=>simp [DataW.TrodAll] at h
    |cons v vs=>
     cases ds with
     |nil=>simp [DataW.TrodAll] at h
     |cons d ds=>obtain ⟨p,q,_,h2,_⟩:=h;simp [ih vs ds q h2]
  simpa using this _ _ _ _ hA
 have hwt':(DataW.weightsEach P fn.params.toList ds).all (· <=reachBytes)=true:=by
  have happ:∀(ts us:List TypeId) (ds es:List (DataW H)),ts.length=ds.length->DataW.weightsEach P (ts++us) (ds++es)=DataW.weightsEach P ts ds++DataW.weightsEach P us es:=by
   intro ts
   induction ts with
   |nil=>intro us ds es h;cases ds with
    |nil=>simp [DataW.weightsEach]
    |cons d ds=>simp at h
   |cons t ts ih=>intro us ds es h;cases ds with
    |nil=>simp at h
    |cons d ds=>simp only [w1y,DataW.weightsEach,w1g];rw [ih us ds es (by simpa using h)]
  rw [happ _ _ _ _ (by simpa using hdl.symm),List.all_append,w07] at hwt;exact hwt.1
 obtain ⟨vs,k1,k2,k3⟩:=z8h hp _ _ _ _ (fun t ht=>(hT t ht).1) (fun j t v a b=>hval j t v (by simpa using a) (by simpa using b)) hA hwt';refine ((hok vs k1).2 (L.all W) args (zT.all W) Z (by simpa using k2) (fun j v x a b=>k3 j v x (by simpa using a) b)).mono fun e W' he=>?_;obtain ⟨v,Λ',rfl,rfl,g1,g2,g3,g4⟩:=he;have hvt:=g4.ZL.Yj;subst hvt;have hbel:Below W.heap.size W Λ'.w:=⟨g1.fr.os,g1.fr.tape,g1.fr.output,g1.fr.size,fun b hb=>(g1.fr.fix b hb none rfl).2⟩;have hsf:=hs (ds++[]) (by simpa using hdl);refine ⟨_,rfl,z4L (pa:=p) (pv:=[]) (by simpa using hW') ?_ ?_ ?_ (by simp) hbel ?_⟩
 ·intro b sp hd;rw [hsf,hrt]
  exact ⟨[],[],⟨1,by simp [DataW.trod,hb,Value.cells]⟩,rfl,rfl⟩
 ·intro sp hsp;rw [hsf];have hlt:∀x∈p,x.block<W.heap.size:=fun x hx=>hW'.lt x (by simpa using hx);simpa using z0n hl hbel _ _ _ _ (fun t ht=>(hT t ht).2) hA hlt (fun x hx=>hsp x (by simpa using hx))
 ·intro sp hsp;rw [hsf,hv];rfl
 ·intro j t r hj hr;rw [hrt] at hj
  cases j with
  |zero=>
   simp at hj;subst hj;simp [hrt,Value.resultList] at hr;subst hr;simp [Value.okWide,Cell.okWide,Cell.ok,hb]
  |succ j=>simp at hj
end
inductive Sh where
 |bool
 |int (k:IntKind)
 |str
 |lst (b:Nat) (s:List Sh)
 |any
 |num (i:Nat)
def z1Z (P:Program) (g:TypeId->Option (List Sh)):Nat->List (Nat×TypeId)->Option (List Sh)
 |_,[]=>some []
 |off,(o,t)::r=>
  if o=off then
   match g t with
   |some a=>if a.length=P.cellsOf t then (z1Z P g (off+P.cellsOf t) r).map fun b=>a++b else none
   |none=>none
  else none
def z3V (P:Program) (sp:TypeId->Option Nat):Nat->TypeId->Option (List Sh)
 |0,t=>
  match P.underlying t with
  |some .bool=>some [.bool]
  |some (.int k)=>some [.int k]
  |some .string=>some [.str]
  |some (.slice e)=>match sp e with|some i=>some [.num i]|none=>some [.any]
  |_=>none
 |n+1,t=>
  match P.underlying t with
  |some .bool=>some [.bool]
  |some (.int k)=>some [.int k]
  |some .string=>some [.str]
  |some (.slice e)=>match sp e with|some i=>some [.num i]|none=>(z3V P sp n e).map fun s=>[.lst (P.bytesOf e) s]
  |some (.struct fs)=>(z1Z P (z3V P sp n) 0 (fs.toList.map fun f=>(f.offset,f.type))).bind fun s=>if s.length=P.cellsOf t then some s else none
  |some (.array m e)=>(z1Z P (z3V P sp n) 0 ((List.range m).map fun i=>(i*P.cellsOf e,e))).bind fun s=>if s.length=P.cellsOf t then some s else none
  |_=>none
mutual
def Sh.ok (Y:Nat->T->Prop):Sh->T->Prop
 | .bool,x=>∃b,x= .bool b
 | .int k,x=>∃n,x= .int k n/\(Lit.int k n).wf=true
 | .str,x=>∃s,x= .str s/\s.length<=reachBytes
 | .lst b sh,x=>∃xs:List (List T),x= .lst xs/\xs.length*b<=reachBytes/\xs.length<=maxLen/\∀c∈xs,Sh.oks Y sh c
 | .any,_=>True
 | .num i,x=>Y i x
def Sh.oks (Y:Nat->T->Prop):List Sh->List T->Prop
 |[],[]=>True
 |s::r,x::ts=>s.ok Y x/\Sh.oks Y r ts
 |_,_=>False
end
theorem Sh.z3L {Y:Nat->T->Prop}:∀{a b:List Sh} {ts us:List T},Sh.oks Y a ts->Sh.oks Y b us->Sh.oks Y (a++b) (ts++us)
 |[],b,[],us,_,h=>h
 |[],b,x::ts,us,h,_=>by simp [Sh.oks] at h
 |s::r,b,[],us,h,_=>by simp [Sh.oks] at h
 |s::r,b,x::ts,us,h,k=>by
  simp only [Sh.oks,w1y] at h⊢;exact ⟨h.1,Sh.z3L h.2 k⟩
theorem z25 {P:Program} {Y:Nat->T->Prop} {g:TypeId->Option (List Sh)} {n:Nat} (hg:∀t sh ts,g t=some sh->WT P n t ts->Sh.oks Y sh ts):∀(l:List (Nat×TypeId)) (off:Nat) (sh:List Sh) (ts:List T),z1Z P g off l=some sh->(∀p∈l,WT P n p.2 ((ts.drop p.1).take (P.cellsOf p.2)))->
  ∃us,Sh.oks Y sh us/\us=(ts.drop off).take sh.length
 |[],off,sh,ts,h,_=>by simp [z1Z] at h;subst h;exact ⟨[],trivial,by simp⟩
 |(o,t)::r,off,sh,ts,h,hp=>by
  simp only [z1Z] at h;split at h
  ·rename_i e;subst e;split at h
   ·rename_i a ha;split at h
    ·rename_i hl;simp only [w06] at h;obtain ⟨b,hb,rfl⟩:=h;have h1:=hg t a _ ha (hp (o,t) (by simp));obtain ⟨us,h2,h3⟩:=z25 hg r _ b ts hb fun p hpm=>hp p (w0k _ hpm);refine ⟨_,Sh.z3L h1 h2,?_⟩;simp only at h1⊢;rw [h3,w03,hl,List.take_add,List.drop_drop]
    ·cases h
   ·cases h
  ·cases h
theorem z15 {P:Program} {sp:TypeId->Option Nat} {Y:Nat->T->Prop}:∀(n m:Nat) (t:TypeId) (sh:List Sh) (ts:List T),(∀e i k xs,k<n->sp e=some i->xs.length*P.bytesOf e<=reachBytes->xs.length<=maxLen->(∀c∈xs,WT P k e c)->Y i (.lst xs))->z3V P sp m t=some sh->WT P n t ts->Sh.oks Y sh ts
 |0,m,t,sh,ts,_,_,h=>by simp [WT] at h
 |n+1,0,t,sh,ts,hsp,hs,h=>by
  simp only [z3V] at hs;simp only [WT] at h
  cases hu:P.underlying t with
  |none=>rw [hu] at h;exact h.elim
  |some td=>
   rw [hu] at h hs
   cases td with
   |bool=>simp only [w00] at hs h;subst hs;obtain ⟨b,rfl⟩:=h;exact ⟨⟨b,rfl⟩,trivial⟩
   |int k=>simp at hs h;subst hs;obtain ⟨x,rfl,hw⟩:=h;exact ⟨⟨x,rfl,hw⟩,trivial⟩
   |string=>simp at hs h;subst hs;obtain ⟨s,rfl,hw⟩:=h;exact ⟨⟨s,rfl,hw⟩,trivial⟩
   |slice e=>
    obtain ⟨xs,rfl,hr,hl,hc⟩:=h
    cases he:sp e with
    |none=>simp only [he,w00] at hs;subst hs;exact ⟨trivial,trivial⟩
    |some i=>simp only [he,w00] at hs;subst hs;exact ⟨hsp e i n xs (by omega) he hr hl hc,trivial⟩
   |_=>simp at hs
 |n+1,m+1,t,sh,ts,hsp,hs,h=>by
  have hsp':∀e i k xs,k<n->sp e=some i->xs.length*P.bytesOf e<=reachBytes->xs.length<=maxLen->(∀c∈xs,WT P k e c)->Y i (.lst xs):=fun e i k xs hk=>hsp e i k xs (by omega);simp only [z3V] at hs;simp only [WT] at h
  cases hu:P.underlying t with
  |none=>rw [hu] at h;exact h.elim
  |some td=>
   rw [hu] at h hs
   cases td with
   |bool=>simp only [w00] at hs h;subst hs;obtain ⟨b,rfl⟩:=h;exact ⟨⟨b,rfl⟩,trivial⟩
   |int k=>simp at hs h;subst hs;obtain ⟨x,rfl,hw⟩:=h;exact ⟨⟨x,rfl,hw⟩,trivial⟩
   |string=>simp at hs h;subst hs;obtain ⟨s,rfl,hw⟩:=h;exact ⟨⟨s,rfl,hw⟩,trivial⟩
   |slice e=>
    obtain ⟨xs,rfl,hr,hl,hc⟩:=h
    cases hse:sp e with
    |none=>
     simp only [hse,w06] at hs;obtain ⟨s,he,rfl⟩:=hs;exact ⟨⟨xs,rfl,hr,hl,fun c hcm=>z15 n m e s c hsp' he (hc c hcm)⟩,trivial⟩
    |some i=>simp only [hse,w00] at hs;subst hs;exact ⟨hsp e i n xs (by omega) hse hr hl hc,trivial⟩
   |struct fs=>
    simp only [w01] at hs h;obtain ⟨s,hs,hs2⟩:=hs;split at hs2
    ·rename_i hl;simp at hs2;subst hs2
     obtain ⟨us,h1,h2⟩:=z25 (ts:=ts) (Y:=Y) (g:=z3V P sp m) (n:=n) (fun t sh ts a b=>z15 n m t sh ts hsp' a b) _ 0 s hs (fun p hp=>by
      rw [w0m] at hp;obtain ⟨f,hf,rfl⟩:=hp
      exact h.2 f hf)
     rw [List.drop_zero,w1l (by omega)] at h2;subst h2;exact h1
    ·cases hs2
   |array k e=>
    simp only [w01] at hs h;obtain ⟨s,hs,hs2⟩:=hs;split at hs2
    ·rename_i hl;simp at hs2;subst hs2
     obtain ⟨us,h1,h2⟩:=z25 (ts:=ts) (Y:=Y) (g:=z3V P sp m) (n:=n) (fun t sh ts a b=>z15 n m t sh ts hsp' a b) _ 0 s hs (fun p hp=>by
      rw [w0m] at hp;obtain ⟨i,hi,rfl⟩:=hp
      exact h.2 i (w20.1 hi))
     rw [List.drop_zero,w1l (by omega)] at h2;subst h2;exact h1
    ·cases hs2
   |_=>simp at h
theorem Sh.zJ {Y:Nat->T->Prop} {s:Sh} {r:List Sh} {ts:List T} (h:Sh.oks Y (s::r) ts):∃x ts',ts=x::ts'/\s.ok Y x/\Sh.oks Y r ts':=by
 cases ts with
 |nil=>simp [Sh.oks] at h
 |cons x ts=>exact ⟨x,ts,rfl,h⟩
theorem Sh.YS {Y:Nat->T->Prop} {ts:List T} (h:Sh.oks Y [] ts):ts=[]:=by
 cases ts with
 |nil=>rfl
 |cons x ts=>simp [Sh.oks] at h
theorem wo {α:Type} {f:α->List T} {Q:α->Prop}:∀(xs:List (List T)),(∀c∈xs,∃a,c=f a/\Q a)->∃l:List α,xs=l.map f/\∀a∈l,Q a
 |[],_=>⟨[],rfl,by simp⟩
 |c::xs,h=>by
  obtain ⟨l,h1,h2⟩:=wo xs (fun c hc=>h c (w0k _ hc));obtain ⟨a,rfl,ha⟩:=h c (by simp)
  exact ⟨a::l,by simp [h1],fun b hb=>by
   rcases w0t.1 hb with e|e
   ·subst e;exact ha
   ·exact h2 b e⟩
theorem WTs.cons_inv {P:Program} {t:TypeId} {ts:List TypeId} {vs:List V} (h:WTs P (t::ts) vs) {m:Nat} {sh:List Sh} {sp:TypeId->Option Nat} {Y:Nat->T->Prop} (hsp:∀e i n xs,sp e=some i->xs.length*P.bytesOf e<=reachBytes->xs.length<=maxLen->(∀c∈xs,WT P n e c)->Y i (.lst xs)) (hs:z3V P sp m t=some sh):∃xs r,vs=z6m P t xs::r/\Sh.oks Y sh xs/\WTs P ts r:=by
 cases h with
 |cons h r=>exact ⟨_,_,rfl,z15 _ _ _ _ _ (fun e i k xs _=>hsp e i k xs) hs h,r⟩
theorem WTs.zho {P:Program} {vs:List V} (h:WTs P [] vs):vs=[]:=by
 cases h;rfl
theorem zgQ {P:Program} {t:TypeId} (h:Z5 P t=true) (xs:List T):z6m P t xs= .agg (xs.map V.t):=by simp [z6m,h]
theorem zhi {P:Program} {t:TypeId} (h:Z5 P t=false) (x:T):z6m P t [x]= .t x:=by simp [z6m,h]
theorem zhr {H:Type} {enc:TypeId×Value->H} {P:Program} (S:List TypeId) {f:FuncId} {fn:Func} {s:ChangeSpec} {tb:TypeId} {apart fresh handsOn again:Bool} (hp:z42 P S=true) (hl:laidOutB P=true)
  (hT:(fn.params.toList.all fun t=>S.contains t&&P.readableRec t&&decide (t<P.types.size))=true)
  (hrt:fn.resultTypes=#[tb]) (hb:P.underlying tb=some .bool) (hv:s.vars=[]) (hs:∀ds:List (DataW H),ds.length=fn.params.size->s.fn H ds={results:=[.lit (.bool true)],args:=ds})
  (W:World) (base:Nat) (args:Array Value) (ds gs:List (DataW H)) (before:List MemPlace)
  (hval:∀(j:Nat) t v,fn.params[j]?=some t->args[j]?=some v->Value.okWide P W .any base t v)
  (hW:DataW.Whole enc P fn.params.toList s.vars apart W args.toList ds gs before)
  (hwt:(DataW.weightsEach P (fn.params.toList++s.plain.varTypes P) (ds++gs)).all (· <=reachBytes)=true)
  (hok:∀vs,WTs P fn.params.toList vs->z6 P f vs ⟨[],0⟩ {v:= .t (.bool true)}):
  Calls P f args W fun e W'=>∃v,e= .returned v/\s.post enc P fn apart fresh handsOn again W args v W':=by
 refine z6p (S:=S) hp hl (fun t ht=>?_) hrt hb hv hs W base args ds gs before hval hW hwt hok;rw [w0i] at hT;have:=hT t ht;simp only [w07,w0j,List.contains_iff_mem] at this;exact ⟨this.1.1,this.1.2,this.2⟩
theorem zhE {α:Type} {l:List α} (h:l.length=1):∃a,l=[a]:=by
 match l,h with
 |[a],_=>exact ⟨a,rfl⟩
end Go.GB
namespace Go.GB
open Go.RowKit
def z4w:List Sh:=[.int .i64,.int .i64,.str,.num 0,.lst 16 [.str]]
def zf8:List Sh:= .str::z4w
def z5m:List Sh:=[.str,.lst 96 zf8]
def zdB:List Sh:=[.str,.lst 8 [.int .i64]]
def z36:List Sh:=[.str]++zdB++[.bool]++z4w++[.lst 40 z5m]
def za6:List Sh:=[.str,.lst 168 z36]++zdB++[.lst 40 z5m]
def z7j:List Sh:=[.str,.lst 40 z5m]
def zcd:List Sh:=[.int .i64,.str,.lst 16 [.str],.lst 40 z5m,.lst 104 za6,.lst 40 z7j,.lst 168 z36]
def zh3:List Sh:=[.lst 144 zcd]
def YA:Nat->T->Prop
 |0,x=>∃l:List Val,x= .lst (l.map Val.enc)/\l.length*80<=B47/\∀v∈l,v.Ok
 |_,x=>∃l:List Yq,x= .lst (l.map Yq.enc)/\l.length*160<=B47/\∀p∈l,p.Ok/\p.on.length<=maxLen
theorem yu:reachBytes<=140737488355328:=by decide
theorem zaq {Y:Nat->T->Prop} {x:T} {b:Nat} (h:(Sh.lst b [.str]).ok Y x):∃l:List Str,x= .lst (l.map sE)/\l.length*b<=reachBytes/\∀s∈l,s.length<=reachBytes:=by
 obtain ⟨xs,rfl,h1,_,h2⟩:=h
 obtain ⟨l,rfl,h3⟩:=wo (f:=sE) (Q:=fun s=>s.length<=reachBytes) xs fun c hc=>by
  obtain ⟨x,r,rfl,⟨s,rfl,hs⟩,h⟩:=Sh.zJ (h2 c hc);obtain rfl:=Sh.YS h;exact ⟨s,rfl,hs⟩
 exact ⟨l,rfl,by simpa using h1,h3⟩
theorem zea {Y:Nat->T->Prop} {x:T} {b:Nat} (h:(Sh.lst b [.int .i64]).ok Y x):∃l:List Int,x= .lst (l.map nE)/\l.length*b<=reachBytes:=by
 obtain ⟨xs,rfl,h1,_,h2⟩:=h
 obtain ⟨l,rfl,h3⟩:=wo (f:=nE) (Q:=fun _=>True) xs fun c hc=>by
  obtain ⟨x,r,rfl,⟨s,rfl,hs⟩,h⟩:=Sh.zJ (h2 c hc);obtain rfl:=Sh.YS h;exact ⟨s,rfl,trivial⟩
 exact ⟨l,rfl,by simpa using h1⟩
theorem qV {α:Type} {f:α->List T} {Q:α->Prop} {Y:Nat->T->Prop} {x:T} {b:Nat} {sh:List Sh} (hf:∀c,Sh.oks Y sh c->∃a,c=f a/\Q a) (h:(Sh.lst b sh).ok Y x):∃l:List α,x= .lst (l.map f)/\l.length*b<=reachBytes/\l.length<=maxLen/\∀a∈l,Q a:=by
 obtain ⟨xs,rfl,h1,h0,h2⟩:=h;obtain ⟨l,rfl,h3⟩:=wo (f:=f) (Q:=Q) xs fun c hc=>hf c (h2 c hc)
 exact ⟨l,rfl,by simpa using h1,by simpa using h0,h3⟩
theorem z8H {r:List Sh} {c:List T} (h:Sh.oks YA (z4w++r) c):∃(v:Val) (c':List T),c=v.cs++c'/\v.Ok/\Sh.oks YA r c':=by
 obtain ⟨x1,c,rfl,⟨k,rfl,_⟩,g1⟩:=Sh.zJ h;obtain ⟨x2,c,rfl,⟨i,rfl,_⟩,g2⟩:=Sh.zJ g1;obtain ⟨x3,c,rfl,⟨t,rfl,ht⟩,g3⟩:=Sh.zJ g2;obtain ⟨x4,c,rfl,⟨its,rfl,hi1,hi2⟩,g4⟩:=Sh.zJ g3;obtain ⟨x5,c,rfl,hk,g5⟩:=Sh.zJ g4;obtain ⟨ks,rfl,hk1,hk2⟩:=zaq hk;have:=yu
 refine ⟨.mk k i t its ks,c,rfl,.mk hi1 (by unfold B47;omega) hi2 (by omega) (fun x hx=>by have:=hk2 x hx;omega),g5⟩
theorem zeK {c:List T} (h:Sh.oks YA z4w c):∃v:Val,c=v.enc/\v.Ok:=by
 obtain ⟨v,c',rfl,h1,h2⟩:=z8H (r:=[]) (by simpa using h);obtain rfl:=Sh.YS h2
 exact ⟨v,by rw [Val.wG,w1j],h1⟩
theorem zg2 {c:List T} (h:Sh.oks YA zf8 c):∃a:Arg,c=a.enc/\a.Ok:=by
 obtain ⟨x,c,rfl,⟨n,rfl,_⟩,g1⟩:=Sh.zJ h;obtain ⟨v,c',rfl,h1,h2⟩:=z8H (r:=[]) (by simpa using g1);obtain rfl:=Sh.YS h2
 exact ⟨⟨n,v⟩,by simp [Arg.enc,Val.cs],h1⟩
theorem zfW {c:List T} (h:Sh.oks YA z5m c):∃a:Dir,c=a.enc/\a.Ok:=by
 have:=yu;obtain ⟨x,c,rfl,⟨n,rfl,hn⟩,g1⟩:=Sh.zJ h;obtain ⟨x,c,rfl,hx,g2⟩:=Sh.zJ g1;obtain rfl:=Sh.YS g2;obtain ⟨l,rfl,h1,_,h2⟩:=qV (fun c hc=>zg2 hc) hx
 exact ⟨⟨n,l⟩,rfl,⟨by show l.length<=_;omega,h2,by show n.length<=_;omega⟩⟩
theorem z3f {b:Nat} (hb:0<b) {x:T} (h:(Sh.lst b z5m).ok YA x):∃l:List Dir,x= .lst (l.map Dir.enc)/\l.length<=140737488355328/\∀d∈l,d.Ok:=by
 have:=yu;obtain ⟨l,rfl,h1,_,h2⟩:=qV (fun c hc=>zfW hc) h;refine ⟨l,rfl,?_,h2⟩;have:l.length<=l.length*b:=Nat.le_mul_of_pos_right _ hb;omega
theorem zdH {r:List Sh} {c:List T} (h:Sh.oks YA (zdB++r) c):∃(v:Ref) (c':List T),c= .str v.name:: .lst (v.za.map nE)::c'/\v.Ok/\Sh.oks YA r c':=by
 have:=yu;obtain ⟨x1,c,rfl,⟨n,rfl,hn⟩,g1⟩:=Sh.zJ h;obtain ⟨x5,c,rfl,hk,g2⟩:=Sh.zJ g1;obtain ⟨ks,rfl,hk1⟩:=zea hk
 exact ⟨⟨n,ks⟩,c,rfl,⟨by show ks.length*8<=_;omega,by show n.length<=_;omega⟩,g2⟩
theorem zdk {c:List T} (h:Sh.oks YA z36 c):∃a:Input,c=a.enc/\a.Ok:=by
 have:=yu;obtain ⟨x,c,rfl,⟨n,rfl,hn⟩,g1⟩:=Sh.zJ h;obtain ⟨t,c,rfl,ht,g2⟩:=zdH g1;obtain ⟨x,c,rfl,⟨b,rfl⟩,g3⟩:=Sh.zJ g2;obtain ⟨v,c,rfl,hv,g4⟩:=z8H g3;obtain ⟨x,c,rfl,hx,g5⟩:=Sh.zJ g4;obtain rfl:=Sh.YS g5;obtain ⟨l,rfl,h1,h2⟩:=z3f (by decide) hx
 exact ⟨⟨n,t,b,v,l⟩,by simp [Input.enc,Val.cs],⟨ht,hv,h1,h2,by show n.length<=_;omega⟩⟩
theorem z5E {x:T} (h:(Sh.lst 168 z36).ok YA x):∃l:List Input,x= .lst (l.map Input.enc)/\l.length<=140737488355328/\∀d∈l,d.Ok:=by
 have:=yu;obtain ⟨l,rfl,h1,_,h2⟩:=qV (fun c hc=>zdk hc) h
 exact ⟨l,rfl,by omega,h2⟩
theorem zdL {c:List T} (h:Sh.oks YA za6 c):∃a:Field,c=a.enc/\a.Ok:=by
 have:=yu;obtain ⟨x,c,rfl,⟨n,rfl,hn⟩,g1⟩:=Sh.zJ h;obtain ⟨x,c,rfl,hx,g2⟩:=Sh.zJ g1;obtain ⟨ins,rfl,i1,i2⟩:=z5E hx;obtain ⟨t,c,rfl,ht,g3⟩:=zdH g2;obtain ⟨x,c,rfl,hx,g4⟩:=Sh.zJ g3;obtain rfl:=Sh.YS g4;obtain ⟨l,rfl,h1,h2⟩:=z3f (by decide) hx
 exact ⟨⟨n,ins,t,l⟩,rfl,⟨i1,i2,ht,h1,h2,by show n.length<=_;omega⟩⟩
theorem zbc {c:List T} (h:Sh.oks YA z7j c):∃a:zh,c=a.enc/\a.Ok:=by
 have:=yu;obtain ⟨x,c,rfl,⟨n,rfl,hn⟩,g1⟩:=Sh.zJ h;obtain ⟨x,c,rfl,hx,g2⟩:=Sh.zJ g1;obtain rfl:=Sh.YS g2;obtain ⟨l,rfl,h1,h2⟩:=z3f (by decide) hx
 exact ⟨⟨n,l⟩,rfl,⟨h1,h2,by show n.length<=_;omega⟩⟩
theorem zfw {c:List T} (h:Sh.oks YA zcd c):∃a:Def,c=a.enc/\a.Ok:=by
 have:=yu;obtain ⟨x,c,rfl,⟨k,rfl,_⟩,g1⟩:=Sh.zJ h;obtain ⟨x,c,rfl,⟨n,rfl,hn⟩,g2⟩:=Sh.zJ g1;obtain ⟨x,c,rfl,hx,g3⟩:=Sh.zJ g2;obtain ⟨im,rfl,a1,a2⟩:=zaq hx;obtain ⟨x,c,rfl,hx,g4⟩:=Sh.zJ g3;obtain ⟨ds,rfl,b1,b2⟩:=z3f (by decide) hx;obtain ⟨x,c,rfl,hx,g5⟩:=Sh.zJ g4;obtain ⟨fs,rfl,c1,_,c2⟩:=qV (fun c hc=>zdL hc) hx;obtain ⟨x,c,rfl,hx,g6⟩:=Sh.zJ g5;obtain ⟨ms,rfl,d1,_,d2⟩:=qV (fun c hc=>zbc hc) hx;obtain ⟨x,c,rfl,hx,g7⟩:=Sh.zJ g6;obtain ⟨is,rfl,e1,e2⟩:=z5E hx;obtain rfl:=Sh.YS g7
 exact ⟨⟨k,n,im,ds,fs,ms,is⟩,rfl,⟨by show im.length<=_;omega,b1,b2,by show fs.length<=_;omega,c2,by show ms.length<=_;omega,d2,e1,e2,by show n.length<=_;omega,fun y hy=>by have:=a2 y hy;omega⟩⟩
theorem zg3 {r:List Sh} {c:List T} (h:Sh.oks YA (zh3++r) c):∃(l:List Def) (c':List T),c= .lst (l.map Def.enc)::c'/\zV l/\Sh.oks YA r c':=by
 have:=yu;obtain ⟨x,c,rfl,hx,g1⟩:=Sh.zJ h;obtain ⟨l,rfl,h1,_,h2⟩:=qV (fun c hc=>zfw hc) hx
 exact ⟨l,c,rfl,⟨by omega,h2,by omega⟩,g1⟩
def spV (vt:TypeId) (e:TypeId):Option Nat:=if e=vt then some 0 else none
theorem zgo {P:Program} {vt:TypeId} (hb:P.bytesOf vt=80) (hs:z3V P (spV vt) 6 vt=some z4w):∀(n:Nat) (c:List T),WT P n vt c->∃v:Val,c=v.enc/\v.Ok:=by
 intro n
 induction n using Nat.strongRecOn with
 |_ n ih=>
  intro c h;refine zeK (z15 (Y:=YA) n 6 vt z4w c (fun e i k xs hk he hr hl hc=>?_) hs h);unfold spV at he;split at he
  ·rename_i e1;subst e1;simp only [w00] at he;subst he;obtain ⟨l,rfl,h3⟩:=wo (f:=Val.enc) (Q:=Val.Ok) xs fun c hcm=>ih k hk c (hc c hcm);have:=yu;rw [hb] at hr
   exact ⟨l,rfl,by unfold B47;simp at hr;omega,h3⟩
  ·cases he
end Go.GB
namespace Go.GB
open Go.RowKit Go.WideShapes Go.ChangeShapes
section
variable {H:Type} {enc:TypeId×Value->H} {P:Program} {w:World} {sp:Nat->Bool} {held:Bool} {S:List TypeId} {B:DataW H->Nat}
end
section
variable {H:Type} {enc:TypeId×Value->H} {P:Program}
end
end Go.GB
namespace Go.GB.C35
open Go.GB
structure Pr (P:Program):Prop where
 mixed:P.follows .mixedOrders=true
 i171:z9 P 171=some (n171,c171.bare,r171)
 i141:z9 P 141=some (n141,c141.bare,r141)
 i140:z9 P 140=some (n140,c140.bare,r140)
 i80:z9 P 80=some (n80,c80.bare,r80)
 i170:z9 P 170=some (n170,c170.bare,r170)
 i169:z9 P 169=some (n169,c169.bare,r169)
 i137:z9 P 137=some (n137,c137.bare,r137)
 i33:z9 P 33=some (n33,c33.bare,r33)
 i181:z9 P 181=some (n181,c181.bare,r181)
 i182:z9 P 182=some (n182,c182.bare,r182)
 i183:z9 P 183=some (n183,c183.bare,r183)
 i178:z9 P 178=some (n178,c178.bare,r178)
 i179:z9 P 179=some (n179,c179.bare,r179)
 i180:z9 P 180=some (n180,c180.bare,r180)
 i185:z9 P 185=some (n185,c185.bare,r185)
 i186:z9 P 186=some (n186,c186.bare,r186)
variable {P:Program}
theorem zci (H:Pr P) (l:List Str) (hl:l.length*16<=140737488355328):z6 P 33 [.t (.lst (l.map sE))] ⟨[],0⟩ {v:= .t (.lst (l.map sE))}:=by
 refine z6.run H.i33 H.mixed Z Z ?_;refine fR Z ?_;refine p0 Z ?_;refine fM Z ?_;refine Run.z44 Z Z (fun h=>?_) (fun _=>?_)
 ·have hn:l=[]:=by
   cases l with
   |nil=>rfl
   |cons x r=>
    have:=h (sE x) (by simp);simp [sE] at this
  subst hn;refine fR Z ?_;refine Run.fin Z (z3.go ?_);exact .nil Z
 ·refine fR Z ?_;refine apN sE l Z Z Z ?_ (h1:=hl) (h2:=by omega);refine fM rfl ?_;refine Run.fin rfl (z3.go ?_);exact .own rfl
def z5I (P:Program) (v:Val):Prop:=z6 P 80 [v.v] ⟨[],0⟩ {v:=v.v}
theorem z7w (H:Pr P) (l:List Val) (hl:l.length*80<=140737488355328) (hrec:∀x,x∈l->z5I P x):z6 P 137 [.t (.lst (l.map Val.enc))] ⟨[],0⟩ {v:= .t (.lst (l.map Val.enc))}:=by
 refine z6.run H.i137 H.mixed Z Z ?_;refine fR Z ?_;refine lM Z Z Z ?_;refine fM Z ?_;refine zu l (fun i (B:List Val)=>{env:=[(3,.own 0 5 (B.map Val.enc)),(6,.t (.lst (l.map Val.enc))),(7,.t (.int .i64 l.length)),(8,.t (.int .i64 i))],s:=⟨[(0,.arr B.length)],1⟩}) (fun r i B=>B.length=i/\B++r=l) 0 [] Z ⟨rfl,rfl⟩ Z Z Z ?_ ?_
 ·rintro B ⟨hBl,hB⟩
  have e:B=l:=by rw [←hB];simp
  refine fR Z ?_;refine Run.ze Z Z (by simp) ?_;refine fR Z ?_;refine Run.fin Z (z3.go ?_);exact .own (by rw [e])
 ·rintro i x r B h1 hi hd ⟨hBl,hB⟩ ih;have hBl':B.length=i:=hBl;have hc:=hrec x (zMG h1);unfold z5I at hc;refine fR Z ?_;refine Run.zf Z Z (by simp;omega) ?_;refine fR Z ?_;refine Mid.w6 (Val.wG x) Z Z Z h1 Z Z ?_;refine fM Z ?_;refine Mid.call (hc) Z Z Z Z ?_;refine fM Z ?_;refine apM Val.enc B [x] Z (congrArg (fun c=>some (T.lst [c])) (Val.wG x).symm) Z Z Z ?_ (hl:=fun x=>(congrArg List.length (Val.wG x)).trans Z);refine fM Z ?_;refine aL Z Z Z Z Z ?_;refine fM Z ?_;exact zl 1 Z (ih (B++[x]) ⟨by simp;omega,by rw [←hB];simp⟩) rfl rfl rfl
theorem zbP (H:Pr P) (v:Val) (hv:v.Ok) (hrec:∀x,x∈v.items->z5I P x):z5I P v:=by
 have hil:=hv.il;have hkl:=hv.kl;unfold z5I;refine z6.run H.i80 H.mixed Z Z ?_;refine fR Z ?_;refine Mid.call (z7w H v.items hil hrec) Z Z Z Z ?_;refine fM Z ?_;refine Mid.call (zci H v.keys hkl) Z Z Z Z ?_;refine fM Z ?_;refine Run.fin Z (z3.go ?_);exact .le (.same Z)
theorem z7X (H:Pr P):∀(k:Nat) (v:Val),SizeOf.sizeOf v<=k->v.Ok->z5I P v
 |0,v,h,_=>by cases v;simp at h
 |k+1,v,h,hv=>zbP H v hv fun x hx=>z7X H k x (by have:=Val.yd v hx;omega) (hv.it x hx)
theorem za7 (H:Pr P) (v:Val) (hv:v.Ok):z6 P 80 [v.v] ⟨[],0⟩ {v:=v.v}:=z7X H _ v (w09 _) hv
end Go.GB.C35
namespace Go.GB.C35
open Go.GB
variable {P:Program}
def wQ (a b:Int):Int:=if a<b then -1 else if a>b then 1 else 0
def z2d (a b:Str):Int:=if Op.bytesLess a b=true then -1 else if a=b then 0 else 1
theorem Wg {a b:Int}:wQ a b=0↔a=b:=by
 unfold wQ;split
 ·constructor
  ·intro h;omega
  ·intro h;omega
 ·split
  ·constructor
   ·intro h;omega
   ·intro h;omega
  ·constructor
   ·intro _;omega
   ·intro _;rfl
theorem QO:∀s:List UInt8,Op.bytesLess s s=false
 |[]=>rfl
 |a::r=>by simp [Op.bytesLess,QO r]
theorem zbm {a b:Str}:z2d a b=0↔a=b:=by
 unfold z2d;constructor
 ·intro h;split at h
  ·omega
  ·split at h
   ·assumption
   ·omega
 ·rintro rfl;simp [QO]
theorem nz {p q:Int}:(if p≠0 then p else q)=0↔p=0/\q=0:=by
 by_cases h:p=0
 ·simp [h]
 ·simp [h]
theorem z01:∀{a b:Str},Go.Lib.compareBytes a b=0↔a=b
 |[],[]=>by simp [Go.Lib.compareBytes]
 |[],y::s=>by simp [Go.Lib.compareBytes]
 |x::r,[]=>by simp [Go.Lib.compareBytes]
 |x::r,y::s=>by
  unfold Go.Lib.compareBytes;by_cases h3:x<y
  ·simp only [h3,w17];constructor
   ·intro h;omega
   ·intro h;cases h;exact absurd h3 (UInt8.lt_irrefl _)
  ·by_cases h4:y<x
   ·simp only [h3,h4,w17,w0x];constructor
    ·intro h;omega
    ·intro h;cases h;exact absurd h4 (UInt8.lt_irrefl _)
   ·have e:x=y:=UInt8.le_antisymm (UInt8.not_lt.1 h4) (UInt8.not_lt.1 h3);subst e;simp only [h3,w0x,z01 (a:=r) (b:=s),List.cons.injEq,true_and]
def YF (l:List Str) (i:Nat):Str:=(l[i]?).getD []
mutual
def z0b (c:Str->Str->Int):Val->Val->Int
 | .mk k i t its ks,b=>if wQ k b.kind≠0 then wQ k b.kind else if wQ i b.int≠0 then wQ i b.int else if c t b.text≠0 then c t b.text else Yi c its b.items ks b.keys 0 (wQ its.length b.items.length)
def Yi (c:Str->Str->Int):List Val->List Val->List Str->List Str->Nat->Int->Int
 |[],_,_,_,_,z=>z
 |x::r,l,ka,kb,j,z=>
  match l with
  |[]=>z
  |y::s=>if c (YF ka j) (YF kb j)≠0 then c (YF ka j) (YF kb j) else if z0b c x y≠0 then z0b c x y else Yi c r s ka kb (j+1) z
end
theorem z19 (c:Str->Str->Int) (a b:Val):z0b c a b=if wQ a.kind b.kind≠0 then wQ a.kind b.kind else if wQ a.int b.int≠0 then wQ a.int b.int else if c a.text b.text≠0 then c a.text b.text else Yi c a.items b.items a.keys b.keys 0 (wQ a.items.length b.items.length):=by
 cases a;rfl
def z5T (a b:Str):Int:=if a=b then 0 else 1
theorem z0Z {a b:Str}:z5T a b=0↔a=b:=by unfold z5T;split<;>simp_all
def z2p (a b:Val):Bool:=decide (z0b z5T a b=0)
theorem zat {c d:Str->Str->Int} (hc:∀{a b},c a b=0↔a=b) (hd:∀{a b},d a b=0↔a=b):∀k:Nat,(∀a b:Val,SizeOf.sizeOf a<=k->(z0b c a b=0↔z0b d a b=0))/\
  ∀(l m:List Val) (ka kb:List Str) (j:Nat) (z:Int),SizeOf.sizeOf l<=k->(Yi c l m ka kb j z=0↔Yi d l m ka kb j z=0)
 |0=>⟨fun a b h=>by cases a;simp at h,fun l m ka kb j z h=>by cases l<;>simp at h⟩
 |k+1=>by
  have ih:=zat (c:=c) (d:=d) hc hd k;have hcd:∀a b,c a b=0↔d a b=0:=fun a b=>hc.trans hd.symm;refine ⟨fun a b h=>?_,fun l m ka kb j z h=>?_⟩
  ·have h2:=ih.2 a.items b.items a.keys b.keys 0 (wQ a.items.length b.items.length) (by cases a;simp only [Val.items];simp only [Val.mk.sizeOf_spec] at h;omega);rw [z19,z19];simp only [nz,h2,hcd]
  ·cases l with
   |nil=>simp [Yi]
   |cons x r=>
    cases m with
    |nil=>simp [Yi]
    |cons y s=>
     have h1:=ih.1 x y (by simp only [List.cons.sizeOf_spec] at h;omega);have h2:=ih.2 r s ka kb (j+1) z (by simp only [List.cons.sizeOf_spec] at h;omega);simp only [Yi,nz,h1,h2,hcd]
theorem z8b {c:Str->Str->Int} (hc:∀{a b},c a b=0↔a=b) (a b:Val):(z0b c a b==0)=z2p a b:=by
 have:=(zat (c:=c) (d:=z5T) hc z0Z _).1 a b (w09 _);rw [w1n];simp [z2p,this]
theorem z6L (H:Pr P) (a b:Int):z6 P 181 [.t (.int .i64 a),.t (.int .i64 b)] ⟨[],0⟩ {v:= .t (.int .i64 (wQ a b))}:=by
 refine z6.run H.i181 H.mixed Z Z ?_;refine fR Z ?_;by_cases h1:a<b
 ·refine Run.zf Z Z (by simp [h1]) ?_;refine fR Z ?_;refine Run.fin Z (z3.go ?_);exact .t (by simp [wQ,h1])
 ·refine Run.ze Z Z (by simp;omega) ?_;refine fR Z ?_;by_cases h2:b<a
  ·refine Run.zf Z Z (by simp [h2]) ?_;refine fR Z ?_;refine Run.fin Z (z3.go ?_);exact .t (by simp [wQ,h1,h2])
  ·refine Run.ze Z Z (by simp;omega) ?_;refine fR Z ?_;refine Run.fin Z (z3.go ?_);exact .t (by simp [wQ,h1,h2])
theorem qO (H:Pr P) (a b:Str):z6 P 182 [.t (.str a),.t (.str b)] ⟨[],0⟩ {v:= .t (.int .i64 (z2d a b))}:=by
 refine z6.run H.i182 H.mixed Z Z ?_;refine fR Z ?_;by_cases h1:Op.bytesLess a b=true
 ·refine Run.zf Z Z h1 ?_;refine fR Z ?_;refine Run.fin Z (z3.go ?_);exact .t (by simp [z2d,h1])
 ·refine Run.ze Z Z (by simpa using h1) ?_;refine fR Z ?_;by_cases h2:a=b
  ·refine Run.ze Z Z (by simp [h1,h2]) ?_;refine fR Z ?_;refine Run.fin Z (z3.go ?_);exact .t (by simp [z2d,h2,QO])
  ·refine Run.zf Z Z (by simp [h1,h2]) ?_;refine fR Z ?_;refine Run.fin Z (z3.go ?_);exact .t (by simp [z2d,h1,h2])
theorem zcx (H:Pr P) (v:Val) (hv:v.Ok) (i:Nat) (hi:i<=140737488355328):z6 P 183 [v.v,.t (.int .i64 i)] ⟨[],0⟩ {v:= .t (.str (YF v.keys i))}:=by
 have hkl:=hv.kl;refine z6.run H.i183 H.mixed Z Z ?_;refine fR Z ?_;refine lM Z Z Z ?_;refine fM Z ?_;refine Run.cond Z Z (fun h=>?_) (fun h=>?_)
 ·have h':i<v.keys.length:=by simpa using h
  have h1:v.keys[i]?=some (v.keys[i]'h'):=by simp
  have hk:YF v.keys i=v.keys[i]'h':=by simp [YF,h1]
  generalize v.keys[i]'h'=x at h1 hk;refine fR Z ?_;refine Mid.zb Z Z Z h1 Z Z ?_;refine fM Z ?_;refine Run.fin Z (z3.go ?_);exact .t (by simp [hk])
 ·have h':¬ i<v.keys.length:=by simpa using h
  have hk:YF v.keys i=[]:=by simp [YF,w19 (Nat.le_of_not_lt h')]
  refine fR Z ?_;refine Run.fin Z (z3.go ?_);exact .t (by simp [hk])
theorem z9O (H:Pr P) (v:Val) (hv:v.Ok) (i:Nat) (hi:i<=140737488355328):z6 P 180 [v.v,.t (.int .i64 i)] ⟨[],0⟩ {v:= .t (.str (YF v.keys i))}:=by
 have hkl:=hv.kl;refine z6.run H.i180 H.mixed Z Z ?_;refine fR Z ?_;refine lM Z Z Z ?_;refine fM Z ?_;refine Run.cond Z Z (fun h=>?_) (fun h=>?_)
 ·have h':i<v.keys.length:=by simpa using h
  have h1:v.keys[i]?=some (v.keys[i]'h'):=by simp
  have hk:YF v.keys i=v.keys[i]'h':=by simp [YF,h1]
  generalize v.keys[i]'h'=x at h1 hk;refine fR Z ?_;refine Mid.zb Z Z Z h1 Z Z ?_;refine fM Z ?_;refine Run.fin Z (z3.go ?_);exact .t (by simp [hk])
 ·have h':¬ i<v.keys.length:=by simpa using h
  have hk:YF v.keys i=[]:=by simp [YF,w19 (Nat.le_of_not_lt h')]
  refine fR Z ?_;refine Run.fin Z (z3.go ?_);exact .t (by simp [hk])
theorem zcp (H:Pr P) (a:Int):z6 P 185 [.t (.int .i64 a)] ⟨[],0⟩ {v:= .t (.bool false)}:=by
 refine z6.run H.i185 H.mixed Z Z ?_;refine fR Z ?_;refine Run.fin Z (z3.go ?_);exact .t (by simp)
theorem z11 (H:Pr P) (a b:Int):z6 P 178 [.t (.int .i64 a),.t (.int .i64 b)] ⟨[],0⟩ {v:= .t (.int .i64 (wQ a b))}:=by
 refine z6.run H.i178 H.mixed Z Z ?_;refine fR Z ?_;refine Mid.call (zcp H a) Z Z Z Z ?_;refine fM Z ?_;refine Mid.call (zcp H b) Z Z Z Z ?_;refine fM Z ?_;refine Run.ze Z Z Z ?_;refine fR Z ?_;refine Run.ze Z Z Z ?_;refine fR Z ?_;by_cases h1:a<b
 ·refine Run.zf Z Z (by simp [h1]) ?_;refine fR Z ?_;refine Run.fin Z (z3.go ?_);exact .t (by simp [wQ,h1])
 ·refine Run.ze Z Z (by simp;omega) ?_;refine fR Z ?_;by_cases h2:b<a
  ·refine Run.zf Z Z (by simp [h2]) ?_;refine fR Z ?_;refine Run.fin Z (z3.go ?_);exact .t (by simp [wQ,h1,h2])
  ·refine Run.ze Z Z (by simp;omega) ?_;refine fR Z ?_;refine Run.fin Z (z3.go ?_);exact .t (by simp [wQ,h1,h2])
theorem z7p (H:Pr P) (a b:Str):z6 P 186 [.t (.str a),.t (.str b)] ⟨[],0⟩ {v:= .t (.int .i64 (Go.Lib.compareBytes a b))}:=by
 refine z6.run H.i186 H.mixed Z Z ?_;refine fR Z ?_;refine p0 Z ?_;refine fM Z ?_;refine Run.fin Z (z3.go ?_);exact .t Z
theorem z2C (H:Pr P) (a b:Str):z6 P 179 [.t (.str a),.t (.str b)] ⟨[],0⟩ {v:= .t (.int .i64 (Go.Lib.compareBytes a b))}:=by
 refine z6.run H.i179 H.mixed Z Z ?_;refine fR Z ?_;refine Mid.call (z7p H a b) Z Z Z Z ?_;refine fM Z ?_;refine Run.fin Z (z3.go ?_);exact .t Z
end Go.GB.C35
namespace Go.GB.C35
open Go.GB
variable {P:Program}
theorem y9 {α:Type} {l:List α} {i:Nat} {x:α} (h:l[i]?=some x):l.drop i=x::l.drop (i+1):=by
 obtain ⟨h1,rfl⟩:=w02.1 h;exact List.drop_eq_getElem_cons h1
theorem z4Q {c:Str->Str->Int} {l m:List Val} {ka kb:List Str} {j:Nat} {z:Int} (h:l=[]∨m=[]):Yi c l m ka kb j z=z:=by
 rcases h with rfl|rfl
 ·simp [Yi]
 ·cases l<;>simp [Yi]
theorem z9I {l m:List Val} {i:Nat} (h:i=(l.zip m).length):l.drop i=[]∨m.drop i=[]:=by
 simp only [List.length_zip] at h;by_cases h2:l.length<=m.length
 ·exact .inl (w1m (by omega))
 ·exact .inr (w1m (by omega))
theorem z79 {c:Str->Str->Int} {l m:List Val} {ka kb:List Str} {i:Nat} {z:Int} {x y:Val} (h1:l[i]?=some x) (h2:m[i]?=some y):Yi c (l.drop i) (m.drop i) ka kb i z=if c (YF ka i) (YF kb i)≠0 then c (YF ka i) (YF kb i) else if z0b c x y≠0 then z0b c x y else Yi c (l.drop (i+1)) (m.drop (i+1)) ka kb (i+1) z:=by
 rw [y9 h1,y9 h2];simp only [Yi]
def zdp (P:Program) (a:Val):Prop:=∀b:Val,b.Ok->z6 P 170 [a.v,b.v] ⟨[],0⟩ {v:= .t (.int .i64 (z0b z2d a b))}
theorem zaT (H:Pr P) (a:Val) (ha:a.Ok) (hrec:∀x,x∈a.items->zdp P x):zdp P a:=by
 intro b hb;have hil:=ha.il;have hil2:=hb.il;have hk:=z6L H a.kind b.kind;have hi:=z6L H a.int b.int;have ht:=qO H a.text b.text;have hz:=z6L H (a.items.length:Nat) (b.items.length:Nat);have hR:=z19 z2d a b;generalize z0b z2d a b=R at hR⊢;refine z6.run H.i170 H.mixed Z Z ?_;refine fR Z ?_;by_cases h1:wQ a.kind b.kind=0
 ·rw [h1] at hk hR;rw [w0g (by simp)] at hR;refine Mid.call (hk) Z Z Z Z ?_;refine fM Z ?_;refine Run.zf Z Z Z ?_;refine fR Z ?_;by_cases h2:wQ a.int b.int=0
  ·rw [h2] at hi hR;rw [w0g (by simp)] at hR;refine Mid.call (hi) Z Z Z Z ?_;refine fM Z ?_;refine Run.zf Z Z Z ?_;refine fR Z ?_;by_cases h3:z2d a.text b.text=0
   ·rw [h3] at ht hR;rw [w0g (by simp)] at hR;generalize wQ (a.items.length:Nat) (b.items.length:Nat)=z at hz hR;refine Mid.call (ht) Z Z Z Z ?_;refine fM Z ?_;refine zu (a.items.zip b.items) (fun i (_:Unit)=>{env:=[(2,.ptr 0 0),(3,.ptr 1 0),(5,.t (.int .i64 0)),(6,.t (.int .i64 i))],s:=⟨[(0,(VCo a)),(1,(VCo b))],2⟩}) (fun r i _=>R=Yi z2d (a.items.drop i) (b.items.drop i) a.keys b.keys i z) 2 () Z hR Z Z Z ?_ ?_
    ·intro _ hinv;rw [z4Q (z9I rfl)] at hinv;subst hinv;refine fR Z ?_;refine Run.zf Z Z (by simp) ?_;refine fR Z ?_;refine lM Z Z Z ?_;refine fM Z ?_;refine lMG Z Z Z Z ?_;refine fM Z ?_;refine Run.zf Z Z (by simp [List.length_zip];omega) ?_;refine fR Z ?_;refine lM Z Z Z ?_;refine fM Z ?_;refine lM Z Z Z ?_;refine Mid.call (hz) Z Z Z Z ?_;refine fM Z ?_;refine Run.fin Z (z3.go ?_);exact .t Z
    ·intro i p r _ g1 gi gd hinv ih;obtain ⟨e1,e2⟩:=List.getElem?_zip_eq_some.1 g1;obtain ⟨x,y⟩:=p;simp only at e1 e2;have b1:=(w02.1 e1).1;have b2:=(w02.1 e2).1;rw [z79 e1 e2] at hinv;have hc:=hrec x (zMG e1) y (hb.it y (zMG e2));have hs:=qO H (YF a.keys i) (YF b.keys i);refine fR Z ?_;refine Run.zf Z Z (by simp) ?_;refine fR Z ?_;refine lM Z Z Z ?_;refine fM Z ?_;refine lMG Z Z Z Z ?_;refine fM Z ?_;refine Run.ze Z Z (by simp;omega) ?_;refine fR Z ?_;refine Mid.call (zcx H a ha i (by omega)) Z Z Z Z ?_;refine fM Z ?_;refine Mid.call (zcx H b hb i (by omega)) Z Z Z Z ?_;skip;by_cases h4:z2d (YF a.keys i) (YF b.keys i)=0
     ·rw [h4] at hs hinv;rw [w0g (by simp)] at hinv;refine Mid.call (hs) Z Z Z Z ?_;refine fM Z ?_;refine Run.zf Z Z Z ?_;refine fR Z ?_;refine Mid.w6 (Val.wG x) Z Z Z e1 Z Z ?_;refine fM Z ?_;refine Mid.w6 (Val.wG y) Z Z Z e2 Z Z ?_;refine fM Z ?_;by_cases h5:z0b z2d x y=0
      ·rw [h5] at hc hinv;rw [w0g (by simp)] at hinv;refine Mid.call (hc) Z Z Z Z ?_;refine fM Z ?_;refine aL Z Z Z Z Z ?_;refine fM Z ?_;exact zl 2 Z (ih () hinv) Z Z Z
      ·rw [w0e h5] at hinv;refine Mid.call (hc) Z Z Z Z ?_;refine fM Z ?_;refine aL Z Z Z Z Z ?_;refine fM Z ?_;skip;refine Run.adv 200 Z (Run.wY ?_);refine fR Z ?_;refine Run.ze Z Z (by simpa using h5) ?_;refine fR Z ?_;refine Run.fin Z (z3.go ?_);exact .t (by rw [hinv])
     ·rw [w0e h4] at hinv;refine Mid.call (hs) Z Z Z Z ?_;refine fM Z ?_;refine Run.ze Z Z (by simpa using h4) ?_;refine fR Z ?_;refine aL Z Z Z Z Z ?_;refine fM Z ?_;refine Run.adv 200 Z (Run.wY ?_);refine fR Z ?_;refine Run.ze Z Z (by simpa using h4) ?_;refine fR Z ?_;refine Run.fin Z (z3.go ?_);exact .t (by rw [hinv])
   ·rw [w0e h3] at hR;refine Mid.call (ht) Z Z Z Z ?_;refine fM Z ?_;skip;refine Run.loop Z ?_;refine Run.wY ?_;refine fR Z ?_;refine Run.ze Z Z (by simpa using h3) ?_;refine fR Z ?_;refine Run.fin Z (z3.go ?_);exact .t (by rw [hR])
  ·rw [w0e h2] at hR;refine Mid.call (hi) Z Z Z Z ?_;refine fM Z ?_;refine Run.ze Z Z (by simpa using h2) ?_;refine fR Z ?_;refine Run.loop Z ?_;refine Run.wY ?_;refine fR Z ?_;refine Run.ze Z Z (by simpa using h2) ?_;refine fR Z ?_;refine Run.fin Z (z3.go ?_);exact .t (by rw [hR])
 ·rw [w0e h1] at hR;refine Mid.call (hk) Z Z Z Z ?_;refine fM Z ?_;refine Run.ze Z Z (by simpa using h1) ?_;refine fR Z ?_;refine Run.ze Z Z (by simpa using h1) ?_;refine fR Z ?_;refine Run.loop Z ?_;refine Run.wY ?_;refine fR Z ?_;refine Run.ze Z Z (by simpa using h1) ?_;refine fR Z ?_;refine Run.fin Z (z3.go ?_);exact .t (by rw [hR])
theorem z8c (H:Pr P):∀(k:Nat) (v:Val),SizeOf.sizeOf v<=k->v.Ok->zdp P v
 |0,v,h,_=>by cases v;simp at h
 |k+1,v,h,hv=>zaT H v hv fun x hx=>z8c H k x (by have:=Val.yd v hx;omega) (hv.it x hx)
theorem z78 (H:Pr P) (a b:Val) (ha:a.Ok) (hb:b.Ok):z6 P 141 [a.v,b.v] ⟨[],0⟩ {v:= .t (.bool (z2p a b))}:=by
 have h:=z8c H _ a (w09 _) ha b hb;have e:=z8b (fun {a b}=>zbm (a:=a) (b:=b)) a b;refine z6.run H.i141 H.mixed Z Z ?_;refine fR Z ?_;refine Mid.call (h) Z Z Z Z ?_;refine fM Z ?_;refine Run.fin Z (z3.go ?_);exact .t (by rw [←e])
def zcM (P:Program) (a:Val):Prop:=∀b:Val,b.Ok->z6 P 169 [a.v,b.v] ⟨[],0⟩ {v:= .t (.int .i64 (z0b Go.Lib.compareBytes a b))}
theorem zaY (H:Pr P) (a:Val) (ha:a.Ok) (hrec:∀x,x∈a.items->zcM P x):zcM P a:=by
 intro b hb;have hil:=ha.il;have hil2:=hb.il;have hk:=z11 H a.kind b.kind;have hi:=z11 H a.int b.int;have ht:=z2C H a.text b.text;have hz:=z11 H (a.items.length:Nat) (b.items.length:Nat);have hR:=z19 Go.Lib.compareBytes a b;generalize z0b Go.Lib.compareBytes a b=R at hR⊢;refine z6.run H.i169 H.mixed Z Z ?_;refine fR Z ?_;refine Run.loop Z ?_;refine Run.wY ?_;refine fR Z ?_;refine Run.zf Z Z (by simp) ?_;refine fR Z ?_;by_cases h1:a.kind=b.kind
 ·rw [w0g (by simpa using Wg.2 h1)] at hR;refine Run.ze Z Z (by simpa using h1) ?_;refine fR Z ?_;by_cases h2:a.int=b.int
  ·rw [w0g (by simpa using Wg.2 h2)] at hR;refine Run.ze Z Z (by simpa using h2) ?_;refine fR Z ?_;by_cases h3:a.text=b.text
   ·rw [w0g (by simpa using z01.2 h3)] at hR;refine Run.ze Z Z (by simpa using h3) ?_;generalize wQ (a.items.length:Nat) (b.items.length:Nat)=z at hz hR;refine fR Z ?_;refine lM Z Z Z ?_;refine fM Z ?_;refine lM Z Z Z ?_;refine fM Z ?_
    have hm:(if (b.items.length:Int)<(a.items.length:Int) then (b.items.length:Int) else (a.items.length:Int))=((a.items.zip b.items).length:Nat):=by
     rw [List.length_zip]
     split<;>omega
    rw [hm];refine zu (a.items.zip b.items) (fun i (_:Unit)=>{env:=[(2,.ptr 0 0),(3,.ptr 1 0),(7,.t (.int .i64 0)),(48,.t (.int .i64 (a.items.zip b.items).length)),(49,.t (.int .i64 i))],s:=⟨[(0,(VCo a)),(1,(VCo b))],2⟩}) (fun r i _=>R=Yi Go.Lib.compareBytes (a.items.drop i) (b.items.drop i) a.keys b.keys i z) 2 () Z hR Z Z Z ?_ ?_
    ·intro _ hinv;rw [z4Q (z9I rfl)] at hinv;subst hinv;refine fR Z ?_;refine Run.ze Z Z (by simp) ?_;refine fR Z ?_;refine lM Z Z Z ?_;refine fM Z ?_;refine lM Z Z Z ?_;refine Mid.call (hz) Z Z Z Z ?_;refine fM Z ?_;refine a64 Z Z Z ?_;refine fM Z ?_;refine Run.adv 200 Z (Run.wY ?_);refine fR Z ?_;refine Run.ze Z Z (by simp) ?_;refine fR Z ?_;refine Run.fin Z (z3.go ?_);exact .t Z
    ·intro i p r _ g1 gi gd hinv ih;obtain ⟨e1,e2⟩:=List.getElem?_zip_eq_some.1 g1;obtain ⟨x,y⟩:=p;simp only at e1 e2;have b1:=(w02.1 e1).1;have b2:=(w02.1 e2).1;rw [z79 e1 e2] at hinv;have hc:=hrec x (zMG e1) y (hb.it y (zMG e2));have hs:=z2C H (YF a.keys i) (YF b.keys i);refine fR Z ?_;refine Run.zf Z Z (by simp [List.length_zip];omega) ?_;refine fR Z ?_;refine Mid.call (z9O H a ha i (by omega)) Z Z Z Z ?_;refine fM Z ?_;refine Mid.call (z9O H b hb i (by omega)) Z Z Z Z ?_;skip;by_cases h4:Go.Lib.compareBytes (YF a.keys i) (YF b.keys i)=0
     ·rw [h4] at hs hinv;rw [w0g (by simp)] at hinv;refine Mid.call (hs) Z Z Z Z ?_;refine fM Z ?_;refine Run.ze Z Z Z ?_;refine fR Z ?_;refine Mid.w6 (Val.wG x) Z Z Z e1 Z Z ?_;refine fM Z ?_;refine Mid.w6 (Val.wG y) Z Z Z e2 Z Z ?_;refine fM Z ?_;by_cases h5:z0b Go.Lib.compareBytes x y=0
      ·rw [h5] at hc hinv;rw [w0g (by simp)] at hinv;refine Mid.call (hc) Z Z Z Z ?_;refine fM Z ?_;refine Run.ze Z Z Z ?_;refine fR Z ?_;refine aL Z Z Z Z Z ?_;refine fM Z ?_;exact zl 2 Z (ih () hinv) Z Z Z
      ·rw [w0e h5] at hinv;refine Mid.call (hc) Z Z Z Z ?_;refine fM Z ?_;refine Run.zf Z Z (by simpa using h5) ?_;refine fR Z ?_;refine Run.fin Z (z3.go ?_);exact .t (by rw [hinv])
     ·rw [w0e h4] at hinv;refine Mid.call (hs) Z Z Z Z ?_;refine fM Z ?_;refine Run.zf Z Z (by simpa using h4) ?_;refine fR Z ?_;refine Run.fin Z (z3.go ?_);exact .t (by rw [hinv])
   ·rw [w0e (by simpa using fun e=>h3 (z01.1 e))] at hR;refine Run.zf Z Z (by simpa using h3) ?_;refine fR Z ?_;refine Mid.call (ht) Z Z Z Z ?_;refine fM Z ?_;refine Run.fin Z (z3.go ?_);exact .t (by rw [hR])
  ·rw [w0e (by simpa using fun e=>h2 (Wg.1 e))] at hR;refine Run.zf Z Z (by simpa using h2) ?_;refine fR Z ?_;refine Mid.call (hi) Z Z Z Z ?_;refine fM Z ?_;refine Run.fin Z (z3.go ?_);exact .t (by rw [hR])
 ·rw [w0e (by simpa using fun e=>h1 (Wg.1 e))] at hR;refine Run.zf Z Z (by simpa using h1) ?_;refine fR Z ?_;refine Mid.call (hk) Z Z Z Z ?_;refine fM Z ?_;refine Run.fin Z (z3.go ?_);exact .t (by rw [hR])
theorem z7q (H:Pr P):∀(k:Nat) (v:Val),SizeOf.sizeOf v<=k->v.Ok->zcM P v
 |0,v,h,_=>by cases v;simp at h
 |k+1,v,h,hv=>zaY H v hv fun x hx=>z7q H k x (by have:=Val.yd v hx;omega) (hv.it x hx)
theorem z7h (H:Pr P) (a b:Val) (ha:a.Ok) (hb:b.Ok):z6 P 140 [a.v,b.v] ⟨[],0⟩ {v:= .t (.bool (z2p a b))}:=by
 have h:=z7q H _ a (w09 _) ha b hb;have e:=z8b (fun {a b}=>z01 (a:=a) (b:=b)) a b;refine z6.run H.i140 H.mixed Z Z ?_;refine fR Z ?_;refine Mid.call (h) Z Z Z Z ?_;refine fM Z ?_;refine Run.fin Z (z3.go ?_);exact .t (by rw [←e])
end Go.GB.C35
namespace Go.GB.C29
open Go.GB
structure PrR (P:Program):Prop where
 mixed:P.follows .mixedOrders=true
 i23:z9 P 23=some (n23,c23.bare,r23)
 i61:z9 P 61=some (n61,c61.bare,r61)
 i107:z9 P 107=some (n107,c107.bare,r107)
 i108:z9 P 108=some (n108,c108.bare,r108)
 i109:z9 P 109=some (n109,c109.bare,r109)
 i110:z9 P 110=some (n110,c110.bare,r110)
 i152:z9 P 152=some (n152,c152.bare,r152)
 i154:z9 P 154=some (n154,c154.bare,r154)
structure R6 (P:Program) (zp:Str->Bool) (litF:Val->Bool) (refF:Ref->Bool):Prop where
 nm:∀s,z6 P 106 [.t (.str s)] ⟨[],0⟩ {v:= .t (.bool (zp s))}
 lit:∀v:Val,v.Ok->z6 P 151 [v.v] ⟨[],0⟩ {v:= .t (.bool (litF v))}
 rf:∀r:Ref,r.Ok->z6 P 153 [r.v] ⟨[],0⟩ {v:= .t (.bool (refF r))}
variable {P:Program} {zp:Str->Bool} {litF:Val->Bool} {refF:Ref->Bool}
theorem QE {α:Type} {p:α->Bool} {l:List α} {i:Nat} {x:α} (h:l[i]?=some x):(l.drop i).all p=(p x&&(l.drop (i+1)).all p):=by
 obtain ⟨h1,rfl⟩:=w02.1 h;rw [List.drop_eq_getElem_cons h1];rfl
theorem q6 {α:Type} {p:α->Bool} {l:List α}:(l.drop l.length).all p=true:=by simp
mutual
def yB:Val->Bool
 | .mk k _ _ its _=>z1D its&&!(k==7)
def z1D:List Val->Bool
 |[]=>true
 |v::r=>yB v&&z1D r
end
theorem z1f:∀l:List Val,z1D l=l.all yB
 |[]=>rfl
 |v::r=>by simp [z1D,z1f r]
theorem z9q (v:Val):yB v=(v.items.all yB&&!(v.kind==7)):=by
 cases v;simp only [yB,z1f];rfl
def ClC (P:Program) (v:Val):Prop:=z6 P 152 [v.v] ⟨[],0⟩ {v:= .t (.bool (yB v))}
theorem z7L (H:PrR P) (v:Val) (hv:v.Ok) (hrec:∀x,x∈v.items->ClC P x):ClC P v:=by
 have hil:=hv.il;have hR:=z9q v;unfold ClC;generalize yB v=R at hR⊢;refine z6.run H.i152 H.mixed Z Z ?_;refine fR Z ?_;refine zu v.items (fun i (_:Unit)=>{env:=[(1,.ptr 0 0),(3,.t (.int .i64 i))],s:=⟨[(0,(VCo v))],1⟩}) (fun r i _=>v.items.all yB=(v.items.drop i).all yB) 1 () Z Z Z Z Z ?_ ?_
 ·intro _ hinv;rw [q6] at hinv;rw [hinv,w1b] at hR;refine fR Z ?_;refine lM Z Z Z ?_;refine fM Z ?_;refine Run.ze Z Z (by simp) ?_;refine fR Z ?_;refine Run.fin Z (z3.go ?_);exact .t (by rw [hR];rfl)
 ·intro i x r _ h1 hi hd hinv ih;have hc:=hrec x (zMG h1);unfold ClC at hc;rw [QE h1] at hinv;refine fR Z ?_;refine lM Z Z Z ?_;refine fM Z ?_;refine Run.zf Z Z (by simp;omega) ?_;refine fR Z ?_;refine Mid.w6 (Val.wG x) Z Z Z h1 Z Z ?_;refine fM Z ?_
  cases hx:yB x with
  |true=>
   rw [hx] at hc hinv;refine Mid.call (hc) Z Z Z Z ?_;refine fM Z ?_;refine Run.ze Z Z Z ?_;refine fR Z ?_;refine aL Z Z Z Z Z ?_;refine fM Z ?_;exact zl 1 Z (ih () (by rw [hinv];rfl)) Z Z Z
  |false=>
   rw [hx] at hc hinv;rw [hinv,w18,w18] at hR;refine Mid.call (hc) Z Z Z Z ?_;refine fM Z ?_;refine Run.zf Z Z Z ?_;refine fR Z ?_;refine Run.fin Z (z3.go ?_);exact .t (by rw [hR])
theorem z3Y (H:PrR P):∀(k:Nat) (v:Val),SizeOf.sizeOf v<=k->v.Ok->ClC P v
 |0,v,h,_=>by cases v;simp at h
 |k+1,v,h,hv=>z7L H v hv fun x hx=>z3Y H k x (by have:=Val.yd v hx;omega) (hv.it x hx)
theorem z62 (H:PrR P) (v:Val) (hv:v.Ok):z6 P 152 [v.v] ⟨[],0⟩ {v:= .t (.bool (yB v))}:=z3Y H _ v (w09 _) hv
def z9S (v:Val):Bool:=v.kind==0&&v.int==0&&v.text==[]&&v.items.length==0&&v.keys.length==0
theorem zeO (H:PrR P) (v:Val):z6 P 154 [v.v] ⟨[],0⟩ {v:= .t (.bool (z9S v))}:=by
 refine z6.run H.i154 H.mixed Z Z ?_;refine fR Z ?_;refine lMG Z Z Z Z ?_;refine fM Z ?_;refine lMG Z Z Z Z ?_;refine fM Z ?_
 have e:∀n:Nat,((n:Int)==0)=(n==0):=fun n=>by rw [w1n];simp
 refine Run.fin Z (z3.go ?_);exact .t (by simp [z9S,e])
section
variable (zp litF refF)
def zg5 (a:Arg):Bool:=zp a.name&&litF a.val&&yB a.val
def z9v (d:Dir):Bool:=zp d.name&&decide (d.args.length<=16)&&d.args.all (zg5 zp litF)
def W7 (l:List Dir):Bool:=decide (l.length<=16)&&l.all (z9v zp litF)
def inR (x:Input):Bool:=zp x.name&&refF x.ty&&W7 zp litF x.zg&&(if x.has then litF x.YL&&yB x.YL else z9S x.YL)
def YR (l:List Input):Bool:=decide (l.length<=16)&&l.all (inR zp litF refF)
def z27 (f:Field):Bool:=zp f.name&&YR zp litF refF f.args&&refF f.ty&&W7 zp litF f.zg
def wN (l:List Field):Bool:=decide (1<=l.length)&&decide (l.length<=64)&&l.all (z27 zp litF refF)
def zaO (plain:Bool) (m:zh):Bool:=zp m.name&&W7 zp litF m.zg&&!(plain&&decide (m.zg.length>0))
def yY (l:List zh) (plain:Bool):Bool:=decide (1<=l.length)&&decide (l.length<=64)&&l.all (zaO zp litF plain)
end
theorem QV (H:PrR P) (K:R6 P zp litF refF) (l:List Dir) (hl:l.length<=140737488355328) (ho:∀d,d∈l->d.Ok):z6 P 107 [.t (.lst (l.map Dir.enc))] ⟨[],0⟩ {v:= .t (.bool (W7 zp litF l))}:=by
 by_cases hb:l.length<=16
 ·have hR:W7 zp litF l=l.all (z9v zp litF):=by simp [W7,hb]
  rw [hR];generalize hR2:l.all (z9v zp litF)=R;refine z6.run H.i107 H.mixed Z Z ?_;refine fR Z ?_;refine lM Z Z Z ?_;refine fM Z ?_;refine Run.ze Z Z (by simp;omega) ?_;refine fR Z ?_;refine zu l (fun i (_:Unit)=>{env:=[(0,.t (.lst (l.map Dir.enc))),(3,.t (.int .i64 i))],s:=⟨[],0⟩}) (fun r i _=>(l.drop i).all (z9v zp litF)=R) 0 () Z hR2 Z Z Z ?_ ?_
  ·intro _ hinv;rw [q6] at hinv;subst hinv;refine fR Z ?_;refine lM Z Z Z ?_;refine fM Z ?_;refine Run.ze Z Z (by simp) ?_;refine fR Z ?_;refine Run.fin Z (z3.go ?_);exact .t Z
  ·intro i d r _ h1 hi hd hinv ih;have hdk:=ho d (zMG h1);have hal:=hdk.l;have hn:=K.nm d.name;rw [QE h1] at hinv;unfold z9v at hinv;refine fR Z ?_;refine lM Z Z Z ?_;refine fM Z ?_;refine Run.zf Z Z (by simp;omega) ?_;refine fR Z ?_;refine Mid.zb Z Z Z h1 Z Z ?_;refine fM Z ?_
   cases hx:zp d.name with
   |false=>
    rw [hx] at hn hinv;simp only [w18] at hinv;subst hinv;refine Mid.call (hn) Z Z Z Z ?_;refine fM Z ?_;refine elG Z Z Z Z h1 Z Z ?_;refine fM Z ?_;refine lMG Z Z Z Z ?_;refine fM Z ?_;refine Run.zf Z Z Z ?_;refine fR Z ?_;refine Run.fin Z (z3.go ?_);exact .t Z
   |true=>
    rw [hx] at hn hinv;simp only [w1b] at hinv;refine Mid.call (hn) Z Z Z Z ?_;refine fM Z ?_;refine elG Z Z Z Z h1 Z Z ?_;refine fM Z ?_;refine lMG Z Z Z Z ?_;refine fM Z ?_;by_cases ha:d.args.length<=16
    ·rw [decide_eq_true ha,w1b] at hinv;refine Run.ze Z Z (by simp;omega) ?_;refine fR Z ?_;refine zu d.args (fun j (_:Unit)=>{env:=[(0,.t (.lst (l.map Dir.enc))),(3,.t (.int .i64 i)),(4,.t (.int .i64 j))],s:=⟨[],0⟩}) (fun r2 j _=>((d.args.drop j).all (zg5 zp litF)&&(l.drop (i+1)).all (z9v zp litF))=R) 0 () Z hinv Z Z Z ?_ ?_
     ·intro _ hinv2;rw [q6,w1b] at hinv2;refine fR Z ?_;refine Mid.zb Z Z Z h1 Z Z ?_;refine fM Z ?_;refine lM Z Z Z ?_;refine fM Z ?_;refine Run.ze Z Z (by simp) ?_;refine fR Z ?_;refine aL Z Z Z Z Z ?_;refine fM Z ?_;exact zl 0 Z (ih () hinv2) Z Z Z
     ·intro j a r2 _ k1 hj kd hinv2 ih2;have hak:=hdk.a a (zMG k1);have hn2:=K.nm a.name;have hl2:=K.lit a.val hak;have hc2:=z62 H a.val hak;rw [QE k1] at hinv2;unfold zg5 at hinv2;generalize zp a.name=b1 at hn2 hinv2;generalize litF a.val=b2 at hl2 hinv2;generalize yB a.val=b3 at hc2 hinv2;refine fR Z ?_;refine Mid.zb Z Z Z h1 Z Z ?_;refine fM Z ?_;refine lM Z Z Z ?_;refine fM Z ?_;refine Run.zf Z Z (by simp;omega) ?_;refine fR Z ?_;refine Mid.zb Z Z Z h1 Z Z ?_;refine fM Z ?_;refine Mid.zb Z Z Z k1 Z Z ?_;refine fM Z ?_;refine Mid.call (hn2) Z Z Z Z ?_;refine fM Z ?_;refine caG Z Z (fun hg=>⟨_,rfl,hl2,rfl⟩) Z Z ?_;refine fM Z ?_;refine caG Z Z (fun hg=>⟨_,rfl,hc2,rfl⟩) Z Z ?_;refine fM Z ?_
      cases hb:(b1&&b2&&b3) with
      |true=>
       simp only [w07] at hb;obtain ⟨⟨rfl,rfl⟩,rfl⟩:=hb;refine Run.ze Z Z Z ?_;refine fR Z ?_;refine aL Z Z Z Z Z ?_;refine fM Z ?_;exact zl 0 Z (ih2 () hinv2) Z Z Z
      |false=>
       rw [hb] at hinv2;simp only [w18] at hinv2;subst hinv2
       refine Run.zf Z Z (by revert hb;cases b1<;>cases b2<;>cases b3<;>simp) ?_
       refine fR Z ?_;refine Run.fin Z (z3.go ?_);exact .t Z
    ·rw [decide_eq_false ha,w18,w18] at hinv;subst hinv;refine Run.zf Z Z (by simp;omega) ?_;refine fR Z ?_;refine Run.fin Z (z3.go ?_);exact .t Z
 ·have hR:W7 zp litF l=false:=by simp [W7];omega
  rw [hR];refine z6.run H.i107 H.mixed Z Z ?_;refine fR Z ?_;refine lM Z Z Z ?_;refine fM Z ?_;refine Run.zf Z Z (by simp;omega) ?_;refine fR Z ?_;refine Run.fin Z (z3.go ?_);exact .t Z
end Go.GB.C29
namespace Go.GB.C29
open Go.GB
variable {P:Program} {zp:Str->Bool} {litF:Val->Bool} {refF:Ref->Bool}
theorem wE (H:PrR P) (K:R6 P zp litF refF) (l:List Input) (hl:l.length<=140737488355328) (ho:∀d,d∈l->d.Ok):z6 P 110 [.t (.lst (l.map Input.enc))] ⟨[],0⟩ {v:= .t (.bool (YR zp litF refF l))}:=by
 by_cases hb:l.length<=16
 ·have hR:YR zp litF refF l=l.all (inR zp litF refF):=by simp [YR,hb]
  rw [hR];generalize hR2:l.all (inR zp litF refF)=R;refine z6.run H.i110 H.mixed Z Z ?_;refine fR Z ?_;refine lM Z Z Z ?_;refine fM Z ?_;refine Run.ze Z Z (by simp;omega) ?_;refine fR Z ?_;refine zu l (fun i (_:Unit)=>{env:=[(0,.t (.lst (l.map Input.enc))),(3,.t (.int .i64 i))],s:=⟨[],0⟩}) (fun r i _=>(l.drop i).all (inR zp litF refF)=R) 0 () Z hR2 Z Z Z ?_ ?_
  ·intro _ hinv;rw [q6] at hinv;subst hinv;refine fR Z ?_;refine lM Z Z Z ?_;refine fM Z ?_;refine Run.ze Z Z (by simp) ?_;refine fR Z ?_;refine Run.fin Z (z3.go ?_);exact .t Z
  ·intro i x r _ h1 hi hd hinv ih;have hxk:=ho x (zMG h1);have hn:=K.nm x.name;have hr:=K.rf x.ty hxk.t;have hds:=QV H K x.zg hxk.l hxk.d;have hl2:=K.lit x.YL hxk.v;have hc2:=z62 H x.YL hxk.v;have hz2:=zeO H x.YL;rw [QE h1] at hinv;unfold inR at hinv;generalize zp x.name=b1 at hn hinv;generalize refF x.ty=b2 at hr hinv;generalize W7 zp litF x.zg=b3 at hds hinv;generalize litF x.YL=b4 at hl2 hinv;generalize yB x.YL=b5 at hc2 hinv;generalize z9S x.YL=b6 at hz2 hinv;refine fR Z ?_;refine lM Z Z Z ?_;refine fM Z ?_;refine Run.zf Z Z (by simp;omega) ?_;refine fR Z ?_;refine Mid.zb Z Z Z h1 Z Z ?_;refine fM Z ?_;refine Mid.call (hn) Z Z Z Z ?_;refine fM Z ?_;refine caG Z Z (fun hg=>⟨_,rfl,hr,rfl⟩) Z Z ?_;refine fM Z ?_;refine caG Z Z (fun hg=>⟨_,rfl,hds,rfl⟩) Z Z ?_;refine fM Z ?_
   cases hb2:(b1&&b2&&b3) with
   |false=>
    rw [hb2,w18,w18] at hinv;subst hinv
    refine Run.zf Z Z (by revert hb2;cases b1<;>cases b2<;>cases b3<;>simp) ?_
    refine fR Z ?_;refine Run.fin Z (z3.go ?_);exact .t Z
   |true=>
    rw [hb2,w1b] at hinv;simp only [w07] at hb2;obtain ⟨⟨rfl,rfl⟩,rfl⟩:=hb2;refine Run.ze Z Z Z ?_;refine fR Z ?_;refine caG Z Z (fun hg=>⟨_,rfl,hl2,rfl⟩) Z Z ?_;refine fM Z ?_;refine caG Z Z (fun hg=>⟨_,rfl,hc2,rfl⟩) Z Z ?_;refine fM Z ?_;refine caG Z Z (fun hg=>⟨_,rfl,hz2,rfl⟩) Z Z ?_;refine fM Z ?_;refine Run.cond Z Z (fun h=>?_) (fun h=>?_)
    ·have e:(if x.has=true then b4&&b5 else b6)=false:=by
      revert h;clear hinv;generalize x.has=b7;cases b7<;>cases b4<;>cases b5<;>cases b6<;>simp
     rw [e,w18] at hinv;subst hinv;refine fR Z ?_;refine Run.fin Z (z3.go ?_);exact .t Z
    ·have e:(if x.has=true then b4&&b5 else b6)=true:=by
      revert h;clear hinv;generalize x.has=b7;cases b7<;>cases b4<;>cases b5<;>cases b6<;>simp
     rw [e,w1b] at hinv;refine fR Z ?_;refine aL Z Z Z Z Z ?_;refine fM Z ?_;exact zl 0 Z (ih () hinv) Z Z Z
 ·have hR:YR zp litF refF l=false:=by simp [YR];omega
  rw [hR];refine z6.run H.i110 H.mixed Z Z ?_;refine fR Z ?_;refine lM Z Z Z ?_;refine fM Z ?_;refine Run.zf Z Z (by simp;omega) ?_;refine fR Z ?_;refine Run.fin Z (z3.go ?_);exact .t Z
theorem z06 (H:PrR P) (K:R6 P zp litF refF) (l:List Field) (hl:l.length<=140737488355328) (ho:∀d,d∈l->d.Ok):z6 P 108 [.t (.lst (l.map Field.enc))] ⟨[],0⟩ {v:= .t (.bool (wN zp litF refF l))}:=by
 by_cases hb:1<=l.length/\l.length<=64
 ·have hR:wN zp litF refF l=l.all (z27 zp litF refF):=by simp [wN,hb.1,hb.2]
  rw [hR];generalize hR2:l.all (z27 zp litF refF)=R;refine z6.run H.i108 H.mixed Z Z ?_;refine fR Z ?_;refine lM Z Z Z ?_;refine fM Z ?_;refine lMG Z Z Z Z ?_;refine fM Z ?_;refine Run.ze Z Z (by simp;omega) ?_;refine fR Z ?_;refine zu l (fun i (_:Unit)=>{env:=[(0,.t (.lst (l.map Field.enc))),(3,.t (.int .i64 i))],s:=⟨[],0⟩}) (fun r i _=>(l.drop i).all (z27 zp litF refF)=R) 0 () Z hR2 Z Z Z ?_ ?_
  ·intro _ hinv;rw [q6] at hinv;subst hinv;refine fR Z ?_;refine lM Z Z Z ?_;refine fM Z ?_;refine Run.ze Z Z (by simp) ?_;refine fR Z ?_;refine Run.fin Z (z3.go ?_);exact .t Z
  ·intro i x r _ h1 hi hd hinv ih;have hxk:=ho x (zMG h1);have hn:=K.nm x.name;have hr:=K.rf x.ty hxk.t;have hds:=QV H K x.zg hxk.l hxk.d;have hin:=wE H K x.args hxk.al hxk.a;rw [QE h1] at hinv;unfold z27 at hinv;generalize zp x.name=b1 at hn hinv;generalize refF x.ty=b2 at hr hinv;generalize W7 zp litF x.zg=b3 at hds hinv;generalize YR zp litF refF x.args=b4 at hin hinv;refine fR Z ?_;refine lM Z Z Z ?_;refine fM Z ?_;refine Run.zf Z Z (by simp;omega) ?_;refine fR Z ?_;refine Mid.zb Z Z Z h1 Z Z ?_;refine fM Z ?_;refine Mid.call (hn) Z Z Z Z ?_;refine fM Z ?_;refine elG Z Z Z Z h1 Z Z ?_;refine fM Z ?_;refine caG Z Z (fun hg=>⟨_,rfl,hin,rfl⟩) Z Z ?_;refine fM Z ?_;refine elG Z Z Z Z h1 Z Z ?_;refine fM Z ?_;refine caG Z Z (fun hg=>⟨_,rfl,hr,rfl⟩) Z Z ?_;refine fM Z ?_;refine elG Z Z Z Z h1 Z Z ?_;refine fM Z ?_;refine caG Z Z (fun hg=>⟨_,rfl,hds,rfl⟩) Z Z ?_;refine fM Z ?_
   cases hb2:(b1&&b4&&b2&&b3) with
   |false=>
    rw [hb2,w18] at hinv;subst hinv
    refine Run.zf Z Z (by revert hb2;cases b1<;>cases b2<;>cases b3<;>cases b4<;>simp) ?_
    refine fR Z ?_;refine Run.fin Z (z3.go ?_);exact .t Z
   |true=>
    rw [hb2,w1b] at hinv;simp only [w07] at hb2;obtain ⟨⟨⟨rfl,rfl⟩,rfl⟩,rfl⟩:=hb2;refine Run.ze Z Z Z ?_;refine fR Z ?_;refine aL Z Z Z Z Z ?_;refine fM Z ?_;exact zl 0 Z (ih () hinv) Z Z Z
 ·have hR:wN zp litF refF l=false:=by
   simp only [wN,Bool.and_eq_false_iff,w1u];omega
  rw [hR];refine z6.run H.i108 H.mixed Z Z ?_;refine fR Z ?_;refine lM Z Z Z ?_;refine fM Z ?_;refine lMG Z Z Z Z ?_;refine fM Z ?_;refine Run.zf Z Z (by simp;omega) ?_;refine fR Z ?_;refine Run.fin Z (z3.go ?_);exact .t Z
theorem qG (H:PrR P) (K:R6 P zp litF refF) (l:List zh) (hl:l.length<=140737488355328) (ho:∀d,d∈l->d.Ok) (plain:Bool):z6 P 109 [.t (.lst (l.map zh.enc)),.t (.bool plain)] ⟨[],0⟩ {v:= .t (.bool (yY zp litF l plain))}:=by
 by_cases hb:1<=l.length/\l.length<=64
 ·have hR:yY zp litF l plain=l.all (zaO zp litF plain):=by simp [yY,hb.1,hb.2]
  rw [hR];generalize hR2:l.all (zaO zp litF plain)=R;refine z6.run H.i109 H.mixed Z Z ?_;refine fR Z ?_;refine lM Z Z Z ?_;refine fM Z ?_;refine lMG Z Z Z Z ?_;refine fM Z ?_;refine Run.ze Z Z (by simp;omega) ?_;refine fR Z ?_;refine zu l (fun i (_:Unit)=>{env:=[(0,.t (.lst (l.map zh.enc))),(1,.t (.bool plain)),(5,.t (.int .i64 i))],s:=⟨[],0⟩}) (fun r i _=>(l.drop i).all (zaO zp litF plain)=R) 0 () Z hR2 Z Z Z ?_ ?_
  ·intro _ hinv;rw [q6] at hinv;subst hinv;refine fR Z ?_;refine lM Z Z Z ?_;refine fM Z ?_;refine Run.ze Z Z (by simp) ?_;refine fR Z ?_;refine Run.fin Z (z3.go ?_);exact .t Z
  ·intro i x r _ h1 hi hd hinv ih;have hxk:=ho x (zMG h1);have hn:=K.nm x.name;have hds:=QV H K x.zg hxk.l hxk.d;rw [QE h1] at hinv;unfold zaO at hinv;generalize zp x.name=b1 at hn hinv;generalize W7 zp litF x.zg=b3 at hds hinv;refine fR Z ?_;refine lM Z Z Z ?_;refine fM Z ?_;refine Run.zf Z Z (by simp;omega) ?_;refine fR Z ?_;refine Mid.zb Z Z Z h1 Z Z ?_;refine fM Z ?_;refine Mid.call (hn) Z Z Z Z ?_;refine fM Z ?_;refine elG Z Z Z Z h1 Z Z ?_;refine fM Z ?_;refine caG Z Z (fun hg=>⟨_,rfl,hds,rfl⟩) Z Z ?_;refine fM Z ?_;refine elG Z Z Z Z h1 Z Z ?_;refine fM Z ?_;refine lMG Z Z Z Z ?_;refine fM Z ?_;refine Run.cond Z Z (fun h=>?_) (fun h=>?_)
   ·have e:(b1&&b3&&!(plain&&decide (x.zg.length>0)))=false:=by
     revert h;clear hinv;rw [show decide ((x.zg.length:Int)>0)=decide (x.zg.length>0) from decide_eq_decide.2 (by omega)];generalize decide (x.zg.length>0)=b7;cases b7<;>cases b1<;>cases b3<;>cases plain<;>simp
    rw [e,w18] at hinv;subst hinv;refine fR Z ?_;refine Run.fin Z (z3.go ?_);exact .t Z
   ·have e:(b1&&b3&&!(plain&&decide (x.zg.length>0)))=true:=by
     revert h;clear hinv;rw [show decide ((x.zg.length:Int)>0)=decide (x.zg.length>0) from decide_eq_decide.2 (by omega)];generalize decide (x.zg.length>0)=b7;cases b7<;>cases b1<;>cases b3<;>cases plain<;>simp
    rw [e,w1b] at hinv;refine fR Z ?_;refine aL Z Z Z Z Z ?_;refine fM Z ?_;exact zl 0 Z (ih () hinv) Z Z Z
 ·have hR:yY zp litF l plain=false:=by
   simp only [yY,Bool.and_eq_false_iff,w1u];omega
  rw [hR];refine z6.run H.i109 H.mixed Z Z ?_;refine fR Z ?_;refine lM Z Z Z ?_;refine fM Z ?_;refine lMG Z Z Z Z ?_;refine fM Z ?_;refine Run.zf Z Z (by simp;omega) ?_;refine fR Z ?_;refine Run.fin Z (z3.go ?_);exact .t Z
end Go.GB.C29
namespace Go.GB.C29
open Go.GB
variable {P:Program} {zp:Str->Bool} {litF:Val->Bool} {refF:Ref->Bool}
section
variable (zp litF refF)
def zar (d:Def):Bool:=
 if d.kind=1 then wN zp litF refF d.fields&&decide (d.members.length=0)&&decide (d.zi.length=0)
 else if d.kind=2 then decide (d.implements.length=0)&&wN zp litF refF d.fields&&decide (d.members.length=0)&&decide (d.zi.length=0)
 else if d.kind=3 then decide (d.implements.length=0)&&decide (d.fields.length=0)&&yY zp litF d.members true&&decide (d.zi.length=0)
 else if d.kind=4 then decide (d.implements.length=0)&&decide (d.fields.length=0)&&yY zp litF d.members false&&decide (d.zi.length=0)
 else if d.kind=5 then decide (d.implements.length=0)&&decide (d.fields.length=0)&&decide (d.members.length=0)&&decide (d.zi.length>0)&&YR zp litF refF d.zi
 else false
def z4D (d:Def):Bool:=zp d.name&&W7 zp litF d.zg&&decide (d.implements.length<=64)&&d.implements.all zp&&zar zp litF refF d
def z9g (ds:List Def):Bool:=decide (1<=ds.length)&&decide (ds.length<=64)&&ds.all (z4D zp litF refF)
end
theorem zg9 (H:PrR P) (K:R6 P zp litF refF) (d:Def) (hd:d.Ok):z6 P 61 [d.v] ⟨[],0⟩ {v:= .t (.bool (z4D zp litF refF d))}:=by
 have hil:=hd.il;have hn:=K.nm d.name;have hds:=QV H K d.zg hd.dl hd.d;have hfl:=z06 H K d.fields hd.fl hd.f;have hm1:=qG H K d.members hd.ml hd.m true;have hm2:=qG H K d.members hd.ml hd.m false;have hin:=wE H K d.zi hd.nl hd.n;have hR:z4D zp litF refF d=(zp d.name&&W7 zp litF d.zg&&decide (d.implements.length<=64)&&d.implements.all zp&&zar zp litF refF d):=rfl;unfold zar at hR;generalize z4D zp litF refF d=R at hR⊢;generalize hb1:zp d.name=b1 at hn hR;generalize W7 zp litF d.zg=b2 at hds hR;generalize wN zp litF refF d.fields=b3 at hfl hR;generalize yY zp litF d.members true=b4 at hm1 hR;generalize yY zp litF d.members false=b5 at hm2 hR;generalize YR zp litF refF d.zi=b6 at hin hR;refine z6.run H.i61 H.mixed Z Z ?_;refine fR Z ?_;refine Mid.call (hn) Z Z Z Z ?_;refine fM Z ?_;refine caG Z Z (fun hg=>⟨_,rfl,hds,rfl⟩) Z Z ?_;refine fM Z ?_;refine lMG Z Z Z Z ?_;refine fM Z ?_
 have z0:∀n:Nat,((n:Int)==0)=decide (n=0):=fun n=>by rw [w1n];simp
 have z1:∀n:Nat,decide ((n:Int)>0)=decide (n>0):=fun n=>decide_eq_decide.2 (by omega)
 have z2:∀n:Nat,decide ((n:Int)>64)=!decide (n<=64):=fun n=>by rw [←decide_not];exact decide_eq_decide.2 (by omega)
 refine Run.cond Z Z (fun h=>?_) (fun h=>?_)
 ·have e:(b1&&b2&&decide (d.implements.length<=64))=false:=by
   revert h;rw [z2];generalize decide (d.implements.length<=64)=b7;cases b7<;>cases b1<;>cases b2<;>simp
  rw [e] at hR;simp only [w18] at hR;subst hR;refine fR Z ?_;refine Run.fin Z (z3.go ?_);exact .t Z
 ·have e:(b1&&b2&&decide (d.implements.length<=64))=true:=by
   revert h;rw [z2];generalize decide (d.implements.length<=64)=b7;cases b7<;>cases b1<;>cases b2<;>simp
  rw [e] at hR;simp only [w1b] at hR;refine fR Z ?_;refine zu d.implements (fun i (_:Unit)=>{env:=[(1,.ptr 0 0),(3,.t (.int .i64 i))],s:=⟨[(0,(TCo d))],1⟩}) (fun r i _=>d.implements.all zp=(d.implements.drop i).all zp) 1 () Z Z Z Z Z ?_ ?_
  ·intro _ hinv;rw [q6] at hinv;rw [hinv,w1b] at hR;refine fR Z ?_;refine lM Z Z Z ?_;refine fM Z ?_;refine Run.ze Z Z (by simp) ?_;refine fR Z ?_;refine lM Z Z Z ?_;refine fM Z ?_;refine lM Z Z Z ?_;refine fM Z ?_;refine lM Z Z Z ?_;refine fM Z ?_;refine lM Z Z Z ?_;refine fM Z ?_;refine Run.cond Z Z (fun k1=>?_) (fun k1=>?_)
   ·have h':d.kind=1:=by simpa using k1
    rw [w0e h'] at hR;refine fR Z ?_;refine Mid.call (hfl) Z Z Z Z ?_;refine fM Z ?_;refine Run.fin Z (z3.go ?_);exact .t (by rw [hR];try simp only [z0,z1])
   have n1:¬ d.kind=1:=by simpa using k1
   rw [w0g n1] at hR;refine fR Z ?_;refine Run.cond Z Z (fun k1=>?_) (fun k1=>?_)
   ·have h':d.kind=2:=by simpa using k1
    rw [w0e h'] at hR;refine fR Z ?_;refine caG Z Z (fun hg=>⟨_,rfl,hfl,rfl⟩) Z Z ?_;refine fM Z ?_;refine Run.fin Z (z3.go ?_);exact .t (by rw [hR];try simp only [z0,z1])
   have n2:¬ d.kind=2:=by simpa using k1
   rw [w0g n2] at hR;refine fR Z ?_;refine Run.cond Z Z (fun k1=>?_) (fun k1=>?_)
   ·have h':d.kind=3:=by simpa using k1
    rw [w0e h'] at hR;refine fR Z ?_;refine caG Z Z (fun hg=>⟨_,rfl,hm1,rfl⟩) Z Z ?_;refine fM Z ?_;refine Run.fin Z (z3.go ?_);exact .t (by rw [hR];try simp only [z0,z1])
   have n3:¬ d.kind=3:=by simpa using k1
   rw [w0g n3] at hR;refine fR Z ?_;refine Run.cond Z Z (fun k1=>?_) (fun k1=>?_)
   ·have h':d.kind=4:=by simpa using k1
    rw [w0e h'] at hR;refine fR Z ?_;refine caG Z Z (fun hg=>⟨_,rfl,hm2,rfl⟩) Z Z ?_;refine fM Z ?_;refine Run.fin Z (z3.go ?_);exact .t (by rw [hR];try simp only [z0,z1])
   have n4:¬ d.kind=4:=by simpa using k1
   rw [w0g n4] at hR;refine fR Z ?_;refine Run.cond Z Z (fun k1=>?_) (fun k1=>?_)
   ·have h':d.kind=5:=by simpa using k1
    rw [w0e h'] at hR;refine fR Z ?_;refine lMG Z Z Z Z ?_;refine fM Z ?_;refine caG Z Z (fun hg=>⟨_,rfl,hin,rfl⟩) Z Z ?_;refine fM Z ?_;refine Run.fin Z (z3.go ?_);exact .t (by rw [hR];try simp only [z0,z1])
   have n5:¬ d.kind=5:=by simpa using k1
   rw [w0g n5] at hR;refine fR Z ?_;refine Run.fin Z (z3.go ?_);exact .t (by rw [hR];try simp only [z0,z1])
  ·intro i x r _ h1 hi hd2 hinv ih;have hc:=K.nm x;rw [QE h1] at hinv;generalize zp x=b8 at hc hinv;refine fR Z ?_;refine lM Z Z Z ?_;refine fM Z ?_;refine Run.zf Z Z (by simp;omega) ?_;refine fR Z ?_;refine Mid.zb Z Z Z h1 Z Z ?_;refine fM Z ?_;refine Mid.call (hc) Z Z Z Z ?_;refine fM Z ?_
   cases b8 with
   |false=>
    rw [w18] at hinv;rw [hinv,w18] at hR;subst hR;refine Run.zf Z Z Z ?_;refine fR Z ?_;refine Run.fin Z (z3.go ?_);exact .t Z
   |true=>
    rw [w1b] at hinv;refine Run.ze Z Z Z ?_;refine fR Z ?_;refine aL Z Z Z Z Z ?_;refine fM Z ?_;exact zl 1 Z (ih () hinv) Z Z Z
theorem z4e (H:PrR P) (K:R6 P zp litF refF) (ds:List Def) (hD:zV ds):z6 P 23 [Y8 ds] ⟨[],0⟩ {v:= .t (.bool (z9g zp litF refF ds))}:=by
 by_cases hb:1<=ds.length/\ds.length<=64
 ·have hR:z9g zp litF refF ds=ds.all (z4D zp litF refF):=by simp [z9g,hb.1,hb.2]
  rw [hR];generalize hR2:ds.all (z4D zp litF refF)=R;refine z6.run H.i23 H.mixed Z Z ?_;refine fR Z ?_;refine lM Z Z Z ?_;refine fM Z ?_;refine lMG Z Z Z Z ?_;refine fM Z ?_;refine Run.ze Z Z (by simp;omega) ?_;refine fR Z ?_;refine zu ds (fun i (_:Unit)=>{env:=[(1,.ptr 0 0),(3,.t (.int .i64 i))],s:=⟨[(0,.cells [.t (.lst (ds.map Def.enc))])],1⟩}) (fun r i _=>(ds.drop i).all (z4D zp litF refF)=R) 1 () Z hR2 Z Z Z ?_ ?_
  ·intro _ hinv;rw [q6] at hinv;subst hinv;refine fR Z ?_;refine lM Z Z Z ?_;refine fM Z ?_;refine Run.ze Z Z (by simp) ?_;refine fR Z ?_;refine Run.fin Z (z3.go ?_);exact .t Z
  ·intro i x r _ h1 hi hd hinv ih;have hc:=zg9 H K x (hD.d x (zMG h1));rw [QE h1] at hinv;generalize z4D zp litF refF x=b1 at hc hinv;refine fR Z ?_;refine lM Z Z Z ?_;refine fM Z ?_;refine Run.zf Z Z (by simp;omega) ?_;refine fR Z ?_;refine Mid.zb Z Z Z h1 Z Z ?_;refine fM Z ?_;refine Mid.call (hc) Z Z Z Z ?_;refine fM Z ?_
   cases b1 with
   |false=>
    rw [w18] at hinv;subst hinv;refine Run.zf Z Z Z ?_;refine fR Z ?_;refine Run.fin Z (z3.go ?_);exact .t Z
   |true=>
    rw [w1b] at hinv;refine Run.ze Z Z Z ?_;refine fR Z ?_;refine aL Z Z Z Z Z ?_;refine fM Z ?_;exact zl 1 Z (ih () hinv) Z Z Z
 ·have hR:z9g zp litF refF ds=false:=by
   simp only [z9g,Bool.and_eq_false_iff,w1u];omega
  rw [hR];refine z6.run H.i23 H.mixed Z Z ?_;refine fR Z ?_;refine lM Z Z Z ?_;refine fM Z ?_;refine lMG Z Z Z Z ?_;refine fM Z ?_;refine Run.zf Z Z (by simp;omega) ?_;refine fR Z ?_;refine Run.fin Z (z3.go ?_);exact .t Z
end Go.GB.C29
namespace Go.GB.C11
open Go.GB
structure Pr (P:Program):Prop where
 mixed:P.follows .mixedOrders=true
 i22:z9 P 22=some (n22,c22.bare,r22)
 i18:z9 P 18=some (n18,c18.bare,r18)
 i51:z9 P 51=some (n51,c51.bare,r51)
 i70:z9 P 70=some (n70,c70.bare,r70)
 i105:z9 P 105=some (n105,c105.bare,r105)
 i176:z9 P 176=some (n176,c176.bare,r176)
 i153:z9 P 153=some (n153,c153.bare,r153)
 i159:z9 P 159=some (n159,c159.bare,r159)
 i24:z9 P 24=some (n24,c24.bare,r24)
 i12:z9 P 12=some (n12,c12.bare,r12)
 i13:z9 P 13=some (n13,c13.bare,r13)
 i36:z9 P 36=some (n36,c36.bare,r36)
 i111:z9 P 111=some (n111,c111.bare,r111)
 i28:z9 P 28=some (n28,c28.bare,r28)
 i125:z9 P 125=some (n125,c125.bare,r125)
 i148:z9 P 148=some (n148,c148.bare,r148)
 i118:z9 P 118=some (n118,c118.bare,r118)
 i120:z9 P 120=some (n120,c120.bare,r120)
 i128:z9 P 128=some (n128,c128.bare,r128)
 i106:z9 P 106=some (n106,c106.bare,r106)
 i76:z9 P 76=some (n76,c76.bare,r76)
 i136:z9 P 136=some (n136,c136.bare,r136)
 i77:z9 P 77=some (n77,c77.bare,r77)
 i99:z9 P 99=some (n99,c99.bare,r99)
 i146:z9 P 146=some (n146,c146.bare,r146)
 i97:z9 P 97=some (n97,c97.bare,r97)
 i62:z9 P 62=some (n62,c62.bare,r62)
 i63:z9 P 63=some (n63,c63.bare,r63)
 i64:z9 P 64=some (n64,c64.bare,r64)
 i65:z9 P 65=some (n65,c65.bare,r65)
 i132:z9 P 132=some (n132,c132.bare,r132)
 i84:z9 P 84=some (n84,c84.bare,r84)
 i85:z9 P 85=some (n85,c85.bare,r85)
 i163:z9 P 163=some (n163,c163.bare,r163)
 i149:z9 P 149=some (n149,c149.bare,r149)
 i150:z9 P 150=some (n150,c150.bare,r150)
 i79:z9 P 79=some (n79,c79.bare,r79)
 i135:z9 P 135=some (n135,c135.bare,r135)
 i145:z9 P 145=some (n145,c145.bare,r145)
 i144:z9 P 144=some (n144,c144.bare,r144)
 i102:z9 P 102=some (n102,c102.bare,r102)
 i112:z9 P 112=some (n112,c112.bare,r112)
 i113:z9 P 113=some (n113,c113.bare,r113)
 i114:z9 P 114=some (n114,c114.bare,r114)
 i115:z9 P 115=some (n115,c115.bare,r115)
 i60:z9 P 60=some (n60,c60.bare,r60)
 i116:z9 P 116=some (n116,c116.bare,r116)
 i165:z9 P 165=some (n165,c165.bare,r165)
 i155:z9 P 155=some (n155,c155.bare,r155)
 i156:z9 P 156=some (n156,c156.bare,r156)
 i157:z9 P 157=some (n157,c157.bare,r157)
 i158:z9 P 158=some (n158,c158.bare,r158)
 i88:z9 P 88=some (n88,c88.bare,r88)
 i32:z9 P 32=some (n32,c32.bare,r32)
 i174:z9 P 174=some (n174,c174.bare,r174)
 i175:z9 P 175=some (n175,c175.bare,r175)
 i78:z9 P 78=some (n78,c78.bare,r78)
variable {P:Program}
def z7 (n:Str):List Def->Option Def
 |[]=>none
 |d::r=>if (d.name==n)=true then some d else z7 n r
theorem wO {n:Str}:∀{l:List Def} {d:Def},z7 n l=some d->d∈l
 |[],d,h=>by simp [z7] at h
 |x::r,d,h=>by
  simp only [z7] at h;split at h
  ·cases h;exact w1x ..
  ·exact w0k _ (wO h)
def z5 (n:Str):List Field->Option Field
 |[]=>none
 |d::r=>if (d.name==n)=true then some d else z5 n r
theorem Z0 {n:Str}:∀{l:List Field} {d:Field},z5 n l=some d->d∈l
 |[],d,h=>by simp [z5] at h
 |x::r,d,h=>by
  simp only [z5] at h;split at h
  ·cases h;exact w1x ..
  ·exact w0k _ (Z0 h)
theorem z1v (H:Pr P) (ds:List Def) (hl:ds.length<=140737488355328) (n:Str):z6 P 28 [Y8 ds,.t (.str n)] ⟨[],0⟩ {v:= .tup [((z7 n ds).getD Def.zero).v,.t (.bool (z7 n ds).isSome)]}:=by
 refine z6.run H.i28 H.mixed Z Z ?_;refine fR Z ?_;refine lM Z Z Z ?_;refine fM Z ?_;refine zu ds (fun i (_:Unit)=>{env:=[(1,.t (.str n)),(4,.ptr 1 0),(9,.t (.lst (ds.map Def.enc))),(10,.t (.int .i64 ds.length)),(11,.t (.int .i64 i))],s:=⟨[(1,.cells [.t (.int .i64 0),.t (.str []),.zC,.zC,.zC,.zC,.zC])],2⟩}) (fun r i _=>z7 n ds=z7 n r) 2 () Z Z Z Z Z ?_ ?_
 ·intro _ hinv;refine fR Z ?_;refine Run.ze Z Z (by simp) ?_;refine fR Z ?_
  have e:z7 n ds=none:=by rw [hinv];rfl
  rw [e];refine Run.fin Z (z3.go ?_);exact .Ys (.agg (.cons (.t Z) (.cons (.t Z) (.cons (.nil Z) (.cons (.nil Z) (.cons (.nil Z) (.cons (.nil Z) (.cons (.nil Z) .nil)))))))) (.t Z)
 ·intro i x r _ h1 hi hd hinv ih;refine fR Z ?_;refine Run.zf Z Z (by simp;omega) ?_;refine fR Z ?_;refine Mid.zb Z Z Z h1 Z Z ?_;refine fM Z ?_;refine Run.cond Z Z (fun h=>?_) (fun h=>?_)
  ·refine fR Z ?_
   have e:z7 n ds=some x:=by rw [hinv];simp only [z7];rw [w0e h]
   rw [e];refine Run.fin Z (z3.go ?_);exact .Ys (.le (.same Z)) (.t Z)
  ·refine fR Z ?_;refine aL Z Z Z Z Z ?_;refine fM Z ?_
   have h':¬ (x.name==n)=true:=by rw [h];simp
   exact zl 2 Z (ih () (by rw [hinv];simp only [z7];rw [w0g h'])) Z Z Z
theorem qW (H:Pr P) (d:Def) (hl:d.fields.length<=140737488355328) (n:Str):z6 P 85 [d.v,.t (.str n)] ⟨[],0⟩ {v:= .tup [((z5 n d.fields).getD Field.zero).v,.t (.bool (z5 n d.fields).isSome)]}:=by
 refine z6.run H.i85 H.mixed Z Z ?_;refine fR Z ?_;refine lM Z Z Z ?_;refine fM Z ?_;refine zu d.fields (fun i (_:Unit)=>{env:=[(1,.t (.str n)),(4,.ptr 1 0),(9,.t (.lst ((d.fields).map Field.enc))),(10,.t (.int .i64 (d.fields).length)),(11,.t (.int .i64 i))],s:=⟨[(1,.cells [.t (.str []),.zC,.t (.str []),.zC,.zC])],2⟩}) (fun r i _=>z5 n (d.fields)=z5 n r) 2 () Z Z Z Z Z ?_ ?_
 ·intro _ hinv;refine fR Z ?_;refine Run.ze Z Z (by simp) ?_;refine fR Z ?_
  have e:z5 n (d.fields)=none:=by rw [hinv];rfl
  rw [e];refine Run.fin Z (z3.go ?_);exact .Ys (.agg (.cons (.t Z) (.cons (.nil Z) (.cons (.t Z) (.cons (.nil Z) (.cons (.nil Z) .nil)))))) (.t Z)
 ·intro i x r _ h1 hi hd hinv ih;refine fR Z ?_;refine Run.zf Z Z (by simp;omega) ?_;refine fR Z ?_;refine Mid.zb Z Z Z h1 Z Z ?_;refine fM Z ?_;refine Run.cond Z Z (fun h=>?_) (fun h=>?_)
  ·refine fR Z ?_
   have e:z5 n (d.fields)=some x:=by rw [hinv];simp only [z5];rw [w0e h]
   rw [e];refine Run.fin Z (z3.go ?_);exact .Ys (.le (.same Z)) (.t Z)
  ·refine fR Z ?_;refine aL Z Z Z Z Z ?_;refine fM Z ?_
   have h':¬ (x.name==n)=true:=by rw [h];simp
   exact zl 2 Z (ih () (by rw [hinv];simp only [z5];rw [w0g h'])) Z Z Z
theorem yl (H:Pr P) (ds:List Def) (hl:ds.length<=140737488355328) (n:Str):z6 P 12 [Y8 ds,.t (.str n)] ⟨[],0⟩ {v:= .tup [((z7 n ds).getD Def.zero).v,.t (.bool (z7 n ds).isSome)]}:=by
 refine z6.run H.i12 H.mixed Z Z ?_;refine fR Z ?_;refine zu ds (fun i (_:Unit)=>{env:=[(1,.t (.str n)),(2,.ptr 0 0),(4,.ptr 1 0),(6,.t (.int .i64 i))],s:=⟨[(0,.cells [.t (.lst (ds.map Def.enc))]),(1,.cells [.t (.int .i64 0),.t (.str []),.zC,.zC,.zC,.zC,.zC])],2⟩}) (fun r i _=>z7 n (ds)=z7 n r) 2 () Z Z Z Z Z ?_ ?_
 ·intro _ hinv;refine fR Z ?_;refine lM Z Z Z ?_;refine fM Z ?_;refine Run.ze Z Z (by simp) ?_;refine fR Z ?_
  have e:z7 n (ds)=none:=by rw [hinv];rfl
  rw [e];refine Run.fin Z (z3.go ?_);exact .Ys (.agg (.cons (.t Z) (.cons (.t Z) (.cons (.nil Z) (.cons (.nil Z) (.cons (.nil Z) (.cons (.nil Z) (.cons (.nil Z) .nil)))))))) (.t Z)
 ·intro i x r _ h1 hi hd hinv ih;refine fR Z ?_;refine lM Z Z Z ?_;refine fM Z ?_;refine Run.zf Z Z (by simp;omega) ?_;refine fR Z ?_;refine Mid.zb Z Z Z h1 Z Z ?_;refine fM Z ?_;refine Run.cond Z Z (fun h=>?_) (fun h=>?_)
  ·refine fR Z ?_;refine Mid.zb Z Z Z h1 Z Z ?_;refine fM Z ?_
   have e:z7 n (ds)=some x:=by rw [hinv];simp only [z7];rw [w0e h]
   rw [e];refine Run.fin Z (z3.go ?_);exact .Ys (.le (.same Z)) (.t Z)
  ·refine fR Z ?_;refine aL Z Z Z Z Z ?_;refine fM Z ?_
   have h':¬ (x.name==n)=true:=by rw [h];simp
   exact zl 2 Z (ih () (by rw [hinv];simp only [z7];rw [w0g h'])) Z Z Z
theorem WQ (H:Pr P) (d:Def) (hl:d.fields.length<=140737488355328) (n:Str):z6 P 13 [d.v,.t (.str n)] ⟨[],0⟩ {v:= .tup [((z5 n d.fields).getD Field.zero).v,.t (.bool (z5 n d.fields).isSome)]}:=by
 refine z6.run H.i13 H.mixed Z Z ?_;refine fR Z ?_;refine zu d.fields (fun i (_:Unit)=>{env:=[(1,.t (.str n)),(2,.ptr 0 0),(4,.ptr 1 0),(6,.t (.int .i64 i))],s:=⟨[(0,(TCo d)),(1,.cells [.t (.str []),.zC,.t (.str []),.zC,.zC])],2⟩}) (fun r i _=>z5 n (d.fields)=z5 n r) 2 () Z Z Z Z Z ?_ ?_
 ·intro _ hinv;refine fR Z ?_;refine lM Z Z Z ?_;refine fM Z ?_;refine Run.ze Z Z (by simp) ?_;refine fR Z ?_
  have e:z5 n (d.fields)=none:=by rw [hinv];rfl
  rw [e];refine Run.fin Z (z3.go ?_);exact .Ys (.agg (.cons (.t Z) (.cons (.nil Z) (.cons (.t Z) (.cons (.nil Z) (.cons (.nil Z) .nil)))))) (.t Z)
 ·intro i x r _ h1 hi hd hinv ih;refine fR Z ?_;refine lM Z Z Z ?_;refine fM Z ?_;refine Run.zf Z Z (by simp;omega) ?_;refine fR Z ?_;refine Mid.zb Z Z Z h1 Z Z ?_;refine fM Z ?_;refine Run.cond Z Z (fun h=>?_) (fun h=>?_)
  ·refine fR Z ?_;refine Mid.zb Z Z Z h1 Z Z ?_;refine fM Z ?_
   have e:z5 n (d.fields)=some x:=by rw [hinv];simp only [z5];rw [w0e h]
   rw [e];refine Run.fin Z (z3.go ?_);exact .Ys (.le (.same Z)) (.t Z)
  ·refine fR Z ?_;refine aL Z Z Z Z Z ?_;refine fM Z ?_
   have h':¬ (x.name==n)=true:=by rw [h];simp
   exact zl 2 Z (ih () (by rw [hinv];simp only [z5];rw [w0g h'])) Z Z Z
def wC (s:Str):List Str->Int->Int
 |[],_=>-1
 |x::r,i=>if (s==x)=true then i else wC s r (i+1)
theorem zdi (H:Pr P) (l:List Str) (hl:l.length<=140737488355328) (s:Str):z6 P 84 [.t (.lst (l.map sE)),.t (.str s)] ⟨[],0⟩ {v:= .t (.int .i64 (wC s l 0))}:=by
 refine z6.run H.i84 H.mixed Z Z ?_;refine fR Z ?_;refine lM Z Z Z ?_;refine fM Z ?_;refine zu l (fun i (_:Unit)=>{env:=[(0,.t (.lst (l.map sE))),(1,.t (.str s)),(7,.t (.int .i64 l.length)),(8,.t (.int .i64 i))],s:=⟨[],0⟩}) (fun r i _=>wC s l 0=wC s r i) 0 () Z Z Z Z Z ?_ ?_
 ·intro _ hinv;refine fR Z ?_;refine Run.ze Z Z (by simp) ?_;refine fR Z ?_;refine Run.fin Z (z3.go ?_);exact .t (by rw [hinv];simp [wC])
 ·intro i x r _ h1 hi hd hinv ih;refine fR Z ?_;refine Run.zf Z Z (by simp;omega) ?_;refine fR Z ?_;refine Mid.zb Z Z Z h1 Z Z ?_;refine fM Z ?_;refine Run.cond Z Z (fun h=>?_) (fun h=>?_)
  ·refine fR Z ?_;refine Run.fin Z (z3.go ?_);exact .t (by rw [hinv];simp only [wC];rw [w0e h])
  ·refine fR Z ?_;refine aL Z Z Z Z Z ?_;refine fM Z ?_
   have h':¬ (s==x)=true:=by rw [h];simp
   exact zl 0 Z (ih () (by rw [hinv];simp only [wC];rw [w0g h'];rfl)) Z Z Z
theorem z5z (s:Str):∀(l:List Str) (i:Int),0<=i->(decide (wC s l i≥0))=decide (s∈l)
 |[],i,_=>by simp [wC]
 |x::r,i,hi=>by
  by_cases h:s=x
  ·subst h;simp [wC,hi]
  ·have h':¬ (s==x)=true:=by simpa using h
   have e:wC s (x::r) i=wC s r (i+1):=by simp only [wC];rw [w0g h']
   rw [e,z5z s r (i+1) (by omega)];simp [h]
theorem QN (H:Pr P) (l:List Str) (hl:l.length<=140737488355328) (s:Str):z6 P 36 [.t (.lst (l.map sE)),.t (.str s)] ⟨[],0⟩ {v:= .t (.bool (decide (s∈l)))}:=by
 refine z6.run H.i36 H.mixed Z Z ?_;refine fR Z ?_;refine Mid.call (zdi H l hl s) Z Z Z Z ?_;refine fM Z ?_;refine Run.fin Z (z3.go ?_);exact .t (by rw [←z5z s l 0 (by omega)])
end Go.GB.C11
namespace Go.GB.C11
open Go.GB
variable {P:Program}
theorem z71 (a b:Int):(a !=b)=!(a==b):=rfl
theorem z6O (H:Pr P) (l:List Str) (hl:l.length<=140737488355328) (s:Str):z6 P 118 [.t (.lst (l.map sE)),.t (.str s)] ⟨[],0⟩ {v:= .t (.bool (decide (s∈l)))}:=by
 refine z6.run H.i118 H.mixed Z Z ?_;refine fR Z ?_;refine zu l (fun i (_:Unit)=>{env:=[(0,.t (.lst (l.map sE))),(1,.t (.str s)),(5,.t (.int .i64 i))],s:=⟨[],0⟩}) (fun r i _=>decide (s∈l)=decide (s∈r)) 0 () Z Z Z Z Z ?_ ?_
 ·intro _ hinv;refine fR Z ?_;refine lM Z Z Z ?_;refine fM Z ?_;refine Run.ze Z Z (by simp) ?_;refine fR Z ?_;refine Run.fin Z (z3.go ?_);exact .t (by rw [hinv];simp)
 ·intro i x r _ h1 hi hd hinv ih;refine fR Z ?_;refine lM Z Z Z ?_;refine fM Z ?_;refine Run.zf Z Z (by simp;omega) ?_;refine fR Z ?_;refine Mid.zb Z Z Z h1 Z Z ?_;refine fM Z ?_;refine Run.cond Z Z (fun h=>?_) (fun h=>?_)
  ·have h':x=s:=by simpa using h
   refine fR Z ?_;refine Run.fin Z (z3.go ?_);exact .t (by rw [hinv];simp [h'])
  ·have h':¬ x=s:=by simpa using h
   have h2:¬ s=x:=fun e=>h' e.symm;refine fR Z ?_;refine aL Z Z Z Z Z ?_;refine fM Z ?_;exact zl 0 Z (ih () (by rw [hinv];simp [h2])) Z Z Z
def YE (l:List zh) (n:Str):Bool:=l.any fun m=>m.name==n
theorem z56 (H:Pr P) (t:Def) (hl:t.members.length<=140737488355328) (n:Str):z6 P 120 [t.v,.t (.str n)] ⟨[],0⟩ {v:= .t (.bool (YE t.members n))}:=by
 refine z6.run H.i120 H.mixed Z Z ?_;refine fR Z ?_;refine zu t.members (fun i (_:Unit)=>{env:=[(1,.t (.str n)),(2,.ptr 0 0),(5,.t (.int .i64 i))],s:=⟨[(0,(TCo t))],1⟩}) (fun r i _=>YE t.members n=YE r n) 1 () Z Z Z Z Z ?_ ?_
 ·intro _ hinv;refine fR Z ?_;refine lM Z Z Z ?_;refine fM Z ?_;refine Run.ze Z Z (by simp) ?_;refine fR Z ?_;refine Run.fin Z (z3.go ?_);exact .t (by rw [hinv];rfl)
 ·intro i x r _ h1 hi hd hinv ih;refine fR Z ?_;refine lM Z Z Z ?_;refine fM Z ?_;refine Run.zf Z Z (by simp;omega) ?_;refine fR Z ?_;refine Mid.zb Z Z Z h1 Z Z ?_;refine fM Z ?_;refine Run.cond Z Z (fun h=>?_) (fun h=>?_)
  ·refine fR Z ?_;refine Run.fin Z (z3.go ?_);exact .t (by rw [hinv];simp only [YE,w1d,h,Bool.true_or])
  ·refine fR Z ?_;refine aL Z Z Z Z Z ?_;refine fM Z ?_;exact zl 1 Z (ih () (by rw [hinv];simp only [YE,w1d,h,w1z])) Z Z Z
theorem z0p (H:Pr P) (t:Def) (ht:t.Ok) (n:Str):z6 P 125 [t.v,.t (.str n)] ⟨[],0⟩ {v:= .t (.bool (decide (n∈t.implements)))}:=by
 refine z6.run H.i125 H.mixed Z Z ?_;refine fR Z ?_;refine Mid.call (QN H t.implements ht.il n) Z Z Z Z ?_;refine fM Z ?_;refine Run.fin Z (z3.go ?_);exact .t Z
def Zh (pre:List Def) (n:Str):Bool:=!(pre.any fun x=>x.name==n)
theorem z1b (H:Pr P) (ds:List Def) (hl:ds.length<=140737488355328) (i:Nat) (x:Def) (h:ds[i]?=some x):z6 P 148 [Y8 ds,.t (.int .i64 i)] ⟨[],0⟩ {v:= .t (.bool (Zh (ds.take i) x.name))}:=by
 have hi:i<ds.length:=(w02.1 h).1
 have hlt:(ds.take i).length=i:=by simp;omega
 refine z6.run H.i148 H.mixed Z Z ?_;refine fR Z ?_;refine zu (ds.take i) (fun j (_:Unit)=>{env:=[(1,.t (.int .i64 i)),(2,.ptr 0 0),(5,.t (.int .i64 j))],s:=⟨[(0,.cells [.t (.lst (ds.map Def.enc))])],1⟩}) (fun r j _=>Zh (ds.take i) x.name=Zh r x.name) 1 () Z Z Z Z Z ?_ ?_
 ·intro _ hinv;refine fR Z ?_;refine Run.ze Z Z (by rw [hlt];simp) ?_;refine fR Z ?_;refine Run.fin Z (z3.go ?_);exact .t (by rw [hinv];rfl)
 ·intro j y r _ h2 hj hd hinv ih
  have h2':ds[j]?=some y:=by rw [w0p] at h2;split at h2;exact h2;cases h2
  have hj':j<i:=by omega
  refine fR Z ?_;refine Run.zf Z Z (by simp;omega) ?_;refine fR Z ?_;refine Mid.zb Z Z Z h2' Z Z ?_;refine fM Z ?_;refine Mid.zb Z Z Z h Z Z ?_;refine fM Z ?_;refine Run.cond Z Z (fun he=>?_) (fun he=>?_)
  ·refine fR Z ?_;refine Run.fin Z (z3.go ?_);exact .t (by rw [hinv];simp only [Zh,w1d,he,Bool.true_or,Bool.not_true])
  ·refine fR Z ?_;refine aL Z Z Z Z Z ?_;refine fM Z ?_;exact zl 1 Z (ih () (by rw [hinv];simp only [Zh,w1d,he,w1z])) Z Z Z
def isP (t:Def) (nm:Str) (o:Def):Bool:=(t.kind==1&&o.name==nm)||(t.kind==2&&decide (nm∈o.implements))||(t.kind==3&&YE t.members o.name)
def Yk (t:Def) (nm:Str):List Def->List Def->List Str
 |_,[]=>[]
 |pre,o::r=>if (o.kind==1&&Zh pre o.name&&isP t nm o)=true then o.name::Yk t nm (pre++[o]) r else Yk t nm (pre++[o]) r
def Y7 (ds:List Def) (nm:Str):List Str:=
 match z7 nm ds with
 |none=>[]
 |some t=>Yk t nm [] ds
theorem z16 {ds:List Def} (hD:zV ds) (n:Str):((z7 n ds).getD Def.zero).Ok:=by
 cases h:z7 n ds with
 |none=>exact Def.wI
 |some t=>exact hD.d t (wO h)
theorem z6B (H:Pr P) (ds:List Def) (hD:zV ds) (nm:Str):z6 P 105 [Y8 ds,.t (.str nm)] ⟨[],0⟩ {v:= .t (.lst ((Y7 ds nm).map sE))}:=by
 have hl:=hD.l;have hlb:=hD.lb;have hT:=z16 hD nm
 have hpos:Y7 ds nm=if (z7 nm ds).isSome=true then Yk ((z7 nm ds).getD Def.zero) nm [] ds else []:=by
  unfold Y7;cases z7 nm ds<;>rfl
 refine z6.run H.i105 H.mixed Z Z ?_;refine fR Z ?_;refine Mid.call (yl H ds hl nm) Z Z Z Z ?_;refine fM Z ?_;generalize (z7 nm ds).isSome=b at hpos;generalize (z7 nm ds).getD Def.zero=t at hpos hT
 refine zu ds (fun i (B:List Str)=>{env:=[(1,.t (.str nm)),(2,.ptr 0 0),(5,.own 2 1 (B.map sE)),(6,.ptr 1 0),(7,.t (.bool b)),(8,.t (.int .i64 i))],s:=⟨[(0,.cells [.t (.lst (ds.map Def.enc))]),(1,(TCo t)),(2,.arr B.length)],3⟩}) (fun r i B=>B.length<=i/\(b=false->B=[])/\Y7 ds nm=if b=true then B++Yk t nm (ds.take i) r else []) 2 [] Z ⟨by simp,fun _=>rfl,by rw [hpos];simp⟩ rfl rfl rfl ?_ ?_
 ·rintro B ⟨_,hB0,hB⟩
  cases b with
  |true=>
   obtain rfl:B=Y7 ds nm:=by rw [hB];simp [Yk]
   refine fR Z ?_;refine lM Z Z Z ?_;refine fM Z ?_;refine Run.ze Z Z (by simp) ?_;refine fR Z ?_;refine Run.fin Z (z3.go ?_);exact .own Z
  |false=>
   obtain rfl:B=[]:=hB0 rfl
   have hB':Y7 ds nm=[]:=by simpa using hB
   refine fR Z ?_;refine lM Z Z Z ?_;refine fM Z ?_;refine Run.ze Z Z (by simp) ?_;refine fR Z ?_;rw [hB'];refine Run.fin Z (z3.go ?_);exact .own Z
 ·rintro i x r B h1 hi hd ⟨hBl,hB0,hB⟩ ih;have hBl':B.length<=i:=hBl
  have htk:ds.take i++[x]=ds.take (i+1):=by rw [w1f,h1];rfl
  have hx:=hD.d x (zMG h1)
  cases b with
  |true=>
   have hB':Y7 ds nm=B++Yk t nm (ds.take i) (x::r):=by simpa using hB
   refine fR Z ?_;refine lM Z Z Z ?_;refine fM Z ?_;refine Run.zf Z Z (by simp;omega) ?_;refine fR Z ?_;refine Mid.zb Z Z Z h1 Z Z ?_;refine fM Z ?_;refine caG Z Z (fun hg=>⟨_,rfl,z1b H ds hl i x h1,rfl⟩) Z Z ?_;refine fM Z ?_;refine Run.cond Z Z (fun hc=>?_) (fun hc=>?_)
   ·have hn:(x.kind==1&&Zh (ds.take i) x.name&&isP t nm x)=false:=by
     have:(x.kind==1&&Zh (ds.take i) x.name)=false:=by rw [z71] at hc;revert hc;cases (x.kind==1)<;>cases (Zh (ds.take i) x.name)<;>simp
     rw [this];rfl
    refine fR Z ?_;refine aL Z Z Z Z Z ?_;refine fM Z ?_;exact zl 3 Z (ih B ⟨by omega,by simp,by rw [hB'];simp only [Yk,hn];rw [htk];rfl⟩) rfl rfl rfl
   ·have hn:(x.kind==1&&Zh (ds.take i) x.name)=true:=by rw [z71] at hc;revert hc;cases (x.kind==1)<;>cases (Zh (ds.take i) x.name)<;>simp
    refine fR Z ?_;refine caG Z Z (fun hg=>⟨_,rfl,z6O H x.implements hx.il nm,rfl⟩) Z Z ?_;refine fM Z ?_;refine caG Z Z (fun hg=>⟨_,rfl,z56 H t hT.ml x.name,rfl⟩) Z Z ?_;refine fM Z ?_;refine Run.cond Z Z (fun hp=>?_) (fun hp=>?_)
    ·have hp':isP t nm x=true:=by simpa [isP] using hp
     refine fR Z ?_;refine apM sE B [x.name] Z Z Z Z Z ?_;refine fM Z ?_;refine aL Z Z Z Z Z ?_;refine fM Z ?_;exact zl 3 Z (ih (B++[x.name]) ⟨by simp;omega,by simp,by rw [hB'];simp only [Yk,hn,hp'];rw [htk];simp⟩) rfl rfl rfl
    ·have hp':isP t nm x=false:=by simpa [isP] using hp
     refine fR Z ?_;refine aL Z Z Z Z Z ?_;refine fM Z ?_;exact zl 3 Z (ih B ⟨by omega,by simp,by rw [hB'];simp only [Yk,hn,hp'];rw [htk];simp⟩) rfl rfl rfl
  |false=>
   obtain rfl:B=[]:=hB0 rfl
   have hB':Y7 ds nm=[]:=by simpa using hB
   refine fR Z ?_;refine lM Z Z Z ?_;refine fM Z ?_;refine Run.ze Z Z (by simp) ?_;refine fR Z ?_;rw [hB'];refine Run.fin Z (z3.go ?_);exact .own Z
end Go.GB.C11
namespace Go.GB.C11
open Go.GB
variable {P:Program}
def bE (b:Bool):T:= .bool b
def y7 (M:List (Str×Bool)) (k:Str):Bool:=(wa k M).isSome
theorem z2l (M:List (Str×Bool)) (x:Str) (k:Str):y7 (WL x true M) k=(x==k||y7 M k):=by
 unfold y7;rw [z5d];by_cases h:k=x
 ·subst h;simp
 ·have h':¬ x=k:=fun e=>h e.symm;simp [h,h']
structure MOk (M:List (Str×Bool)):Prop where
 nd:(M.map (·.1)).Nodup
 tr:∀e,e∈M->e.2=true
theorem MOk.nil:MOk []:=⟨by simp,by simp⟩
theorem zce {M:List (Str×Bool)} {x:Str} {v:Bool}:∀{e:Str×Bool},e∈WL x v M->e=(x,v)∨e∈M:=by
 induction M with
 |nil=>intro e h;simp [WL] at h;exact .inl h
 |cons a r ih=>
  intro e h;simp only [WL] at h;split at h
  ·rcases w0t.1 h with h|h
   ·exact .inl h
   ·exact .inr (w0k _ h)
  ·rcases w0t.1 h with h|h
   ·exact .inr (h▸w1x ..)
   ·rcases ih h with h|h
    ·exact .inl h
    ·exact .inr (w0k _ h)
theorem MOk.WL {M:List (Str×Bool)} (h:MOk M) (x:Str):MOk (WL x true M):=
 ⟨(z5H h.nd).1,fun e he=>by rcases zce he with rfl|he;rfl;exact h.tr e he⟩
theorem zdn {M:List (Str×Bool)} {k:Str} (h:y7 M k=true):∃e,e∈M/\e.1=k:=by
 unfold y7 at h
 induction M with
 |nil=>simp [wa] at h
 |cons a r ih=>
  simp only [wa] at h;split at h
  ·rename_i e;exact ⟨a,w1x ..,e.symm⟩
  ·obtain ⟨e,h1,h2⟩:=ih h;exact ⟨e,w0k _ h1,h2⟩
theorem MOk.get {M:List (Str×Bool)} (h:MOk M) (k:Str):(wa k M).getD false=y7 M k:=by
 have h2:=h.tr;unfold y7
 induction M with
 |nil=>rfl
 |cons a r ih=>
  simp only [wa];split
  ·simp [h2 a (w1x ..)]
  ·exact ih ⟨(w15.1 (by simpa using h.nd)).2,fun e he=>h2 e (w0k _ he)⟩ fun e he=>h2 e (w0k _ he)
theorem z7m {κ ν:Type} [DecidableEq κ] {e:κ×ν}:∀{l:List (κ×ν)} {i:Nat},l[i]?=some e->(l.map (·.1)).Nodup->wh e.1 l=l.eraseIdx i
 |[],i,h,_=>by simp at h
 |w::r,0,h,hn=>by simp at h;subst h;simp [wh]
 |w::r,i+1,h,hn=>by
  simp only [w0n,w15] at hn
  have h':r[i]?=some e:=by simpa using h
  have hne:¬ e.1=w.1:=fun heq=>hn.1 (w0m.2 ⟨e,zMG h',heq⟩);simp [wh,hne,z7m h' hn.2]
theorem z4a {M:List (Str×Bool)} (hM:MOk M) {e:Str×Bool} {i:Nat} (h:M[i]?=some e) (k:Str):y7 (M.eraseIdx i) k=(y7 M k&&!(k==e.1)):=by
 unfold y7;rw [←z7m h hM.nd,z0z hM.nd];by_cases hk:k=e.1
 ·simp [hk]
 ·simp [hk]
theorem zaU {M:List (Str×Bool)} (hM:MOk M) (x k:Str):y7 (wh x M) k=(y7 M k&&!(k==x)):=by
 unfold y7;rw [z0z hM.nd];by_cases hk:k=x
 ·simp [hk]
 ·simp [hk]
theorem zby {M:List (Str×Bool)} (x:Str):(wh x M).Sublist M:=by
 induction M with
 |nil=>exact List.Sublist.refl _
 |cons a r ih=>
  simp only [wh];split
  ·exact List.sublist_cons_self ..
  ·exact ih.cons_cons _
theorem MOk.sub {M M':List (Str×Bool)} (h:MOk M) (hs:M'.Sublist M):MOk M':=
 ⟨h.nd.sublist (hs.map _),fun e he=>h.tr e (hs.subset he)⟩
theorem z1d:∀{bs:List Nat} {i j s:Nat},bs.Nodup->bs[i]?=some s->bs[j]?=some s->i=j
 |[],i,j,s,_,h,_=>by simp at h
 |b::r,0,0,s,_,_,_=>rfl
 |b::r,0,j+1,s,hn,h1,h2=>by
  simp at h1;subst h1;exact absurd (zMG (by simpa using h2)) (w15.1 hn).1
 |b::r,i+1,0,s,hn,h1,h2=>by
  simp at h2;subst h2;exact absurd (zMG (by simpa using h1)) (w15.1 hn).1
 |b::r,i+1,j+1,s,hn,h1,h2=>by
  exact congrArg (· +1) (z1d (w15.1 hn).2 (by simpa using h1) (by simpa using h2))
def z1y (bs seen:List Nat):Nat:=bs.countP fun s=>!decide (s∈seen)
theorem zex (bs seen:List Nat) (s:Nat):z1y bs (seen++[s])<=z1y bs seen:=by
 unfold z1y;refine List.countP_mono_left fun x _ h=>?_;simp at h⊢;exact h.1
theorem za3 {s:Nat} {seen:List Nat} (hs:s∉seen):∀{bs:List Nat},s∈bs->z1y bs (seen++[s])<z1y bs seen
 |[],h=>by cases h
 |b::r,h=>by
  have hle:=zex r seen s;unfold z1y at hle⊢;simp only [List.countP_cons]
  rcases w0t.1 h with rfl|h
  ·simp [hs];simp at hle;omega
  ·have ih:=za3 hs h;unfold z1y at ih
   have:(if (!decide (b∈seen++[s]))=true then 1 else 0)<=(if (!decide (b∈seen))=true then 1 else 0):=by
    by_cases hb:b∈seen
    ·simp [hb]
    ·by_cases hbs:b=s<;>simp [hb,hbs]
   omega
theorem z8T (bs seen:List Nat) (i:Nat):z1y (bs.eraseIdx i) seen<=z1y bs seen:=(List.eraseIdx_sublist ..).countP_le
theorem z1N {α β:Type}:∀(l:List α) (r:List β) (i:Nat),(l.eraseIdx i).zip (r.eraseIdx i)=(l.zip r).eraseIdx i
 |[],r,i=>by simp
 |a::l,[],i=>by cases i<;>simp
 |a::l,b::r,0=>by simp
 |a::l,b::r,i+1=>by simp [z1N l r i]
structure Lp (M:List (Str×Bool)) (bad:Str->Bool) (b:List (Str×Bool)×List Nat×List Nat):Prop where
 ok:MOk b.1
 len:b.2.1.length=b.1.length
 nd:b.2.1.Nodup
 i1:∀k,y7 b.1 k=true->y7 M k=true
 i2:∀k,y7 M k=true->bad k=false->y7 b.1 k=true
 i3:∀p,p∈b.1.zip b.2.1->p.2∈b.2.2->bad p.1.1=false
theorem Lp.ZX {M:List (Str×Bool)} {bad:Str->Bool} {L:List (Str×Bool)} {bs seen:List Nat} (h:Lp M bad (L,bs,seen)) {i s:Nat} {e:Str×Bool} (he:L[i]?=some e) (hs:bs[i]?=some s) (hb:bad e.1=false):Lp M bad (L,bs,seen++[s]):=by
 refine ⟨h.ok,h.len,h.nd,h.i1,h.i2,fun p hp hps=>?_⟩
 rcases w14.1 hps with hps|hps
 ·exact h.i3 p hp hps
 ·simp at hps;obtain ⟨j,hj⟩:=w0v.1 hp;obtain ⟨h1,h2⟩:=List.getElem?_zip_eq_some.1 hj;rw [hps] at h2;have:=z1d h.nd hs h2;subst this;simp only at h1;rw [he] at h1;simp at h1;rw [←h1];exact hb
theorem Lp.drop {M:List (Str×Bool)} {bad:Str->Bool} {L:List (Str×Bool)} {bs seen:List Nat} (h:Lp M bad (L,bs,seen)) {i s:Nat} {e:Str×Bool} (he:L[i]?=some e) (hs:bs[i]?=some s) (hb:bad e.1=true):Lp M bad (L.eraseIdx i,bs.eraseIdx i,seen++[s]):=by
 have hlen:bs.length=L.length:=h.len;have hok:MOk L:=h.ok
 refine ⟨hok.sub (List.eraseIdx_sublist ..),by show (bs.eraseIdx i).length=(L.eraseIdx i).length;rw [w2b,w2b,hlen],List.Nodup.sublist (List.eraseIdx_sublist ..) h.nd,fun k hk=>?_,fun k hk hkb=>?_,fun p hp hps=>?_⟩
 ·have hk':y7 (L.eraseIdx i) k=true:=hk;rw [z4a hok he] at hk';simp at hk';exact h.i1 k hk'.1
 ·show y7 (L.eraseIdx i) k=true;rw [z4a hok he];have h1:=h.i2 k hk hkb
  have hne:¬ k=e.1:=by rintro rfl;rw [hb] at hkb;cases hkb
  simp [hne];exact h1
 ·have hp':p∈(L.zip bs).eraseIdx i:=by rw [←z1N];exact hp
  have hpm:p∈L.zip bs:=(List.eraseIdx_sublist ..).subset hp'
  rcases w14.1 hps with hps|hps
  ·exact h.i3 p hpm hps
  ·exfalso;simp at hps
   have hz:(bs.eraseIdx i)=((L.zip bs).eraseIdx i).map (·.2):=by
    rw [←z1N];rw [List.map_snd_zip (by rw [w2b,w2b,hlen];exact w09 _)]
   have hmem:s∈bs.eraseIdx i:=by rw [hz,←hps];exact w0m.2 ⟨p,hp',rfl⟩
   obtain ⟨j,hj⟩:=w0v.1 hmem;rw [List.getElem?_eraseIdx] at hj;split at hj
   ·have:=z1d h.nd hs hj;omega
   ·have:=z1d h.nd hs hj;omega
theorem Lp.last {M:List (Str×Bool)} {bad:Str->Bool} {L:List (Str×Bool)} {bs seen:List Nat} (h:Lp M bad (L,bs,seen)) (hall:∀s,s∈bs->s∈seen) (k:Str):y7 L k=(y7 M k&&!(bad k)):=by
 have hlen:bs.length=L.length:=h.len;by_cases hk:y7 L k=true
 ·obtain ⟨e,he,rfl⟩:=zdn hk;obtain ⟨i,hi⟩:=w0v.1 he
  have hil:i<bs.length:=by rw [hlen];exact (w02.1 hi).1
  have hz:(L.zip bs)[i]?=some (e,bs[i]):=List.getElem?_zip_eq_some.2 ⟨hi,by simp [hil]⟩
  have:=h.i3 (e,bs[i]) (zMG hz) (hall _ (by simp));have h1:=h.i1 e.1 hk;simp only at this;rw [hk,h1,this];rfl
 ·have hk':y7 L k=false:=by simpa using hk
  rw [hk'];by_cases h1:y7 M k=true
  ·by_cases h2:bad k=false
   ·exact absurd (h.i2 k h1 h2) hk
   ·have:bad k=true:=by simpa using h2
    simp [this]
  ·have:y7 M k=false:=by simpa using h1
   simp [this]
end Go.GB.C11
namespace Go.GB.C11
open Go.GB
variable {P:Program}
theorem z7i (a b:Str):(a==b)=(b==a):=by
 rw [w1n];simp only [beq_iff_eq];exact eq_comm
def z41 (t:Def) (nm:Str) (ds:List Def) (k:Str):Bool:=
 (t.kind==1&&nm==k)||(t.kind==2&&ds.any (fun x=>decide (nm∈x.implements)&&x.name==k))||(t.kind==3&&YE t.members k)
def z8A (t:Def) (nm:Str) (ds:List Def) (k:Str):Bool:=
 !(z7 k ds).isSome||((z7 k ds).getD Def.zero).kind !=1||(t.kind==2&&!(decide (nm∈((z7 k ds).getD Def.zero).implements)))
theorem z0s:∀{ds:List Def} {i:Nat} {x:Def},ds[i]?=some x->Zh (ds.take i) x.name=true->z7 x.name ds=some x
 |[],i,x,h,_=>by simp at h
 |y::r,0,x,h,_=>by simp at h;subst h;simp [z7]
 |y::r,i+1,x,h,hf=>by
  have hne:¬ (y.name==x.name)=true:=by
   intro e;simp [Zh,e] at hf
  simp only [z7];rw [w0g hne];refine z0s (i:=i) (by simpa using h) ?_;simp only [Zh,List.take_succ_cons,w1d] at hf⊢
  have:(y.name==x.name)=false:=by simpa using hne
  rw [this,w1z] at hf;exact hf
theorem zag {ds:List Def} {t:Def} {nm:Str} {i:Nat} {x:Def} (h:ds[i]?=some x) (hf:Zh (ds.take i) x.name=true):(z41 t nm ds x.name&&!(z8A t nm ds x.name))=(x.kind==1&&isP t nm x):=by
 have e:=z0s h hf;have hm:x∈ds:=zMG h;unfold z8A z41 isP;rw [e];simp only [Option.isSome_some,w25,Bool.not_true,w1z,z71];by_cases h2:t.kind=2
 ·have h1:¬ t.kind=1:=by omega
  have h3:¬ t.kind=3:=by omega
  by_cases hx:nm∈x.implements
  ·have:(ds.any fun y=>decide (nm∈y.implements)&&y.name==x.name)=true:=w1v.2 ⟨x,hm,by simp [hx]⟩
   simp [h2,hx,this]
  ·simp [h2,hx]
 ·have e1:(nm==x.name)=(x.name==nm):=z7i _ _
  have h2':(t.kind==2)=false:=by simpa using h2
  simp only [h2',e1,w18,Bool.or_false,Bool.and_comm]
  cases (t.kind==1&&x.name==nm)<;>cases (t.kind==3&&YE t.members x.name)<;>cases (x.kind==1)<;>rfl
theorem z5K (nm:Str):∀(r pre:List Def),Yk Def.zero nm pre r=[]
 |[],pre=>rfl
 |o::r,pre=>by
  have:isP Def.zero nm o=false:=rfl;simp only [Yk,this,Bool.and_false,w0h,w0x];exact z5K nm r _
theorem z9Q (ds:List Def) (nm:Str):Y7 ds nm=Yk ((z7 nm ds).getD Def.zero) nm [] ds:=by
 unfold Y7
 cases z7 nm ds with
 |none=>simp [z5K]
 |some t=>rfl
theorem z2M (l:List Def) (x:Def) (k:Str):Zh (l++[x]) k=(Zh l k&&!(x.name==k)):=by
 simp [Zh,List.any_append,Bool.not_or]
theorem z2O (H:Pr P) (ds:List Def) (hD:zV ds) (nm:Str):z6 P 70 [Y8 ds,.t (.str nm)] ⟨[],0⟩ {v:= .t (.lst ((Y7 ds nm).map sE))}:=by
 have hl:=hD.l;have hlb:=hD.lb;have hT:=z16 hD nm;have hpos:=z9Q ds nm;refine z6.run H.i70 H.mixed Z Z ?_;refine fR Z ?_;refine Mid.call (z1v H ds hl nm) Z Z Z Z ?_;refine fM Z ?_;generalize (z7 nm ds).getD Def.zero=t at hT hpos
 have tail:∀M:List (Str×Bool),MOk M->(∀k,y7 M k=z41 t nm ds k)->Run P n70 (⟨[],0⟩:S).nxt (z3 ⟨[],0⟩ {v:= .t (.lst ((Y7 ds nm).map sE))} r70 YZ.ret)
   [It.c (.region false [⟨some 60,none,.mv (.s 7)⟩,⟨some 61,none,.Qq (.s 60)⟩] [] [1,2,5,7,61]),It.c c70_23,It.c c70_13]
   {env:=[(1,.t (.str nm)),(2,.ptr 0 0),(5,.ptr 1 0),(7,.mp 2)],s:=⟨[(0,.cells [.t (.lst (ds.map Def.enc))]),(1,(TCo t)),(2,.map false (mE sE bE M) none)],3⟩}:=by
  intro M hM hMk;refine Run.zcC (q:=2) Z Z (fun cl bs hbl hbn hblt=>?_);refine fR Z ?_;refine Mid.zeT Z Z Z ?_;refine Mid.z0m Z ?_
  refine z9k (β:=List (Str×Bool)×List Nat×List Nat) (fun b=>{env:=[(1,.t (.str nm)),(2,.ptr 0 0),(5,.ptr 1 0),(7,.mp 2),(61,.ptr 3 0)],s:=⟨[(0,.cells [.t (.lst (ds.map Def.enc))]),(1,(TCo t)),(2,.map false (mE sE bE b.1) (some (cl,b.2.1))),(3,.iter 2 cl b.2.2 cl)],4⟩})
   (Lp M (z8A t nm ds)) (fun b=>z1y b.2.1 b.2.2) 4 (M,bs,[]) rfl ⟨hM,by simpa [mE] using hbl,hbn,fun _ h=>h,fun _ h _=>h,fun p hp h=>by cases h⟩ rfl rfl rfl ?_
  rintro ⟨L,bs',seen⟩ hinv ih;refine Run.nxt Z Z Z Z Z (fun hall=>?_) (fun i e s he hs hns=>?_)
  ·have hG:=hinv.last hall;have hLok:MOk L:=hinv.ok;refine fM Z ?_;refine Run.ze Z Z Z ?_;refine fR Z ?_;refine lM Z Z Z ?_;refine fM Z ?_
   refine zu ds (fun i (B:List Str×List (Str×Bool))=>{env:=[(7,.mp 2),(15,.own 4 1 (B.1.map sE)),(93,.t (.lst (ds.map Def.enc))),(94,.t (.int .i64 ds.length)),(95,.t (.int .i64 i))],s:=⟨[(2,.map false (mE sE bE B.2) none),(4,.arr B.1.length)],5⟩}) (fun r i B=>B.1.length<=i/\MOk B.2/\(∀k,y7 B.2 k=(y7 L k&&Zh (ds.take i) k))/\Y7 ds nm=B.1++Yk t nm (ds.take i) r) 4 ([],L) Z ⟨by simp,hLok,by intro k;simp [Zh],by rw [hpos];simp⟩ rfl rfl rfl ?_ ?_
   ·rintro ⟨B,N⟩ ⟨_,_,_,hB⟩
    obtain rfl:B=Y7 ds nm:=by rw [hB];simp [Yk]
    refine fR Z ?_;refine Run.ze Z Z (by simp) ?_;refine fR Z ?_;refine Run.fin Z (z3.go ?_);exact .own Z
   ·rintro i x r ⟨B,N⟩ h1 hi hd ⟨hBl,hN,hNk,hB⟩ ih2;have hBl':B.length<=i:=hBl;have hNok:MOk N:=hN
    have htk:ds.take i++[x]=ds.take (i+1):=by rw [w1f,h1];rfl
    have hx:=hNk x.name;refine fR Z ?_;refine Run.zf Z Z (by simp;omega) ?_;refine fR Z ?_;refine Mid.zb Z Z Z h1 Z Z ?_;refine fM Z ?_;refine Mid.zh2 (x.name) Z Z Z Z Z (z4O) Z ?_;refine fM Z ?_;rw [hNok.get];refine Run.cond Z Z (fun hc=>?_) (fun hc=>?_)
    ·have hc2:y7 L x.name=true/\Zh (ds.take i) x.name=true:=by
      have:y7 N x.name=true:=hc;rw [this] at hx;simpa using hx.symm
     have hg:(x.kind==1&&isP t nm x)=true:=by rw [←zag h1 hc2.2,←hMk,←hG];exact hc2.1
     have hsel:(x.kind==1&&Zh (ds.take i) x.name&&isP t nm x)=true:=by
      rw [hc2.2,w2a];exact hg
     refine fR Z ?_;refine apM sE B [x.name] Z Z Z Z Z ?_;refine fM Z ?_;refine Mid.zgU x.name Z Z Z z4O Z ?_;refine fM Z ?_;refine aL Z Z Z Z Z ?_;refine fM Z ?_
     exact zl 5 Z (ih2 (B++[x.name],wh x.name N) ⟨by simp;omega,hNok.sub (zby _),by
      intro k;show y7 (wh x.name N) k=_;rw [zaU hNok,show y7 N k=_ from hNk k,←htk,z2M]
      rw [z7i k x.name,Bool.and_assoc],by rw [hB];simp only [Yk];rw [w0e hsel,htk];simp⟩) rfl rfl rfl
    ·have hcN:y7 N x.name=false:=hc
     have hsel:¬ (x.kind==1&&Zh (ds.take i) x.name&&isP t nm x)=true:=by
      intro hs;simp only [w07] at hs
      have hg:(x.kind==1&&isP t nm x)=true:=by rw [hs.1.1,hs.2];rfl
      rw [←zag h1 hs.1.2,←hMk,←hG] at hg;rw [hcN,hg,hs.1.2] at hx;cases hx
     refine fR Z ?_;refine aL Z Z Z Z Z ?_;refine fM Z ?_
     exact zl 5 Z (ih2 (B,N) ⟨by omega,hNok,by
      intro k;show y7 N k=_;rw [show y7 N k=_ from hNk k,←htk,z2M];by_cases e:x.name=k
      ·subst e;rw [show y7 N x.name=_ from hNk x.name] at hcN;rw [hcN];simp
      ·have e':(x.name==k)=false:=by simpa using e
       rw [e'];simp,by rw [hB];simp only [Yk];rw [w0g hsel,htk]⟩) rfl rfl rfl
  ·have hbn':bs'.Nodup:=hinv.nd;have hLok:MOk L:=hinv.ok;have hsm:s∈bs':=zMG hs;have hO:=z16 hD e.1;have hil:=hO.il;have hlt:z1y bs' (seen++[s])<z1y bs' seen:=za3 hns hsm;refine fM Z ?_;refine Run.zf Z Z Z ?_;refine fR Z ?_;refine Mid.zgx (i:=i) (z:=s) Z Z Z (by simp) he hs hbn' Z ?_;refine fM Z ?_;refine Mid.call (z1v H ds hl e.1) Z Z Z Z ?_;refine fM Z ?_;refine caG Z Z (fun hg=>⟨_,rfl,z0p H ((z7 e.1 ds).getD Def.zero) hO nm,rfl⟩) Z Z ?_;refine fM Z ?_;refine Run.cond Z Z (fun hb=>?_) (fun hb=>?_)
   ·have hb':z8A t nm ds e.1=true:=by simpa [z8A,z71] using hb
    refine fR Z ?_;refine Mid.zhp (i:=i) Z Z he hLok.nd Z z4O Z ?_;refine fM Z ?_;exact zl 4 Z (ih (L.eraseIdx i,bs'.eraseIdx i,seen++[s]) (by have:=z8T bs' (seen++[s]) i;show z1y (bs'.eraseIdx i) (seen++[s])<z1y bs' seen;omega) (hinv.drop he hs hb')) Z Z Z
   ·have hb':z8A t nm ds e.1=false:=by simpa [z8A,z71] using hb
    skip;exact zl 4 Z (ih (L,bs',seen++[s]) hlt (hinv.ZX he hs hb')) Z Z Z
 refine Mid.zfD sE bE Z ?_;refine fM Z ?_;refine Run.cond Z Z (fun h1=>?_) (fun h1=>?_)
 ·have h1':t.kind=1:=by simpa using h1
  refine fR Z ?_;refine Mid.zfA nm Z Z Z Z z4O Z ?_;refine Mid.z0m Z ?_;exact yM 3 Z (tail (WL nm true []) (MOk.nil.WL nm) (by intro k;rw [z2l];simp [z41,h1',y7,wa])) Z Z Z
 ·have h1':¬ t.kind=1:=by simpa using h1
  refine fR Z ?_;refine Run.cond Z Z (fun h2=>?_) (fun h2=>?_)
  ·have h2':t.kind=2:=by simpa using h2
   refine fR Z ?_;refine lM Z Z Z ?_;refine fM Z ?_
   refine zu ds (fun i (M:List (Str×Bool))=>{env:=[(1,.t (.str nm)),(2,.ptr 0 0),(5,.ptr 1 0),(7,.mp 2),(34,.t (.lst (ds.map Def.enc))),(35,.t (.int .i64 ds.length)),(36,.t (.int .i64 i))],s:=⟨[(0,.cells [.t (.lst (ds.map Def.enc))]),(1,(TCo t)),(2,.map false (mE sE bE M) none)],3⟩}) (fun r i M=>MOk M/\∀k,(y7 M k||r.any (fun x=>decide (nm∈x.implements)&&x.name==k))=ds.any (fun x=>decide (nm∈x.implements)&&x.name==k)) 3 [] Z ⟨MOk.nil,fun k=>by simp [y7,wa]⟩ rfl rfl rfl ?_ ?_
   ·rintro M ⟨hM,hMk⟩;refine fR Z ?_;refine Run.ze Z Z (by simp) ?_;exact yM 3 Z (tail M hM (by intro k;have:=hMk k;simp only [List.any_nil,Bool.or_false] at this;rw [this];simp [z41,h2'])) Z Z Z
   ·rintro i x r M hx1 hi hd ⟨hM,hMk⟩ ih;have hxo:=hD.d x (zMG hx1);refine fR Z ?_;refine Run.zf Z Z (by simp;omega) ?_;refine fR Z ?_;refine Mid.zb Z Z Z hx1 Z Z ?_;refine fM Z ?_;refine Mid.call (z0p H x hxo nm) Z Z Z Z ?_;refine fM Z ?_;refine Run.cond Z Z (fun hc=>?_) (fun hc=>?_)
    ·refine fR Z ?_;refine Mid.zfA (x.name) Z Z Z Z (z4O) Z ?_;refine fM Z ?_;refine aL Z Z Z Z Z ?_;refine fM Z ?_
     exact zl 3 Z (ih (WL x.name true M) ⟨hM.WL _,fun k=>by
      rw [←hMk k,z2l];have:decide (nm∈x.implements)=true:=hc;simp only [w1d,this,w1b]
      cases (x.name==k)<;>cases (y7 M k)<;>simp⟩) rfl rfl rfl
    ·refine fR Z ?_;refine aL Z Z Z Z Z ?_;refine fM Z ?_
     exact zl 3 Z (ih M ⟨hM,fun k=>by
      rw [←hMk k];have:decide (nm∈x.implements)=false:=hc
      simp only [w1d,this,w18,w1z]⟩) rfl rfl rfl
  ·have h2':¬ t.kind=2:=by simpa using h2
   refine fR Z ?_;refine Run.cond Z Z (fun h3=>?_) (fun h3=>?_)
   ·have h3':t.kind=3:=by simpa using h3
    have hml:=hT.ml;refine fR Z ?_;refine lM Z Z Z ?_;refine fM Z ?_
    refine zu t.members (fun i (M:List (Str×Bool))=>{env:=[(1,.t (.str nm)),(2,.ptr 0 0),(5,.ptr 1 0),(7,.mp 2),(50,.t (.lst (t.members.map zh.enc))),(51,.t (.int .i64 t.members.length)),(52,.t (.int .i64 i))],s:=⟨[(0,.cells [.t (.lst (ds.map Def.enc))]),(1,(TCo t)),(2,.map false (mE sE bE M) none)],3⟩}) (fun r i M=>MOk M/\∀k,(y7 M k||YE r k)=YE t.members k) 3 [] Z ⟨MOk.nil,fun k=>by simp [y7,wa]⟩ rfl rfl rfl ?_ ?_
    ·rintro M ⟨hM,hMk⟩;refine fR Z ?_;refine Run.ze Z Z (by simp) ?_;exact yM 3 Z (tail M hM (by intro k;have:=hMk k;simp only [YE,List.any_nil,Bool.or_false] at this;rw [this];simp [z41,h3',YE])) Z Z Z
    ·rintro i x r M hx1 hi hd ⟨hM,hMk⟩ ih;refine fR Z ?_;refine Run.zf Z Z (by simp;omega) ?_;refine fR Z ?_;refine Mid.zb Z Z Z hx1 Z Z ?_;refine fM Z ?_;refine Mid.zfA (x.name) Z Z Z Z (z4O) Z ?_;refine fM Z ?_;refine aL Z Z Z Z Z ?_;refine fM Z ?_
     exact zl 3 Z (ih (WL x.name true M) ⟨hM.WL _,fun k=>by
      rw [←hMk k,z2l];simp only [YE,w1d]
      cases (x.name==k)<;>cases (y7 M k)<;>simp⟩) rfl rfl rfl
   ·have h3':¬ t.kind=3:=by simpa using h3
    exact yM 3 Z (tail [] MOk.nil (by intro k;simp [z41,y7,wa,h1',h2',h3'])) Z Z Z
end Go.GB.C11
namespace Go.GB.C11
open Go.GB
variable {P:Program}
def nnF:List Int->Bool
 |[]=>false
 |w::_=>w==1
def zB:List Int->List Int
 |[]=>[]
 |w::r=>if (w==1)=true then r else w::r
def Yx:List Int->Bool
 |[]=>false
 |w::_=>w==2
def Zv (w:List Int):Bool:=Yx (zB w)
theorem qq (w:List Int):(zB w).length<=w.length:=by
 cases w with
 |nil=>simp [zB]
 |cons a r=>simp only [zB];split<;>simp
theorem Qn {w:List Int} (h:nnF w=true):zB w=w.tail:=by
 cases w with
 |nil=>cases h
 |cons a r=>simp only [nnF] at h;simp only [zB];rw [w0e h];rfl
theorem z6c {w:List Int} (h:¬ nnF w=true):zB w=w:=by
 cases w with
 |nil=>rfl
 |cons a r=>simp only [nnF] at h;simp only [zB];rw [w0g h]
theorem z9L (f:FuncId) (hi:z9 P f=some (n76,c76.bare,r76)) (hm:P.follows .mixedOrders=true) (t:Ref) (ht:t.Ok):z6 P f [t.v] ⟨[],0⟩ {v:= .t (.bool (nnF t.za))}:=by
 have hl:=ht.l;obtain ⟨n,w⟩:=t;refine z6.run hi hm Z Z ?_
 cases w with
 |nil=>
  refine fR Z ?_;refine lM Z Z Z ?_;refine fM Z ?_;refine Mid.W4 Z Z Z Z Z ?_;refine Mid.W4 Z Z Z Z Z ?_;refine Mid.W4 Z Z Z Z Z ?_;refine fM Z ?_;refine Run.fin Z (z3.go ?_);exact .t Z
 |cons a r=>
  refine fR Z ?_;refine lM Z Z Z ?_;refine fM Z ?_;refine gr Z ?_;refine fM Z ?_;refine Run.fin Z (z3.go ?_);exact .t (by simp [nnF])
theorem zcS (H:Pr P) (t:Ref) (ht:t.Ok):z6 P 76 [t.v] ⟨[],0⟩ {v:= .t (.bool (nnF t.za))}:=z9L 76 H.i76 H.mixed t ht
theorem z4g (H:Pr P) (t:Ref) (ht:t.Ok):z6 P 99 [t.v] ⟨[],0⟩ {v:= .t (.bool (nnF t.za))}:=z9L 99 H.i99 H.mixed t ht
theorem qf (H:Pr P) (l:List Int) (hl:l.length*8<=140737488355328):z6 P 79 [.t (.lst (l.map nE))] ⟨[],0⟩ {v:= .t (.lst (l.map nE))}:=by
 refine z6.run H.i79 H.mixed Z Z ?_;refine fR Z ?_;refine p0 Z ?_;refine fM Z ?_;refine Run.z44 Z Z (fun h=>?_) (fun _=>?_)
 ·have hn:l=[]:=by
   cases l with
   |nil=>rfl
   |cons x r=>
    have:=h (nE x) (by simp);simp [nE] at this
  subst hn;refine fR Z ?_;refine Run.fin Z (z3.go ?_);exact .nil Z
 ·refine fR Z ?_;refine apN nE l Z Z Z ?_ (h1:=hl) (h2:=by omega);refine fM rfl ?_;refine Run.fin rfl (z3.go ?_);exact .own rfl
theorem z6j {t:Ref} (ht:t.Ok):(⟨t.name,zB t.za⟩:Ref).Ok:=⟨by have:=qq t.za;have:=ht.l;show (zB t.za).length*8<=_;omega,ht.nm⟩
theorem z2R (H:Pr P) (t:Ref) (ht:t.Ok):z6 P 136 [t.v] ⟨[],0⟩ {v:=(⟨t.name,zB t.za⟩:Ref).v}:=by
 have hl:=ht.l;have hn:=zcS H t ht;have hno:=(z6j ht).l;obtain ⟨n,w⟩:=t;refine z6.run H.i136 H.mixed Z Z ?_;refine fR Z ?_;refine Mid.call (hn) Z Z Z Z ?_;refine fM Z ?_;refine Run.cond Z Z (fun h=>?_) (fun h=>?_)
 ·have h':nnF w=true:=h
  cases w with
  |nil=>cases h'
  |cons a r=>
   have e:zB (a::r)=r:=Qn h';refine fR Z ?_;refine lF1 Z Z Z Z ?_;refine fM Z ?_;refine Mid.call (qf H r (by simp at hl;omega)) Z Z Z Z ?_;refine fM Z ?_;refine Run.fin Z (z3.go ?_);exact .agg (.cons (.t Z) (.cons (.t (by rw [e])) .nil))
 ·have h':¬ nnF w=true:=by rw [show nnF w=false from h];simp
  refine fR Z ?_;refine Mid.call (qf H w hl) Z Z Z Z ?_;refine fM Z ?_;refine Run.fin Z (z3.go ?_);exact .agg (.cons (.t Z) (.cons (.t (by rw [z6c h'])) .nil))
theorem zcH (H:Pr P) (n:Str) (a:Int) (r:List Int) (hl:r.length*8<=140737488355320):z6 P 145 [(⟨n,a::r⟩:Ref).v] ⟨[],0⟩ {v:=(⟨n,r⟩:Ref).v}:=by
 refine z6.run H.i145 H.mixed Z Z ?_;refine fR Z ?_;refine lF1 Z Z Z Z ?_;refine apN nE r Z Z Z ?_ (h1:=by omega) (h2:=by omega);refine fM rfl ?_;refine Run.fin rfl (z3.go ?_);exact .agg (.cons (.t rfl) (.cons (.own rfl) .nil))
theorem w7 (H:Pr P) (t:Ref) (ht:t.Ok):z6 P 146 [t.v] ⟨[],0⟩ {v:=(⟨t.name,zB t.za⟩:Ref).v}:=by
 have hl:=ht.l;have hn:=z4g H t ht;obtain ⟨n,w⟩:=t;refine z6.run H.i146 H.mixed Z Z ?_;refine fR Z ?_;refine Mid.call (hn) Z Z Z Z ?_;refine fM Z ?_;refine Run.cond Z Z (fun h=>?_) (fun h=>?_)
 ·have h':nnF w=true:=h
  cases w with
  |nil=>cases h'
  |cons a r=>
   have e:zB (a::r)=r:=Qn h';refine fR Z ?_;refine Mid.call (zcH H n a r (by simp at hl;omega)) Z Z Z Z ?_;refine fM Z ?_;refine Run.fin Z (z3.go ?_);exact .agg (.cons (.t Z) (.cons (.t (by rw [e])) .nil))
 ·have h':¬ nnF w=true:=by rw [show nnF w=false from h];simp
  refine fR Z ?_;refine apN nE w Z Z Z ?_ (h1:=hl) (h2:=by simp at hl;omega);refine fM rfl ?_;refine Run.fin rfl (z3.go ?_);exact .agg (.cons (.t rfl) (.cons (.own (by rw [z6c h'])) .nil))
end Go.GB.C11
namespace Go.GB.C11
open Go.GB
variable {P:Program}
theorem z5n (H:Pr P) (t:Ref) (ht:t.Ok):z6 P 135 [t.v] ⟨[],0⟩ {v:= .t (.bool (Zv t.za))}:=by
 have hn:=z2R H t ht;unfold Zv;generalize zB t.za=N at hn;refine z6.run H.i135 H.mixed Z Z ?_;refine fR Z ?_;refine Mid.call (hn) Z Z Z Z ?_;refine fM Z ?_;refine lM Z Z Z ?_;refine fM Z ?_
 cases N with
 |nil=>
  refine Mid.W4 Z Z Z Z Z ?_;refine Mid.W4 Z Z Z Z Z ?_;refine Mid.W4 Z Z Z Z Z ?_;refine fM Z ?_;refine Run.fin Z (z3.go ?_);exact .t Z
 |cons a r=>
  refine gr Z ?_;refine fM Z ?_;refine Run.fin Z (z3.go ?_);exact .t (by simp [Yx])
theorem z45 (H:Pr P) (t:Ref) (ht:t.Ok):z6 P 144 [t.v] ⟨[],0⟩ {v:= .t (.bool (Zv t.za))}:=by
 have hn:=w7 H t ht;unfold Zv;generalize zB t.za=N at hn;refine z6.run H.i144 H.mixed Z Z ?_;refine fR Z ?_;refine Mid.call (hn) Z Z Z Z ?_;refine fM Z ?_;refine lM Z Z Z ?_;refine fM Z ?_
 cases N with
 |nil=>
  refine Mid.W4 Z Z Z Z Z ?_;refine Mid.W4 Z Z Z Z Z ?_;refine Mid.W4 Z Z Z Z Z ?_;refine fM Z ?_;refine Run.fin Z (z3.go ?_);exact .t Z
 |cons a r=>
  refine gr Z ?_;refine fM Z ?_;refine Run.fin Z (z3.go ?_);exact .t (by simp [Yx])
theorem z1h {w:List Int} (h:Zv w=true):∃r,zB w=2::r:=by
 unfold Zv at h
 cases hn:zB w with
 |nil=>rw [hn] at h;cases h
 |cons a r=>rw [hn] at h;simp [Yx] at h;subst h;exact ⟨r,rfl⟩
theorem Wm (H:Pr P) (t:Ref) (ht:t.Ok) (h:Zv t.za=true):z6 P 77 [t.v] ⟨[],0⟩ {v:= .tup [(⟨t.name,(zB t.za).tail⟩:Ref).v,.t (.bool true)]}:=by
 have hn:=z2R H t ht;have hi:=z5n H t ht;rw [h] at hi;obtain ⟨r,hr⟩:=z1h h;rw [hr] at hn⊢;refine z6.run H.i77 H.mixed Z Z ?_;refine fR Z ?_;refine Mid.call (hi) Z Z Z Z ?_;refine fM Z ?_;refine Run.ze Z Z Z ?_;refine fR Z ?_;refine Mid.call (hn) Z Z Z Z ?_;refine fM Z ?_;refine lF1 Z Z Z Z ?_;refine fM Z ?_;refine Run.fin Z (z3.go ?_);exact .Ys (.agg (.cons (.t Z) (.cons (.t Z) .nil))) (.t Z)
theorem Wk (H:Pr P) (t:Ref) (ht:t.Ok) (h:Zv t.za=false):z6 P 77 [t.v] ⟨[],0⟩ {v:= .tup [(⟨[],[]⟩:Ref).v,.t (.bool false)]}:=by
 have hi:=z5n H t ht;rw [h] at hi;refine z6.run H.i77 H.mixed Z Z ?_;refine fR Z ?_;refine Mid.call (hi) Z Z Z Z ?_;refine fM Z ?_;refine Run.zf Z Z Z ?_;refine fR Z ?_;refine Run.fin Z (z3.go ?_);exact .Ys (.agg (.cons (.t Z) (.cons (.nil Z) .nil))) (.t Z)
theorem z0T (H:Pr P) (t:Ref) (ht:t.Ok) (h:Zv t.za=true):z6 P 97 [t.v] ⟨[],0⟩ {v:= .tup [(⟨t.name,(zB t.za).tail⟩:Ref).v,.t (.bool true)]}:=by
 have hn:=w7 H t ht;have hi:=z45 H t ht;rw [h] at hi;obtain ⟨r,hr⟩:=z1h h;have hlen:=qq t.za;have hl:=ht.l;rw [hr] at hn hlen⊢;refine z6.run H.i97 H.mixed Z Z ?_;refine fR Z ?_;refine Mid.call (hi) Z Z Z Z ?_;refine fM Z ?_;refine Run.ze Z Z Z ?_;refine fR Z ?_;refine Mid.call (hn) Z Z Z Z ?_;skip;refine Mid.call (zcH H t.name 2 r (by simp at hlen;omega)) Z Z Z Z ?_;refine fM Z ?_;refine Run.fin Z (z3.go ?_);exact .Ys (.agg (.cons (.t Z) (.cons (.t Z) .nil))) (.t Z)
theorem z0M (H:Pr P) (t:Ref) (ht:t.Ok) (h:Zv t.za=false):z6 P 97 [t.v] ⟨[],0⟩ {v:= .tup [(⟨[],[]⟩:Ref).v,.t (.bool false)]}:=by
 have hi:=z45 H t ht;rw [h] at hi;refine z6.run H.i97 H.mixed Z Z ?_;refine fR Z ?_;refine Mid.call (hi) Z Z Z Z ?_;refine fM Z ?_;refine Run.zf Z Z Z ?_;refine fR Z ?_;refine Run.fin Z (z3.go ?_);exact .Ys (.agg (.cons (.t Z) (.cons (.nil Z) .nil))) (.t Z)
def isF (ds:List Def) (o n:Str):Bool:=decide (o∈Y7 ds n)
theorem z7B (t:Def) (nm:Str):∀(r pre:List Def),(Yk t nm pre r).length<=r.length
 |[],pre=>by simp [Yk]
 |o::r,pre=>by
  have:=z7B t nm r (pre++[o]);simp only [Yk]
  split<;>simp<;>omega
theorem z4p (ds:List Def) (nm:Str):(Y7 ds nm).length<=ds.length:=by
 rw [z9Q];exact z7B _ nm ds []
theorem zg4 (H:Pr P) (ds:List Def) (hD:zV ds) (o n:Str):z6 P 176 [Y8 ds,.t (.str o),.t (.str n)] ⟨[],0⟩ {v:= .t (.bool (isF ds o n))}:=by
 have hl:=z4p ds n;have:=hD.l;refine z6.run H.i176 H.mixed Z Z ?_;refine fR Z ?_;refine Mid.call (z6B H ds hD n) Z Z Z Z ?_;refine fM Z ?_;refine Mid.call (z6O H (Y7 ds n) (by omega) o) Z Z Z Z ?_;refine fM Z ?_;refine Run.fin Z (z3.go ?_);exact .t Z
def z1q (bas:Bool):Nat->List Int->List Int->Bool
 |0,_,_=>false
 |k+1,a,b=>
  if nnF b=true then nnF a&&z1q bas k (zB a) (zB b)
  else if nnF a=true then z1q bas k (zB a) b
  else if (Zv a||Zv b)=true then Zv a&&Zv b&&z1q bas k (zB a).tail (zB b).tail
  else bas
def z6g (ds:List Def) (a b:Str):Bool:=a==b||isF ds a b
def z9h (P:Program) (f:Nat) (ds:List Def) (k:Nat) (a b:Ref):Prop:=z6 P f [Y8 ds,a.v,b.v] ⟨[],0⟩ {v:= .t (.bool (z1q (z6g ds a.name b.name) k a.za b.za))}
theorem zdM {t:Ref} (ht:t.Ok):(⟨t.name,(zB t.za).tail⟩:Ref).Ok:=⟨by
 have:=qq t.za;have:=ht.l;show (zB t.za).tail.length*8<=_
 rw [List.length_tail];omega,ht.nm⟩
end Go.GB.C11
namespace Go.GB.C11
open Go.GB
variable {P:Program}
theorem zbH (H:Pr P) (ds:List Def) (hD:zV ds) (k:Nat) (a b:Ref) (ha:a.Ok) (hb:b.Ok)
  (hrec:∀x y:Ref,x.Ok->y.Ok->x.za.length+y.za.length<a.za.length+b.za.length->z9h P 159 ds k x y):z9h P 159 ds (k+1) a b:=by
 unfold z9h;refine z6.run H.i159 H.mixed Z Z ?_;refine fR Z ?_;refine Mid.call (z4g H b hb) Z Z Z Z ?_;refine fM Z ?_;refine Run.cond Z Z (fun h1=>?_) (fun h1=>?_)
 ·have h1':nnF b.za=true:=h1
  have e:z1q (z6g ds a.name b.name) (k+1) a.za b.za=(nnF a.za&&z1q (z6g ds a.name b.name) k (zB a.za) (zB b.za)):=by simp only [z1q];rw [w0e h1']
  have hc:=hrec ⟨a.name,zB a.za⟩ ⟨b.name,zB b.za⟩ (z6j ha) (z6j hb) (by
   have:=qq a.za;have h2:=Qn h1'
   cases hw:b.za with
   |nil=>rw [hw] at h1';cases h1'
   |cons c r=>rw [hw] at h2;simp only [h2];simp;omega)
  unfold z9h at hc;refine fR Z ?_;refine Mid.call (z4g H a ha) Z Z Z Z ?_;refine fM Z ?_;refine caG Z Z (fun hg=>⟨_,rfl,w7 H a ha,rfl⟩) Z Z ?_;refine fM Z ?_;refine caG Z Z (fun hg=>⟨_,rfl,w7 H b hb,rfl⟩) Z Z ?_;skip;refine caG Z Z (fun hg=>⟨_,rfl,hc,rfl⟩) Z Z ?_;refine fM Z ?_;refine Run.fin Z (z3.go ?_);exact .t (by rw [e])
 ·have h1':¬ nnF b.za=true:=by rw [show nnF b.za=false from h1];simp
  refine fR Z ?_;refine Mid.call (z4g H a ha) Z Z Z Z ?_;refine fM Z ?_;refine Run.cond Z Z (fun h2=>?_) (fun h2=>?_)
  ·have h2':nnF a.za=true:=h2
   have e:z1q (z6g ds a.name b.name) (k+1) a.za b.za=z1q (z6g ds a.name b.name) k (zB a.za) b.za:=by simp only [z1q];rw [w0g h1',w0e h2']
   have hc:=hrec ⟨a.name,zB a.za⟩ b (z6j ha) hb (by
    have h2:=Qn h2'
    cases hw:a.za with
    |nil=>rw [hw] at h2';cases h2'
    |cons c r=>rw [hw] at h2;simp only [h2];simp)
   unfold z9h at hc;refine fR Z ?_;refine Mid.call (w7 H a ha) Z Z Z Z ?_;refine fM Z ?_;refine Mid.call (hc) Z Z Z Z ?_;refine fM Z ?_;refine Run.fin Z (z3.go ?_);exact .t (by rw [e])
  ·have h2':¬ nnF a.za=true:=by rw [show nnF a.za=false from h2];simp
   have e:z1q (z6g ds a.name b.name) (k+1) a.za b.za=if (Zv a.za||Zv b.za)=true then Zv a.za&&Zv b.za&&z1q (z6g ds a.name b.name) k (zB a.za).tail (zB b.za).tail else z6g ds a.name b.name:=by simp only [z1q];rw [w0g h1',w0g h2']
   refine fR Z ?_
   cases hla:Zv a.za with
   |true=>
    refine Mid.call (z0T H a ha hla) Z Z Z Z ?_;refine fM Z ?_
    cases hlb:Zv b.za with
    |true=>
     have hc:=hrec ⟨a.name,(zB a.za).tail⟩ ⟨b.name,(zB b.za).tail⟩ (zdM ha) (zdM hb) (by
      have h3:=qq a.za;have h4:=qq b.za;obtain ⟨r,hr⟩:=z1h hla;rw [hr] at h3;simp only [List.length_tail,hr]
      simp at h3⊢;omega)
     unfold z9h at hc;rw [hla,hlb] at e;refine Mid.call (z0T H b hb hlb) Z Z Z Z ?_;refine fM Z ?_;refine Run.zf Z Z Z ?_;refine fR Z ?_;refine Mid.call (hc) Z Z Z Z ?_;refine fM Z ?_;refine Run.fin Z (z3.go ?_);exact .t (by rw [e];rfl)
    |false=>
     rw [hla,hlb] at e;refine Mid.call (z0M H b hb hlb) Z Z Z Z ?_;refine fM Z ?_;refine Run.ze Z Z Z ?_;refine fR Z ?_;refine Mid.W4 Z Z Z Z Z ?_;refine fM Z ?_;refine Run.fin Z (z3.go ?_);exact .t (by rw [e];rfl)
   |false=>
    refine Mid.call (z0M H a ha hla) Z Z Z Z ?_;refine fM Z ?_
    cases hlb:Zv b.za with
    |true=>
     rw [hla,hlb] at e;refine Mid.call (z0T H b hb hlb) Z Z Z Z ?_;refine fM Z ?_;refine Run.ze Z Z Z ?_;refine fR Z ?_;refine Mid.W4 Z Z Z Z Z ?_;refine fM Z ?_;refine Run.fin Z (z3.go ?_);exact .t (by rw [e];rfl)
    |false=>
     rw [hla,hlb] at e;refine Mid.call (z0M H b hb hlb) Z Z Z Z ?_;refine fM Z ?_;refine Run.ze Z Z Z ?_;refine fR Z ?_;refine caG Z Z (fun hg=>⟨_,rfl,zg4 H ds hD a.name b.name,rfl⟩) Z Z ?_;refine fM Z ?_;refine Run.fin Z (z3.go ?_);exact .t (by rw [e];rfl)
theorem zaa (H:Pr P) (ds:List Def) (hD:zV ds):∀(k:Nat) (a b:Ref),a.za.length+b.za.length<k->a.Ok->b.Ok->z9h P 159 ds k a b
 |0,a,b,h,_,_=>by omega
 |k+1,a,b,h,ha,hb=>zbH H ds hD k a b ha hb fun x y hx hy hlt=>zaa H ds hD k x y (by omega) hx hy
end Go.GB.C11
namespace Go.GB.C11
open Go.GB
variable {P:Program}
theorem y9 {α:Type} {l:List α} {i:Nat} {y:α} (h:l[i]?=some y):l.drop i=y::l.drop (i+1):=by
 obtain ⟨hi,hy⟩:=w02.1 h;rw [List.drop_eq_getElem_cons hi,hy]
theorem Y3 {α β:Type} {a:List α} {b:List β} (h:a.length=b.length) {i:Nat} (hi:i<a.length):∃y,b[i]?=some y:=⟨b[i]'(by omega),by simp [show i<b.length by omega]⟩
theorem qO (H:Pr P) (a b:List Str) (ha:a.length<=140737488355328) (hb:b.length<=140737488355328):z6 P 51 [.t (.lst (a.map sE)),.t (.lst (b.map sE))] ⟨[],0⟩ {v:= .t (.bool (decide (a=b)))}:=by
 refine z6.run H.i51 H.mixed Z Z ?_;refine fR Z ?_;refine lM Z Z Z ?_;refine fM Z ?_;refine lM Z Z Z ?_;refine fM Z ?_;refine Run.cond Z Z (fun h=>?_) (fun h=>?_)
 ·have h':¬ a.length=b.length:=by simp at h;omega
  refine fR Z ?_;refine Run.fin Z (z3.go ?_);exact .t (by simp;intro e;exact h' (by rw [e]))
 ·have h':a.length=b.length:=by simp at h;omega
  refine fR Z ?_;refine zu a (fun i (_:Unit)=>{env:=[(0,.t (.lst (a.map sE))),(1,.t (.lst (b.map sE))),(5,.t (.int .i64 i))],s:=⟨[],0⟩}) (fun r i _=>decide (a=b)=decide (r=b.drop i)) 0 () Z (by simp) Z Z Z ?_ ?_
  ·intro _ hinv;refine fR Z ?_;refine lM Z Z Z ?_;refine fM Z ?_;refine Run.ze Z Z (by simp) ?_;refine fR Z ?_;refine Run.fin Z (z3.go ?_);exact .t (by rw [hinv,h'];simp)
  ·intro i x r _ h1 hi hd hinv ih;obtain ⟨y,hy⟩:=Y3 h' hi;have hinv':decide (a=b)=decide (x::r=b.drop i):=hinv;rw [y9 hy] at hinv';refine fR Z ?_;refine lM Z Z Z ?_;refine fM Z ?_;refine Run.zf Z Z (by simp;omega) ?_;refine fR Z ?_;refine Mid.zb Z Z Z h1 Z Z ?_;refine fM Z ?_;refine Mid.zb Z Z Z hy Z Z ?_;refine fM Z ?_;refine Run.cond Z Z (fun hc=>?_) (fun hc=>?_)
   ·have hc':¬ x=y:=by simpa using hc
    refine fR Z ?_;refine Run.fin Z (z3.go ?_);exact .t (by rw [hinv'];simp [hc'])
   ·have hc':x=y:=by simpa using hc
    refine fR Z ?_;refine aL Z Z Z Z Z ?_;refine fM Z ?_;exact zl 0 Z (ih () (by rw [hinv'];simp [hc'])) Z Z Z
theorem zee (H:Pr P) (a b:List Int) (ha:a.length<=140737488355328) (hb:b.length<=140737488355328):z6 P 102 [.t (.lst (a.map nE)),.t (.lst (b.map nE))] ⟨[],0⟩ {v:= .t (.bool (decide (a=b)))}:=by
 refine z6.run H.i102 H.mixed Z Z ?_;refine fR Z ?_;refine lM Z Z Z ?_;refine fM Z ?_;refine lM Z Z Z ?_;refine fM Z ?_;refine Run.cond Z Z (fun h=>?_) (fun h=>?_)
 ·have h':¬ a.length=b.length:=by simp at h;omega
  refine fR Z ?_;refine Run.fin Z (z3.go ?_);exact .t (by simp;intro e;exact h' (by rw [e]))
 ·have h':a.length=b.length:=by simp at h;omega
  refine fR Z ?_;refine zu a (fun i (_:Unit)=>{env:=[(0,.t (.lst (a.map nE))),(1,.t (.lst (b.map nE))),(5,.t (.int .i64 i))],s:=⟨[],0⟩}) (fun r i _=>decide (a=b)=decide (r=b.drop i)) 0 () Z (by simp) Z Z Z ?_ ?_
  ·intro _ hinv;refine fR Z ?_;refine lM Z Z Z ?_;refine fM Z ?_;refine Run.ze Z Z (by simp) ?_;refine fR Z ?_;refine Run.fin Z (z3.go ?_);exact .t (by rw [hinv,h'];simp)
  ·intro i x r _ h1 hi hd hinv ih;obtain ⟨y,hy⟩:=Y3 h' hi;have hinv':decide (a=b)=decide (x::r=b.drop i):=hinv;rw [y9 hy] at hinv';refine fR Z ?_;refine lM Z Z Z ?_;refine fM Z ?_;refine Run.zf Z Z (by simp;omega) ?_;refine fR Z ?_;refine Mid.zb Z Z Z h1 Z Z ?_;refine fM Z ?_;refine Mid.zb Z Z Z hy Z Z ?_;refine fM Z ?_;refine Run.cond Z Z (fun hc=>?_) (fun hc=>?_)
   ·have hc':¬ x=y:=by simpa using hc
    refine fR Z ?_;refine Run.fin Z (z3.go ?_);exact .t (by rw [hinv'];simp [hc'])
   ·have hc':x=y:=by simpa using hc
    refine fR Z ?_;refine aL Z Z Z Z Z ?_;refine fM Z ?_;exact zl 0 Z (ih () (by rw [hinv'];simp [hc'])) Z Z Z
theorem z5C (H:Pr P) (a b:List Int) (ha:a.length<=140737488355328) (hb:b.length<=140737488355328):z6 P 78 [.t (.lst (a.map nE)),.t (.lst (b.map nE))] ⟨[],0⟩ {v:= .t (.bool (decide (a=b)))}:=by
 refine z6.run H.i78 H.mixed Z Z ?_;refine fR Z ?_;refine lM Z Z Z ?_;refine fM Z ?_;refine lM Z Z Z ?_;refine fM Z ?_;refine Run.cond Z Z (fun h=>?_) (fun h=>?_)
 ·have h':¬ a.length=b.length:=by simp at h;omega
  refine fR Z ?_;refine Run.fin Z (z3.go ?_);exact .t (by simp;intro e;exact h' (by rw [e]))
 ·have h':a.length=b.length:=by simp at h;omega
  refine fR Z ?_;refine lM Z Z Z ?_;refine fM Z ?_;refine zu a (fun i (_:Unit)=>{env:=[(0,.t (.lst (a.map nE))),(1,.t (.lst (b.map nE))),(12,.t (.int .i64 a.length)),(13,.t (.int .i64 i))],s:=⟨[],0⟩}) (fun r i _=>decide (a=b)=decide (r=b.drop i)) 0 () Z (by simp) Z Z Z ?_ ?_
  ·intro _ hinv;refine fR Z ?_;refine Run.ze Z Z (by simp) ?_;refine fR Z ?_;refine Run.fin Z (z3.go ?_);exact .t (by rw [hinv,h'];simp)
  ·intro i x r _ h1 hi hd hinv ih;obtain ⟨y,hy⟩:=Y3 h' hi;have hinv':decide (a=b)=decide (x::r=b.drop i):=hinv;rw [y9 hy] at hinv';refine fR Z ?_;refine Run.zf Z Z (by simp;omega) ?_;refine fR Z ?_;refine Mid.zb Z Z Z h1 Z Z ?_;refine fM Z ?_;refine Mid.zb Z Z Z hy Z Z ?_;refine fM Z ?_;refine Run.cond Z Z (fun hc=>?_) (fun hc=>?_)
   ·have hc':¬ x=y:=by simpa using hc
    refine fR Z ?_;refine Run.fin Z (z3.go ?_);exact .t (by rw [hinv'];simp [hc'])
   ·have hc':x=y:=by simpa using hc
    refine fR Z ?_;refine aL Z Z Z Z Z ?_;refine fM Z ?_;exact zl 0 Z (ih () (by rw [hinv'];simp [hc'])) Z Z Z
structure z4 where
 err:Int
 at_:Str
instance:DecidableEq z4:=fun a b=>decidable_of_iff (a.err=b.err/\a.at_=b.at_) (by cases a;cases b;simp)
def z4.enc (f:z4):List T:=[.int .i64 f.err,.str f.at_]
theorem zbK (H:Pr P) (a b:List z4) (ha:a.length<=140737488355328) (hb:b.length<=140737488355328):z6 P 18 [.t (.lst (a.map z4.enc)),.t (.lst (b.map z4.enc))] ⟨[],0⟩ {v:= .t (.bool (decide (a=b)))}:=by
 refine z6.run H.i18 H.mixed Z Z ?_;refine fR Z ?_;refine lM Z Z Z ?_;refine fM Z ?_;refine lM Z Z Z ?_;refine fM Z ?_;refine Run.cond Z Z (fun h=>?_) (fun h=>?_)
 ·have h':¬ a.length=b.length:=by simp at h;omega
  refine fR Z ?_;refine Run.fin Z (z3.go ?_);exact .t (by simp;intro e;exact h' (by rw [e]))
 ·have h':a.length=b.length:=by simp at h;omega
  refine fR Z ?_;refine zu a (fun i (_:Unit)=>{env:=[(0,.t (.lst (a.map z4.enc))),(1,.t (.lst (b.map z4.enc))),(5,.t (.int .i64 i))],s:=⟨[],0⟩}) (fun r i _=>decide (a=b)=decide (r=b.drop i)) 0 () Z (by simp) Z Z Z ?_ ?_
  ·intro _ hinv;refine fR Z ?_;refine lM Z Z Z ?_;refine fM Z ?_;refine Run.ze Z Z (by simp) ?_;refine fR Z ?_;refine Run.fin Z (z3.go ?_);exact .t (by rw [hinv,h'];simp)
  ·intro i x r _ h1 hi hd hinv ih;obtain ⟨y,hy⟩:=Y3 h' hi;have hinv':decide (a=b)=decide (x::r=b.drop i):=hinv;rw [y9 hy] at hinv';refine fR Z ?_;refine lM Z Z Z ?_;refine fM Z ?_;refine Run.zf Z Z (by simp;omega) ?_;refine fR Z ?_;refine Mid.zb Z Z Z h1 Z Z ?_;refine fM Z ?_;refine Mid.zb Z Z Z hy Z Z ?_;refine fM Z ?_;refine p0 Z ?_;refine fM Z ?_;refine Run.cond Z Z (fun hc=>?_) (fun hc=>?_)
   ·have hc':¬ x=y:=by
     rintro rfl;simp [ZY,T.eqb] at hc
    refine fR Z ?_;refine Run.fin Z (z3.go ?_);exact .t (by rw [hinv'];simp [hc'])
   ·have hc':x=y:=by
     simp [ZY,T.eqb] at hc;cases x;cases y;simp at hc⊢;exact hc
    refine fR Z ?_;refine aL Z Z Z Z Z ?_;refine fM Z ?_;exact zl 0 Z (ih () (by rw [hinv'];simp [hc'])) Z Z Z
end Go.GB.C11
namespace Go.GB.C11
open Go.GB
variable {P:Program}
def z4j (n:Int) (f:Field):Int:=IntKind.i64.wrap (n+IntKind.i64.wrap ((f.args.length:Nat)+(f.zg.length:Nat)))
def qC (n:Int) (d:Def):Int:=d.fields.foldl z4j (IntKind.i64.wrap (n+IntKind.i64.wrap (IntKind.i64.wrap (IntKind.i64.wrap (IntKind.i64.wrap (IntKind.i64.wrap (1+(d.fields.length:Nat))+(d.members.length:Nat))+(d.zi.length:Nat))+(d.zg.length:Nat))+(d.implements.length:Nat))))
def W0 (ds:List Def):Bool:=decide ((ds.length:Int)>70)||decide (ds.foldl qC 0>1000)
theorem zcB (H:Pr P) (ds:List Def) (hD:zV ds):z6 P 22 [Y8 ds] ⟨[],0⟩ {v:= .t (.bool (W0 ds))}:=by
 have hl:=hD.l;refine z6.run H.i22 H.mixed Z Z ?_;refine fR Z ?_;refine lM Z Z Z ?_;refine fM Z ?_;refine Run.cond Z Z (fun h=>?_) (fun h=>?_)
 ·refine fR Z ?_;refine Run.fin Z (z3.go ?_);exact .t (by unfold W0;rw [show decide ((ds.length:Int)>70)=true from h];rfl)
 ·have h':decide ((ds.length:Int)>70)=false:=h;refine fR Z ?_;refine zu ds (fun i (n:Int)=>{env:=[(1,.ptr 0 0),(3,.t (.int .i64 n)),(4,.t (.int .i64 i))],s:=⟨[(0,.cells [.t (.lst (ds.map Def.enc))])],1⟩}) (fun r i n=>ds.foldl qC 0=r.foldl qC n) 1 0 Z Z Z Z Z ?_ ?_
  ·rintro n hinv;refine fR Z ?_;refine lM Z Z Z ?_;refine fM Z ?_;refine Run.ze Z Z (by simp) ?_;refine fR Z ?_;refine Run.fin Z (z3.go ?_);exact .t (by unfold W0;rw [h',hinv];rfl)
  ·rintro i x r n h1 hi hd hinv ih;have hinv':ds.foldl qC 0=r.foldl qC (qC n x):=hinv;refine fR Z ?_;refine lM Z Z Z ?_;refine fM Z ?_;refine Run.zf Z Z (by simp;omega) ?_;refine fR Z ?_;refine Mid.zb Z Z Z h1 Z Z ?_;refine fM Z ?_;refine lM Z Z Z ?_;refine p0 Z ?_;refine fM Z ?_;refine lM Z Z Z ?_;refine p0 Z ?_;refine fM Z ?_;refine lM Z Z Z ?_;refine p0 Z ?_;refine fM Z ?_;refine lM Z Z Z ?_;refine p0 Z ?_;refine fM Z ?_;refine lM Z Z Z ?_;refine p0 Z ?_;refine p0 Z ?_;refine fM Z ?_;have hfl:=(hD.d x (zMG h1)).fl;generalize hn1:IntKind.i64.wrap (n+IntKind.i64.wrap (IntKind.i64.wrap (IntKind.i64.wrap (IntKind.i64.wrap (IntKind.i64.wrap (1+(x.fields.length:Nat))+(x.members.length:Nat))+(x.zi.length:Nat))+(x.zg.length:Nat))+(x.implements.length:Nat)))=n1
   have en:qC n x=x.fields.foldl z4j n1:=by rw [←hn1];rfl
   rw [en] at hinv';refine zu x.fields (fun j (n:Int)=>{env:=[(1,.ptr 0 0),(3,.t (.int .i64 n)),(4,.t (.int .i64 i)),(5,.ptr 1 0),(6,.t (.int .i64 j))],s:=⟨[(0,.cells [.t (.lst (ds.map Def.enc))]),(1,(TCo x))],2⟩}) (fun r2 j n=>ds.foldl qC 0=r.foldl qC (r2.foldl z4j n)) 2 n1 Z (by rw [hinv']) Z Z Z ?_ ?_
   ·rintro n2 hinv2;refine fR Z ?_;refine lM Z Z Z ?_;refine fM Z ?_;refine Run.ze Z Z (by simp) ?_;refine fR Z ?_;refine aL Z Z Z Z Z ?_;refine fM Z ?_;exact zl 1 Z (ih n2 (by rw [hinv2];rfl)) Z Z Z
   ·rintro j f r2 n2 h2 hj hjd hinv2 ih2;refine fR Z ?_;refine lM Z Z Z ?_;refine fM Z ?_;refine Run.zf Z Z (by simp;omega) ?_;refine fR Z ?_;refine Mid.zb Z Z Z h2 Z Z ?_;refine fM Z ?_;refine lM Z Z Z ?_;refine fM Z ?_;refine Mid.zb Z Z Z h2 Z Z ?_;refine fM Z ?_;refine lM Z Z Z ?_;refine p0 Z ?_;refine p0 Z ?_;refine fM Z ?_;refine aL Z Z Z Z Z ?_;refine fM Z ?_;exact zl 2 Z (ih2 (z4j n2 f) (by rw [hinv2];rfl)) Z Z Z
def Qz (n:Str):Bool:=n==[73,110,116]||n==[83,116,114,105,110,103]||n==[66,111,111,108,101,97,110]||n==[73,68]
theorem Ww (H:Pr P) (n:Str):z6 P 111 [.t (.str n)] ⟨[],0⟩ {v:= .t (.bool (Qz n))}:=by
 refine z6.run H.i111 H.mixed Z Z ?_;refine fR Z ?_;refine Run.fin Z (z3.go ?_);exact .t (by simp [Qz])
def zbV (c:Int):Bool:=(decide (c≥65)&&decide (c<=90))||(decide (c≥97)&&decide (c<=122))||c==95
def zbC (c:Int):Bool:=decide (c≥48)&&decide (c<=57)
theorem zaL (H:Pr P) (c:Int):z6 P 149 [.t (.int .u8 c)] ⟨[],0⟩ {v:= .t (.bool (zbV c))}:=by
 refine z6.run H.i149 H.mixed Z Z ?_;refine fR Z ?_;refine Run.fin Z (z3.go ?_);exact .t Z
theorem zcr (H:Pr P) (c:Int):z6 P 150 [.t (.int .u8 c)] ⟨[],0⟩ {v:= .t (.bool (zbC c))}:=by
 refine z6.run H.i150 H.mixed Z Z ?_;refine fR Z ?_;refine Run.fin Z (z3.go ?_);exact .t Z
def z9l (first:Bool):List UInt8->Bool
 |[]=>true
 |c::r=>(zbV c.toNat||(!first&&zbC c.toNat))&&z9l false r
def zp (s:Str):Bool:=decide (1<=s.length/\s.length<=64)&&z9l true s
theorem z09 (H:Pr P) (s:Str) (hs:s.length<=140737488355328):z6 P 106 [.t (.str s)] ⟨[],0⟩ {v:= .t (.bool (zp s))}:=by
 refine z6.run H.i106 H.mixed Z Z ?_;refine fR Z ?_;refine Run.cond Z Z (fun h=>?_) (fun h=>?_)
 ·have h':¬ (1<=s.length/\s.length<=64):=by simp at h;omega
  refine fR Z ?_;refine Run.fin Z (z3.go ?_);exact .t (by unfold zp;rw [show decide (1<=s.length/\s.length<=64)=false from by simpa using h'];rfl)
 ·have h':1<=s.length/\s.length<=64:=by simp at h;omega
  have e:zp s=z9l true s:=by unfold zp;rw [show decide (1<=s.length/\s.length<=64)=true from by simpa using h'];rfl
  refine fR Z ?_;refine zu s (fun i (_:Unit)=>{env:=[(0,.t (.str s)),(3,.t (.int .i64 i))],s:=⟨[],0⟩}) (fun r i _=>z9l true s=z9l (i==0) r) 0 () Z Z Z Z Z ?_ ?_
  ·intro _ hinv;refine fR Z ?_;refine Run.ze Z Z (by simp) ?_;refine fR Z ?_;refine Run.fin Z (z3.go ?_);exact .t (by rw [e,hinv];rfl)
  ·intro i c r _ h1 hi hd hinv ih;refine fR Z ?_;refine Run.zf Z Z (by simp;omega) ?_;refine fR Z ?_;refine Mid.byte Z Z h1 Z ?_;skip;refine Mid.call (zaL H c.toNat) Z Z Z Z ?_;refine fM Z ?_;refine byG Z Z Z h1 Z ?_;skip;refine caG Z Z (fun hg=>⟨_,rfl,zcr H c.toNat,rfl⟩) Z Z ?_;refine fM Z ?_
   have hb:((i:Int)==0)=(i==0):=by
    cases i with
    |zero=>rfl
    |succ i=>simp;omega
   have hb2:(i+1==0)=false:=by simp
   refine Run.cond Z Z (fun hc=>?_) (fun hc=>?_)
   ·have hc':(zbV c.toNat||(!(i==0)&&zbC c.toNat))=false:=by
     rw [hb] at hc
     revert hc;cases zbV c.toNat<;>cases (i==0)<;>cases zbC c.toNat<;>simp
    refine fR Z ?_;refine Run.fin Z (z3.go ?_);exact .t (by rw [e,hinv];simp only [z9l];rw [hc'];rfl)
   ·have hc':(zbV c.toNat||(!(i==0)&&zbC c.toNat))=true:=by
     rw [hb] at hc
     revert hc;cases zbV c.toNat<;>cases (i==0)<;>cases zbC c.toNat<;>simp
    refine fR Z ?_;refine aL Z Z Z Z Z ?_;refine fM Z ?_;exact zl 0 Z (ih () (by rw [hinv,hb2];simp only [z9l];rw [hc'];rfl)) Z Z Z
def rgW (first nn:Bool):List Int->Bool
 |[]=>true
 |w::r=>!(w !=1&&w !=2)&&!(!first&&w==1&&nn)&&rgW false (w==1) r
def W2 (t:Ref):Bool:=zp t.name&&decide (t.za.length<=24)&&rgW true false t.za
theorem z4e (H:Pr P) (t:Ref) (ht:t.Ok):z6 P 153 [t.v] ⟨[],0⟩ {v:= .t (.bool (W2 t))}:=by
 have hl:=ht.l;have hn:=ht.nm;refine z6.run H.i153 H.mixed Z Z ?_;refine fR Z ?_;refine Mid.call (z09 H t.name hn) Z Z Z Z ?_;refine fM Z ?_;refine lMG Z Z Z Z ?_;refine fM Z ?_;refine Run.cond Z Z (fun h=>?_) (fun h=>?_)
 ·refine fR Z ?_
  refine Run.fin Z (z3.go ?_);exact .t (by
   unfold W2
   have:(zp t.name&&decide (t.za.length<=24))=false:=by
    cases h1:zp t.name with
    |false=>rfl
    |true=>rw [h1] at h;simp at h;simp;omega
   rw [this];rfl)
 ·have h':(zp t.name&&decide (t.za.length<=24))=true:=by
   cases h1:zp t.name with
   |false=>rw [h1] at h;simp at h
   |true=>rw [h1] at h;simp at h;simp;omega
  have e:W2 t=rgW true false t.za:=by unfold W2;rw [h'];rfl
  refine fR Z ?_
  refine zu t.za (fun i (_:Unit)=>{env:=[(1,.ptr 0 0),(3,.t (.int .i64 i))],s:=⟨[(0,.cells [.t (.str t.name),.t (.lst (t.za.map nE))])],1⟩}) (fun r i _=>∃nn:Bool,(∀j:Nat,i=j+1->∃w,t.za[j]?=some w/\nn=(w==1))/\rgW true false t.za=rgW (i==0) nn r) 1 () Z ⟨false,fun j h=>by omega,rfl⟩ rfl rfl rfl ?_ ?_
  ·rintro _ ⟨nn,_,hinv⟩;refine fR Z ?_;refine lM Z Z Z ?_;refine fM Z ?_;refine Run.ze Z Z (by simp) ?_;refine fR Z ?_;refine Run.fin Z (z3.go ?_);exact .t (by rw [e,hinv];rfl)
  ·rintro i w r _ h1 hi hd ⟨nn,hnn,hinv⟩ ih;refine fR Z ?_;refine lM Z Z Z ?_;refine fM Z ?_;refine Run.zf Z Z (by simp;omega) ?_;refine fR Z ?_;refine Mid.zb Z Z Z h1 Z Z ?_;refine fM Z ?_;refine elG Z Z Z Z h1 Z Z ?_;refine fM Z ?_;refine Run.cond Z Z (fun hc=>?_) (fun hc=>?_)
   ·refine fR Z ?_;refine Run.fin Z (z3.go ?_);exact .t (by rw [e,hinv];simp only [rgW];rw [show (w !=1&&w !=2)=true from hc];rfl)
   ·have hc':(w !=1&&w !=2)=false:=hc
    have hlast:∀j:Nat,i+1=j+1->∃w',t.za[j]?=some w'/\(w==1)=(w'==1):=fun j hj=>by
     obtain rfl:j=i:=by omega
     exact ⟨w,h1,rfl⟩
    have hb2:(i+1==0)=false:=by simp
    cases i with
    |zero=>
     obtain ⟨nm,ws⟩:=t
     cases ws with
     |nil=>simp at hi
     |cons w0 r0=>
      simp at h1 hd;subst h1;subst hd;refine fR Z ?_;refine gr Z ?_;refine fM Z ?_;refine zgR Z Z Z Z ?_;refine gr Z ?_;refine fM Z ?_;refine Run.ze Z Z Z ?_;refine fR Z ?_;refine aL Z Z Z Z Z ?_;refine fM Z ?_;exact zl 1 Z (ih () ⟨w0==1,hlast,by rw [hinv,hb2];simp only [rgW];rw [hc'];rfl⟩) rfl rfl rfl
    |succ j=>
     obtain ⟨w',hw',rfl⟩:=hnn j rfl
     have ej:IntKind.i64.wrap (((j+1:Nat):Int) - 1)=(j:Int):=by rw [wrap64 (by omega) (by omega)];omega
     refine fR Z ?_;refine elG Z Z Z Z h1 Z Z ?_;refine fM Z ?_;refine zgR Z Z Z Z ?_
     rw [show ((j+1:Nat):Int) - 1=(j:Int) from by omega]
     refine elG Z Z Z Z hw' Z Z ?_;refine fM Z ?_;have hg:decide (((j+1:Nat):Int)>0)=true:=decide_eq_true (by omega)
     have hb1:(j+1==0)=false:=by simp
     refine Run.cond Z Z (fun hx=>?_) (fun hx=>?_)
     ·refine fR Z ?_
      refine Run.fin Z (z3.go ?_);exact .t (by
       rw [hg] at hx;have e3:(w==1&&w'==1)=true:=hx
       rw [e,hinv,hb1];simp only [rgW,hc',Bool.not_false,w1b,e3];rfl)
     ·rw [hg] at hx;refine fR Z ?_;refine aL Z Z Z Z Z ?_;refine fM Z ?_
      exact zl 1 Z (ih () ⟨w==1,hlast,by
       have e3:(w==1&&w'==1)=false:=hx
       rw [hinv,hb1,hb2];simp only [rgW,hc',Bool.not_false,w1b,e3]⟩) rfl rfl rfl
def loose:List Int->List Int
 |[]=>[]
 |w::r=>if (w !=1)=true then w::loose r else loose r
theorem z1H:∀l:List Int,(loose l).length<=l.length
 |[]=>by simp [loose]
 |w::r=>by have:=z1H r;simp only [loose];split<;>simp<;>omega
def Zz (a b:Ref):Bool:=a.name==b.name&&decide (loose a.za=loose b.za)
end Go.GB.C11
namespace Go.GB.C11
open Go.GB
variable {P:Program}
inductive RW:List Int->Prop
 |base:RW []
 |nn:RW [1]
 |lst {r:List Int} (h:RW r):RW (2::r)
 |nnl {r:List Int} (h:RW r):RW (1::2::r)
theorem zdy:∀{w:List Int},rgW false false w=true∨rgW true false w=true->RW w
 |[],_=> .base
 |[a],h=>by
  have:a=1∨a=2:=by rcases h with h|h<;>(simp [rgW] at h;omega)
  rcases this with rfl|rfl
  ·exact .nn
  ·exact .lst .base
 |a::b::r,h=>by
  have ha:a=1∨a=2:=by rcases h with h|h<;>(simp [rgW] at h;omega)
  rcases ha with rfl|rfl
  ·have hb:b=2:=by rcases h with h|h<;>(simp [rgW] at h;omega)
   subst hb
   exact .nnl (zdy (.inl (by rcases h with h|h<;>(simp [rgW] at h;exact h))))
  ·exact .lst (zdy (.inl (by rcases h with h|h<;>(simp [rgW] at h⊢;exact h))))
def sg:List Int->List Bool
 |[]=>[false]
 |[a]=>if a=1 then [true] else [false,false]
 |a::b::r=>if a=1 then true::sg r else false::sg (b::r)
theorem Ye (r:List Int):sg (2::r)=false::sg r:=by
 cases r with
 |nil=>rfl
 |cons a r=>simp [sg]
theorem w5 (r:List Int):sg (1::2::r)=true::sg r:=by simp [sg]
theorem za1 (r:List Int):sg r≠[]:=by
 cases r with
 |nil=>simp [sg]
 |cons a r=>cases r<;>(simp only [sg];split<;>simp)
end Go.GB.C11
namespace Go.GB.C11
open Go.GB
end Go.GB.C11
namespace Go.GB.C11
open Go.GB
variable {P:Program}
def Input.v (x:Input):V:= .agg [.t (.str x.name),.t (.str x.ty.name),.t (.lst (x.ty.za.map nE)),.t (.bool x.has),.t (.int .i64 x.YL.kind),.t (.int .i64 x.YL.int),.t (.str x.YL.text),.t (.lst (x.YL.items.map Val.enc)),.t (.lst (x.YL.keys.map sE)),.t (.lst (x.zg.map Dir.enc))]
def Input.zero:Input:=⟨[],⟨[],[]⟩,false,Val.zero,[]⟩
theorem Input.wI:Input.zero.Ok:=⟨⟨by decide,by decide⟩,Val.wI,by decide,by simp [Input.zero],by decide⟩
def zn (n:Str):List Input->Option Input
 |[]=>none
 |d::r=>if (d.name==n)=true then some d else zn n r
theorem Yr {n:Str}:∀{l:List Input} {d:Input},zn n l=some d->d∈l
 |[],d,h=>by simp [zn] at h
 |x::r,d,h=>by
  simp only [zn] at h;split at h
  ·cases h;exact w1x ..
  ·exact w0k _ (Yr h)
theorem qU (H:Pr P) (l:List Input) (hl:l.length<=140737488355328) (n:Str):z6 P 88 [.t (.lst (l.map Input.enc)),.t (.str n)] ⟨[],0⟩ {v:= .tup [Input.v ((zn n l).getD Input.zero),.t (.bool (zn n l).isSome)]}:=by
 refine z6.run H.i88 H.mixed Z Z ?_;refine fR Z ?_;refine lM Z Z Z ?_;refine fM Z ?_;refine zu l (fun i (_:Unit)=>{env:=[(1,.t (.str n)),(4,.ptr 0 0),(8,.t (.lst (l.map Input.enc))),(9,.t (.int .i64 l.length)),(10,.t (.int .i64 i))],s:=⟨[(0,.cells [.t (.str []),.t (.str []),.zC,.t (.bool false),.t (.int .i64 0),.t (.int .i64 0),.t (.str []),.zC,.zC,.zC])],1⟩}) (fun r i _=>zn n l=zn n r) 1 () Z Z Z Z Z ?_ ?_
 ·intro _ hinv;refine fR Z ?_;refine Run.ze Z Z (by simp) ?_;refine fR Z ?_
  have e:zn n l=none:=by rw [hinv];rfl
  rw [e];refine Run.fin Z (z3.go ?_);exact .Ys (.agg (.cons (.t Z) (.cons (.t Z) (.cons (.nil Z) (.cons (.t Z) (.cons (.t Z) (.cons (.t Z) (.cons (.t Z) (.cons (.nil Z) (.cons (.nil Z) (.cons (.nil Z) .nil))))))))))) (.t Z)
 ·intro i x r _ h1 hi hd hinv ih;refine fR Z ?_;refine Run.zf Z Z (by simp;omega) ?_;refine fR Z ?_;refine Mid.zb Z Z Z h1 Z Z ?_;refine fM Z ?_;refine Run.cond Z Z (fun h=>?_) (fun h=>?_)
  ·refine fR Z ?_
   have e:zn n l=some x:=by rw [hinv];simp only [zn];rw [w0e h]
   rw [e];refine Run.fin Z (z3.go ?_);exact .Ys (.le (.same Z)) (.t Z)
  ·refine fR Z ?_;refine aL Z Z Z Z Z ?_;refine fM Z ?_
   have h':¬ (x.name==n)=true:=by rw [h];simp
   exact zl 1 Z (ih () (by rw [hinv];simp only [zn];rw [w0g h'])) Z Z Z
def W8 (a b:Ref):Bool:=a.name==b.name&&decide (a.za=b.za)
theorem z0R (H:Pr P) (a b:Ref) (ha:a.Ok) (hb:b.Ok):z6 P 32 [a.v,b.v] ⟨[],0⟩ {v:= .t (.bool (W8 a b))}:=by
 have h1:=ha.l;have h2:=hb.l;refine z6.run H.i32 H.mixed Z Z ?_;refine fR Z ?_;refine caG Z Z (fun hg=>⟨_,rfl,z5C H a.za b.za (by omega) (by omega),rfl⟩) Z Z ?_;refine fM Z ?_;refine Run.fin Z (z3.go ?_);exact .t Z
def y4 (ds:List Def) (n:Str) (k:Int):Int:=
 if (!(z7 n ds).isSome&&!(Qz n))=true then 8
 else if (!(z7 n ds).isSome||((z7 n ds).getD Def.zero).kind !=k)=true then 9
 else 0
end Go.GB.C11
namespace Go.GB.C11
open Go.GB
variable {P:Program}
def za2 (ds:List Def) (a b:Ref):Bool:=z1q (z6g ds a.name b.name) (a.za.length+b.za.length+1) a.za b.za
theorem zbr (H:Pr P) (ds:List Def) (hD:zV ds) (a b:Ref) (ha:a.Ok) (hb:b.Ok):z6 P 159 [Y8 ds,a.v,b.v] ⟨[],0⟩ {v:= .t (.bool (za2 ds a b))}:=zaa H ds hD _ a b (Nat.lt_succ_self _) ha hb
def ze0 (y:Field) (a:Input):Bool:=!(zn a.name y.args).isSome||!(W8 a.ty ((zn a.name y.args).getD Input.zero).ty)
def QH (y:Field) (at_:Str):List Input->List z4
 |[]=>[]
 |a::r=>if ze0 y a=true then ⟨22,at_++[40]++a.name++[41]⟩::QH y at_ r else QH y at_ r
def zeH (x:Field) (b:Input):Bool:=!(zn b.name x.args).isSome&&nnF b.ty.za&&!b.has
def Qc (x:Field) (at_:Str):List Input->List z4
 |[]=>[]
 |b::r=>if zeH x b=true then ⟨22,at_++[40]++b.name++[41]⟩::Qc x at_ r else Qc x at_ r
def atF (t:Def) (x:Field):Str:=t.name++[46]++x.name
def z7t (ds:List Def) (t:Def) (x:Field):List z4:=
 match z5 x.name t.fields with
 |none=>[⟨20,atF t x⟩]
 |some y=>(if za2 ds y.ty x.ty=true then [] else [(⟨10,atF t x⟩:z4)])++(QH y (atF t x) x.args++Qc x (atF t x) y.args)
def Qf (ds:List Def) (t:Def):List Field->List z4
 |[]=>[]
 |x::r=>z7t ds t x++Qf ds t r
theorem zgw {l:List Input} (h:∀y,y∈l->y.Ok) (n:Str):((zn n l).getD Input.zero).Ok:=by
 cases e:zn n l with
 |none=>exact Input.wI
 |some x=>exact h x (Yr e)
end Go.GB.C11
namespace Go.GB.C11
open Go.GB
variable {P:Program}
def z2X (ds:List Def) (pre:List Str) (n:Str):Int:=if (y4 ds n 2==0&&decide (n∈pre))=true then 7 else y4 ds n 2
def z3v (ds:List Def) (t:Def):List Str->List Str->List z4
 |_,[]=>[]
 |pre,n::r=>(if z2X ds pre n=0 then Qf ds t ((z7 n ds).getD Def.zero).fields else [(⟨z2X ds pre n,t.name⟩:z4)])++z3v ds t (pre++[n]) r
def z9p (ds:List Def) (t:Def):List z4:=z3v ds t [] t.implements
end Go.GB.C11
namespace Go.GB.C11
open Go.GB
variable {P:Program}
def unE (ds:List Def) (pre:List zh) (m:zh):Int:=if (y4 ds m.name 1==0&&YE pre m.name)=true then 7 else y4 ds m.name 1
def unL (ds:List Def) (t:Def):List zh->List zh->List z4
 |_,[]=>[]
 |pre,m::r=>(if unE ds pre m=0 then [] else [(⟨unE ds pre m,t.name++[46]++m.name⟩:z4)])++unL ds t (pre++[m]) r
def W6 (ds:List Def):List Def->List z4
 |[]=>[]
 |t::r=>(if t.kind=1 then z9p ds t else if t.kind=3 then unL ds t [] t.members else [])++W6 ds r
def Zs (ds:List Def):List z4:=W6 ds ds
end Go.GB.C11
namespace Go.GB.C11
open Go.GB
variable {P:Program}
def zgF:Str->Bool
 |a::b::_=>(a.toNat:Int)==95&&(b.toNat:Int)==95
 |_=>false
theorem z7W (H:Pr P) (s:Str) (hs:s.length<=140737488355328):z6 P 174 [.t (.str s)] ⟨[],0⟩ {v:= .t (.bool (zgF s))}:=by
 match s,hs with
 |[],_=>
  refine z6.run H.i174 H.mixed Z Z ?_;refine fR Z ?_;refine Mid.W4 Z Z Z Z Z ?_;refine Mid.W4 Z Z Z Z Z ?_;refine fM Z ?_;refine Mid.W4 Z Z Z Z Z ?_;refine Mid.W4 Z Z Z Z Z ?_;refine fM Z ?_;refine Run.fin Z (z3.go ?_);exact .t Z
 |[a],_=>
  refine z6.run H.i174 H.mixed Z Z ?_;refine fR Z ?_;refine gr Z ?_;refine fM Z ?_;refine Mid.W4 Z Z Z Z Z ?_;refine Mid.W4 Z Z Z Z Z ?_;refine fM Z ?_;refine Run.fin Z (z3.go ?_);exact .t Z
 |a::b::r,hs=>
  refine z6.run H.i174 H.mixed Z Z ?_;refine fR Z ?_;refine gr Z ?_;refine fM Z ?_;refine gr Z ?_;refine fM Z ?_
  refine Run.fin Z (z3.go ?_);exact .t (by
   have:decide (((a::b::r).length:Int)≥2)=true:=by simp;omega
   rw [this];rfl)
def qk (n:Str):Bool:=zp n&&!zgF n
theorem z3S (H:Pr P) (n:Str) (hn:n.length<=140737488355328):z6 P 155 [.t (.str n)] ⟨[],0⟩ {v:= .t (.bool (qk n))}:=by
 refine z6.run H.i155 H.mixed Z Z ?_;refine fR Z ?_;refine Mid.call (z09 H n hn) Z Z Z Z ?_;refine fM Z ?_;refine caG Z Z (fun hg=>⟨_,rfl,z7W H n hn,rfl⟩) Z Z ?_;refine fM Z ?_;refine Run.fin Z (z3.go ?_);exact .t Z
def Zn (n:Str) (bad twice:Bool) (at_:Str):List z4:=
 (if (bad||!qk n)=true then [(⟨6,at_⟩:z4)] else [])++(if twice=true then [(⟨7,at_⟩:z4)] else [])
theorem z4f (H:Pr P) (n:Str) (hn:n.length<=140737488355328) (bad twice:Bool) (at_:Str):z6 P 112 [.t (.str n),.t (.bool bad),.t (.bool twice),.t (.str at_)] ⟨[],0⟩ {v:= .t (.lst ((Zn n bad twice at_).map z4.enc))}:=by
 refine z6.run H.i112 H.mixed Z Z ?_;refine fR Z ?_;refine caG Z Z (fun hg=>⟨_,rfl,z3S H n hn,rfl⟩) Z Z ?_;refine fM Z ?_;refine Run.cond Z Z (fun h=>?_) (fun h=>?_)
 ·refine fR Z ?_;refine apN z4.enc [(⟨6,at_⟩:z4)] Z Z Z ?_ (h1:=by first |omega|(simp;omega)|(simp;done)) (h2:=by first |omega|(simp;omega)|(simp;done));refine fM rfl ?_
  cases twice with
  |true=>
   refine Run.zf Z Z Z ?_;refine fR Z ?_;refine apM z4.enc [(⟨6,at_⟩:z4)] [(⟨7,at_⟩:z4)] Z Z Z Z Z ?_ (h1:=by first |omega|(simp;omega)|(simp;done)) (h2:=by first |omega|(simp;omega)|(simp;done));refine fM rfl ?_;refine Run.fin rfl (z3.go ?_);exact .own (by unfold Zn;rw [w0e h,w0e rfl])
  |false=>
   refine Run.ze Z Z Z ?_;refine fR Z ?_;refine Run.fin Z (z3.go ?_);exact .own (by unfold Zn;rw [w0e h,w0g (by simp)];rfl)
 ·refine fR Z ?_
  have h':¬ (bad||!qk n)=true:=by rw [h];simp
  cases twice with
  |true=>
   refine Run.zf Z Z Z ?_;refine fR Z ?_;refine apN z4.enc [(⟨7,at_⟩:z4)] Z Z Z ?_ (h1:=by first |omega|(simp;omega)|(simp;done)) (h2:=by first |omega|(simp;omega)|(simp;done));refine fM rfl ?_;refine Run.fin rfl (z3.go ?_);exact .own (by unfold Zn;rw [w0g h',w0e rfl];rfl)
  |false=>
   refine Run.ze Z Z Z ?_;refine fR Z ?_;refine Run.fin Z (z3.go ?_);exact .nil (by unfold Zn;rw [w0g h',w0g (by simp)];rfl)
def yX (d:Def):Bool:=if d.kind=1∨d.kind=2 then ((d.fields.length:Int)==0) else if d.kind=3∨d.kind=4 then ((d.members.length:Int)==0) else if d.kind=5 then ((d.zi.length:Int)==0) else false
def z0x (ds:List Def) (n:Str):Bool:=Qz n||(z7 n ds).isSome
theorem z8i (H:Pr P) (ds:List Def) (hD:zV ds) (n:Str):z6 P 115 [Y8 ds,.t (.str n)] ⟨[],0⟩ {v:= .t (.bool (z0x ds n))}:=by
 refine z6.run H.i115 H.mixed Z Z ?_;refine fR Z ?_;refine Mid.call (yl H ds hD.l n) Z Z Z Z ?_;refine fM Z ?_;refine Mid.call (Ww H n) Z Z Z Z ?_;refine fM Z ?_;refine Run.fin Z (z3.go ?_);exact .t Z
def zfc (ds:List Def) (n:Str):Bool:=Qz n||((z7 n ds).isSome&&((z7 n ds).getD Def.zero).kind==4)
theorem zf3 (H:Pr P) (ds:List Def) (hD:zV ds) (n:Str):z6 P 158 [Y8 ds,.t (.str n)] ⟨[],0⟩ {v:= .t (.bool (zfc ds n))}:=by
 refine z6.run H.i158 H.mixed Z Z ?_;refine fR Z ?_;refine Mid.call (yl H ds hD.l n) Z Z Z Z ?_;refine fM Z ?_;refine Mid.call (Ww H n) Z Z Z Z ?_;refine fM Z ?_;refine Run.fin Z (z3.go ?_);exact .t Z
def zaf (ds:List Def) (n:Str):Bool:=zfc ds n||((z7 n ds).isSome&&((z7 n ds).getD Def.zero).kind==5)
theorem z9e (H:Pr P) (ds:List Def) (hD:zV ds) (n:Str):z6 P 116 [Y8 ds,.t (.str n)] ⟨[],0⟩ {v:= .t (.bool (zaf ds n))}:=by
 refine z6.run H.i116 H.mixed Z Z ?_;refine fR Z ?_;refine Mid.call (yl H ds hD.l n) Z Z Z Z ?_;refine fM Z ?_;refine Mid.call (zf3 H ds hD n) Z Z Z Z ?_;refine fM Z ?_;refine Run.fin Z (z3.go ?_);exact .t Z
theorem q5 (H:Pr P) (l:List Input) (hl:l.length<=140737488355328) (n:Str):z6 P 60 [.t (.lst (l.map Input.enc)),.t (.str n)] ⟨[],0⟩ {v:= .tup [Input.v ((zn n l).getD Input.zero),.t (.bool (zn n l).isSome)]}:=by
 refine z6.run H.i60 H.mixed Z Z ?_;refine fR Z ?_;refine zu l (fun i (_:Unit)=>{env:=[(0,.t (.lst (l.map Input.enc))),(1,.t (.str n)),(4,.ptr 0 0),(6,.t (.int .i64 i))],s:=⟨[(0,.cells [.t (.str []),.t (.str []),.zC,.t (.bool false),.t (.int .i64 0),.t (.int .i64 0),.t (.str []),.zC,.zC,.zC])],1⟩}) (fun r i _=>zn n l=zn n r) 1 () Z Z Z Z Z ?_ ?_
 ·intro _ hinv;refine fR Z ?_;refine lM Z Z Z ?_;refine fM Z ?_;refine Run.ze Z Z (by simp) ?_;refine fR Z ?_
  have e:zn n l=none:=by rw [hinv];rfl
  rw [e];refine Run.fin Z (z3.go ?_);exact .Ys (.agg (.cons (.t Z) (.cons (.t Z) (.cons (.nil Z) (.cons (.t Z) (.cons (.t Z) (.cons (.t Z) (.cons (.t Z) (.cons (.nil Z) (.cons (.nil Z) (.cons (.nil Z) .nil))))))))))) (.t Z)
 ·intro i x r _ h1 hi hd hinv ih;refine fR Z ?_;refine lM Z Z Z ?_;refine fM Z ?_;refine Run.zf Z Z (by simp;omega) ?_;refine fR Z ?_;refine Mid.zb Z Z Z h1 Z Z ?_;refine fM Z ?_;refine Run.cond Z Z (fun h=>?_) (fun h=>?_)
  ·refine fR Z ?_;refine Mid.zb Z Z Z h1 Z Z ?_;refine fM Z ?_
   have e:zn n l=some x:=by rw [hinv];simp only [zn];rw [w0e h]
   rw [e];refine Run.fin Z (z3.go ?_);exact .Ys (.le (.same Z)) (.t Z)
  ·refine fR Z ?_;refine aL Z Z Z Z Z ?_;refine fM Z ?_
   have h':¬ (x.name==n)=true:=by rw [h];simp
   exact zl 1 Z (ih () (by rw [hinv];simp only [zn];rw [w0g h'])) Z Z Z
theorem zcg (H:Pr P) (d:Def):z6 P 113 [d.v] ⟨[],0⟩ {v:= .t (.bool (yX d))}:=by
 refine z6.run H.i113 H.mixed Z Z ?_;refine fR Z ?_;refine Run.cond Z Z (fun h1=>?_) (fun h1=>?_)
 ·have e:yX d=((d.fields.length:Int)==0):=by unfold yX;rw [w0e (.inl (by simpa using h1))]
  skip;refine Run.zf Z Z h1 ?_;refine fR Z ?_;refine lM Z Z Z ?_;refine fM Z ?_;refine Run.fin Z (z3.go ?_);exact .t (by rw [e])
 ·have n1:¬ d.kind=1:=by simpa using h1
  refine fR Z ?_;refine Run.cond Z Z (fun h2=>?_) (fun h2=>?_)
  ·have e:yX d=((d.fields.length:Int)==0):=by unfold yX;rw [w0e (.inr (by simpa using h2))]
   refine fR Z ?_;refine lM Z Z Z ?_;refine fM Z ?_;refine Run.fin Z (z3.go ?_);exact .t (by rw [e])
  ·have n2:¬ d.kind=2:=by simpa using h2
   refine fR Z ?_;refine Run.cond Z Z (fun h3=>?_) (fun h3=>?_)
   ·have e:yX d=((d.members.length:Int)==0):=by unfold yX;rw [w0g (by omega),w0e (.inl (by simpa using h3))]
    skip;refine Run.zf Z Z h3 ?_;refine fR Z ?_;refine lM Z Z Z ?_;refine fM Z ?_;refine Run.fin Z (z3.go ?_);exact .t (by rw [e])
   ·have n3:¬ d.kind=3:=by simpa using h3
    refine fR Z ?_;refine Run.cond Z Z (fun h4=>?_) (fun h4=>?_)
    ·have e:yX d=((d.members.length:Int)==0):=by unfold yX;rw [w0g (by omega),w0e (.inr (by simpa using h4))]
     refine fR Z ?_;refine lM Z Z Z ?_;refine fM Z ?_;refine Run.fin Z (z3.go ?_);exact .t (by rw [e])
    ·have n4:¬ d.kind=4:=by simpa using h4
     refine fR Z ?_;refine Run.cond Z Z (fun h5=>?_) (fun h5=>?_)
     ·have e:yX d=((d.zi.length:Int)==0):=by unfold yX;rw [w0g (by omega),w0g (by omega),w0e (by simpa using h5)]
      refine fR Z ?_;refine lM Z Z Z ?_;refine fM Z ?_;refine Run.fin Z (z3.go ?_);exact .t (by rw [e])
     ·have n5:¬ d.kind=5:=by simpa using h5
      refine fR Z ?_;refine Run.fin Z (z3.go ?_);exact .t (by unfold yX;rw [w0g (by omega),w0g (by omega),w0g n5])
end Go.GB.C11
namespace Go.GB.C11
open Go.GB
variable {P:Program}
theorem z1z {n:Str}:∀{l:List Def} {d:Def},z7 n l=some d->d.name=n
 |[],d,h=>by simp [z7] at h
 |x::r,d,h=>by
  simp only [z7] at h;split at h
  ·rename_i hx;cases h;simpa using hx
  ·exact z1z h
theorem z99 (H:Pr P) (l:List Str) (hl:l.length<=140737488355328) (s:Str):z6 P 157 [.t (.lst (l.map sE)),.t (.str s)] ⟨[],0⟩ {v:= .t (.bool (decide (s∈l)))}:=by
 refine z6.run H.i157 H.mixed Z Z ?_;refine fR Z ?_;refine zu l (fun i (_:Unit)=>{env:=[(0,.t (.lst (l.map sE))),(1,.t (.str s)),(5,.t (.int .i64 i))],s:=⟨[],0⟩}) (fun r i _=>decide (s∈l)=decide (s∈r)) 0 () Z Z Z Z Z ?_ ?_
 ·intro _ hinv;refine fR Z ?_;refine lM Z Z Z ?_;refine fM Z ?_;refine Run.ze Z Z (by simp) ?_;refine fR Z ?_;refine Run.fin Z (z3.go ?_);exact .t (by rw [hinv];simp)
 ·intro i x r _ h1 hi hd hinv ih;refine fR Z ?_;refine lM Z Z Z ?_;refine fM Z ?_;refine Run.zf Z Z (by simp;omega) ?_;refine fR Z ?_;refine Mid.zb Z Z Z h1 Z Z ?_;refine fM Z ?_;refine Run.cond Z Z (fun h=>?_) (fun h=>?_)
  ·have h':x=s:=by simpa using h
   refine fR Z ?_;refine Run.fin Z (z3.go ?_);exact .t (by rw [hinv];simp [h'])
  ·have h':¬ x=s:=by simpa using h
   have h2:¬ s=x:=fun e=>h' e.symm;refine fR Z ?_;refine aL Z Z Z Z Z ?_;refine fM Z ?_;exact zl 0 Z (ih () (by rw [hinv];simp [h2])) Z Z Z
def zha:List Int->Bool
 |[]=>false
 |w::r=>((w::r).length:Int)==1&&w==1
theorem z5t (H:Pr P) (t:Ref):z6 P 175 [t.v] ⟨[],0⟩ {v:= .t (.bool (zha t.za))}:=by
 obtain ⟨n,ws⟩:=t
 match ws with
 |[]=>
  refine z6.run H.i175 H.mixed Z Z ?_;refine fR Z ?_;refine lM Z Z Z ?_;refine fM Z ?_;refine Mid.W4 Z Z Z Z Z ?_;refine Mid.W4 Z Z Z Z Z ?_;refine Mid.W4 Z Z Z Z Z ?_;refine fM Z ?_;refine Run.fin Z (z3.go ?_);exact .t Z
 |w::r=>
  have h1:(w::r)[0]?=some w:=rfl;refine z6.run H.i175 H.mixed Z Z ?_;refine fR Z ?_;refine lM Z Z Z ?_;refine fM Z ?_;refine gr Z ?_;refine fM Z ?_;refine Run.fin Z (z3.go ?_);exact .t Z
def z1m (ds:List Def) (nm:Str) (x:Input) (l:List Str):Bool:=
 zha x.ty.za&&(x.ty.name==nm||((z7 x.ty.name ds).isSome&&((z7 x.ty.name ds).getD Def.zero).kind==5))&&!decide (x.ty.name∈l)
def y6 (ds:List Def) (nm:Str):List Input->List Str->List Str
 |[],l=>l
 |x::r,l=>y6 ds nm r (if z1m ds nm x l=true then l++[x.ty.name] else l)
theorem zd9 (H:Pr P) (ds:List Def) (hD:zV ds) (d:Def) (hd:d.Ok) (nm:Str) (hl:d.zi.length<=4398046511104):
  z6 P 156 [Y8 ds,d.v,.t (.str nm),.zC] ⟨[],0⟩ {v:= .own 2 1 ((y6 ds nm d.zi []).map sE),ob:=[(2,.arr (y6 ds nm d.zi []).length)],n:=3}:=by
 refine z6.run H.i156 H.mixed Z Z ?_;refine fR Z ?_
 refine zu d.zi (fun i (B:List Str)=>{env:=[(2,.t (.str nm)),(3,.own 2 1 (B.map sE)),(4,.ptr 0 0),(5,.ptr 1 0),(9,.t (.int .i64 i))],s:=⟨[(0,.cells [.t (.lst (ds.map Def.enc))]),(1,(TCo d)),(2,.arr B.length)],3⟩}) (fun r i B=>B.length+r.length<=4398046511104/\y6 ds nm d.zi []=y6 ds nm r B) 2 [] Z ⟨by simpa using hl,rfl⟩ rfl rfl rfl ?_ ?_
 ·rintro B ⟨_,hB⟩;have hB':y6 ds nm d.zi []=B:=hB;rw [hB'];refine fR Z ?_;refine lM Z Z Z ?_;refine fM Z ?_;refine Run.ze Z Z (by simp) ?_;refine fR Z ?_;refine Run.fin Z (z3.chg Z Z ?_ ?_)
  ·exact .le (.same Z)
  ·exact leSA
 ·rintro i x r B h1 hi hdr ⟨hlB,hB⟩ ih;simp only [w0d] at hlB;have hx:=hd.n x (zMG h1);refine fR Z ?_;refine lM Z Z Z ?_;refine fM Z ?_;refine Run.zf Z Z (by simp;omega) ?_;refine fR Z ?_;refine Mid.zb Z Z Z h1 Z Z ?_;refine fM Z ?_;refine Mid.call (yl H ds hD.l x.ty.name) Z Z Z Z ?_;refine fM Z ?_;refine Mid.call (z5t H x.ty) Z Z Z Z ?_;refine fM Z ?_;refine caG Z Z (fun hg=>⟨_,rfl,z99 H B (by omega) x.ty.name,rfl⟩) Z Z ?_;refine fM Z ?_;refine Run.cond Z Z (fun hc=>?_) (fun hc=>?_)
  ·have e:z1m ds nm x B=true:=hc;refine fR Z ?_;refine apM sE B [x.ty.name] Z Z Z Z Z ?_ (h1:=by first |omega|(simp;omega)|(simp;done)) (h2:=by first |omega|(simp;omega)|(simp;done));refine fM rfl ?_;refine aL rfl rfl rfl rfl rfl ?_;refine fM rfl ?_;exact zl 3 rfl (ih (B++[x.ty.name]) ⟨by simp;omega,by rw [hB];simp only [y6];rw [w0e e]⟩) rfl rfl rfl
  ·have e:¬ z1m ds nm x B=true:=by rw [show z1m ds nm x B=false from hc];simp
   refine fR Z ?_;refine aL Z Z Z Z Z ?_;refine fM Z ?_;exact zl 3 Z (ih B ⟨by omega,by rw [hB];simp only [y6];rw [w0g e]⟩) rfl rfl rfl
theorem ze2 (H:Pr P) (ds:List Def) (hD:zV ds) (d:Def) (hd:d.Ok) (nm:Str) (l:List Str) (hl:l.length+d.zi.length<=4398046511104):
  z6 P 156 [Y8 ds,d.v,.t (.str nm),.own 0 1 (l.map sE)] ⟨[(0,.arr l.length)],1⟩ {v:= .own 0 1 ((y6 ds nm d.zi l).map sE),ob:=[(0,.arr (y6 ds nm d.zi l).length)],rd:=true}:=by
 refine z6.run H.i156 H.mixed Z Z ?_;refine fR Z ?_
 refine zu d.zi (fun i (B:List Str)=>{env:=[(2,.t (.str nm)),(3,.own 0 1 (B.map sE)),(4,.ptr 1 0),(5,.ptr 2 0),(9,.t (.int .i64 i))],s:=⟨[(0,.arr B.length),(1,.cells [.t (.lst (ds.map Def.enc))]),(2,(TCo d))],3⟩}) (fun r i B=>B.length+r.length<=4398046511104/\y6 ds nm d.zi l=y6 ds nm r B) 3 l Z ⟨by exact hl,rfl⟩ rfl rfl rfl ?_ ?_
 ·rintro B ⟨_,hB⟩;have hB':y6 ds nm d.zi l=B:=hB;rw [hB'];refine fR Z ?_;refine lM Z Z Z ?_;refine fM Z ?_;refine Run.ze Z Z (by simp) ?_;refine fR Z ?_;refine Run.fin Z (z3.chg Z Z ?_ ?_)
  ·exact .le (.same Z)
  ·exact leSA
 ·rintro i x r B h1 hi hdr ⟨hlB,hB⟩ ih;simp only [w0d] at hlB;have hx:=hd.n x (zMG h1);refine fR Z ?_;refine lM Z Z Z ?_;refine fM Z ?_;refine Run.zf Z Z (by simp;omega) ?_;refine fR Z ?_;refine Mid.zb Z Z Z h1 Z Z ?_;refine fM Z ?_;refine Mid.call (yl H ds hD.l x.ty.name) Z Z Z Z ?_;refine fM Z ?_;refine Mid.call (z5t H x.ty) Z Z Z Z ?_;refine fM Z ?_;refine caG Z Z (fun hg=>⟨_,rfl,z99 H B (by omega) x.ty.name,rfl⟩) Z Z ?_;refine fM Z ?_;refine Run.cond Z Z (fun hc=>?_) (fun hc=>?_)
  ·have e:z1m ds nm x B=true:=hc;refine fR Z ?_;refine apM sE B [x.ty.name] Z Z Z Z Z ?_ (h1:=by first |omega|(simp;omega)|(simp;done)) (h2:=by first |omega|(simp;omega)|(simp;done));refine fM rfl ?_;refine aL rfl rfl rfl rfl rfl ?_;refine fM rfl ?_;exact zl 3 rfl (ih (B++[x.ty.name]) ⟨by simp;omega,by rw [hB];simp only [y6];rw [w0e e]⟩) rfl rfl rfl
  ·have e:¬ z1m ds nm x B=true:=by rw [show z1m ds nm x B=false from hc];simp
   refine fR Z ?_;refine aL Z Z Z Z Z ?_;refine fM Z ?_;exact zl 3 Z (ih B ⟨by omega,by rw [hB];simp only [y6];rw [w0g e]⟩) rfl rfl rfl
theorem z7J (ds:List Def) (nm:Str):∀(ins:List Input) (l:List Str),l.length<=(y6 ds nm ins l).length
 |[],l=>w09 _
 |x::r,l=>by
  simp only [y6];refine w0o ?_ (z7J ds nm r _)
  split<;>simp
def z40 (ds:List Def) (nm:Str):Nat->Nat->List Str->List Str
 |0,_,l=>l
 |k+1,i,l=>match l[i]? with
  |none=>l
  |some n=>z40 ds nm k (i+1) (y6 ds nm ((z7 n ds).getD Def.zero).zi l)
def Qe (ds:List Def) (d:Def):Bool:=d.kind==5&&decide (d.name∈z40 ds d.name (ds.length+2) 0 (y6 ds d.name d.zi []))
structure LOk (ds:List Def) (nm:Str) (l:List Str):Prop where
 nd:l.Nodup
 mem:∀x,x∈l->x∈nm::ds.map (fun o=>o.name)
theorem z5Y {α:Type} [BEq α] [LawfulBEq α]:∀{l m:List α},l.Nodup->(∀x,x∈l->x∈m)->l.length<=m.length
 |[],_,_,_=>by simp
 |a::r,m,hn,hs=>by
  have ha:a∈m:=hs a (by simp);obtain ⟨hn1,hn2⟩:=w15.1 hn
  have h1:=z5Y (l:=r) (m:=m.erase a) hn2 (fun x hx=>by
   have hne:x≠a:=by rintro rfl;exact hn1 hx
   exact (List.mem_erase_of_ne hne).2 (hs x (w0k _ hx)))
  have h2:=List.length_erase_of_mem ha;have h3:0<m.length:=List.length_pos_of_mem ha;simp only [w0d];omega
theorem LOk.len {ds:List Def} {nm:Str} {l:List Str} (h:LOk ds nm l):l.length<=ds.length+1:=by
 have:=z5Y h.nd h.mem;simpa using this
theorem z17 {ds:List Def} {nm:Str}:∀{ins:List Input} {l:List Str},LOk ds nm l->LOk ds nm (y6 ds nm ins l)
 |[],l,h=>h
 |x::r,l,h=>by
  simp only [y6];split
  ·rename_i hc;refine z17 ⟨?_,?_⟩
   ·unfold z1m at hc;simp only [w07] at hc
    have hn:¬ x.ty.name∈l:=by simpa using hc.2
    rw [List.nodup_append]
    exact ⟨h.nd,by simp,fun a ha b hb e=>by simp at hb;subst hb;subst e;exact hn ha⟩
   ·intro y hy
    rcases w14.1 hy with hy|hy
    ·exact h.mem y hy
    ·simp at hy;subst hy;unfold z1m at hc;simp only [w07,Bool.or_eq_true,beq_iff_eq] at hc
     rcases hc.1.2 with e|e
     ·rw [e];simp
     ·cases hf:z7 x.ty.name ds with
      |none=>rw [hf] at e;simp at e
      |some o=>
       have h1:=wO hf;have h2:=z1z hf;rw [←h2];exact w0k _ (w0m.2 ⟨o,h1,rfl⟩)
  ·exact z17 h
theorem z77 (H:Pr P) (ds:List Def) (hD:zV ds) (d:Def) (hd:d.Ok) (hil:∀o,o∈d::ds->o.zi.length<=2199023255552):z6 P 114 [Y8 ds,d.v] ⟨[],0⟩ {v:= .t (.bool (Qe ds d))}:=by
 have hlb:=hD.lb
 have hz:∀n,((z7 n ds).getD Def.zero).zi.length<=2199023255552:=by
  intro n
  cases hf:z7 n ds with
  |none=>simp [Def.zero]
  |some o=>exact hil o (w0k _ (wO hf))
 refine z6.run H.i114 H.mixed Z Z ?_;refine fR Z ?_;refine Run.cond Z Z (fun hk=>?_) (fun hk=>?_)
 ·have e:Qe ds d=false:=by unfold Qe;rw [show (d.kind==5)=false from by simpa using hk];rfl
  refine fR Z ?_;refine Run.fin Z (z3.go ?_);exact .t (by rw [e])
 ·have hk':(d.kind==5)=true:=by simpa using hk
  refine fR Z ?_
  have h0:LOk ds d.name (y6 ds d.name d.zi []):=z17 ⟨List.nodup_nil,by simp⟩
  refine Mid.zdS [] (zd9 H ds hD d hd d.name (by have:=hil d (by simp);omega)) Z Z Z Z (by simp [Z1]) (by repeat' (first |exact trivial|exact rfl|refine And.intro ?_ ?_|exact (congrArg some (zd.ren_mE _ _ _ _ _ _)).symm|exact (congrArg some (zd.ren_cE _ _ _)).symm)) Z Z (ob':=[(4,.arr (y6 ds d.name d.zi []).length)]) (rfl) Z Z ?_
  refine fM Z ?_
  have eB:Qe ds d=decide (d.name∈z40 ds d.name (ds.length+2) 0 (y6 ds d.name d.zi [])):=by unfold Qe;rw [hk'];rfl
  generalize hC:z40 ds d.name (ds.length+2) 0 (y6 ds d.name d.zi [])=C at eB
  have hN:∀(i:Nat) (l:List Str),LOk ds d.name l->i<=l.length->ds.length+2 - i=(ds.length+1 - i)+1:=by
   intro i l hl hi;have:=hl.len;omega
  refine z9k (β:=Nat×List Str) (fun b=>{env:=[(2,.ptr 0 0),(3,.ptr 1 0),(5,.own 4 1 (b.2.map sE)),(6,.t (.int .i64 b.1))],s:=⟨[(0,.cells [.t (.lst (ds.map Def.enc))]),(1,(TCo d)),(4,.arr b.2.length)],5⟩})
   (fun b=>LOk ds d.name b.2/\b.1<=b.2.length/\C=z40 ds d.name (ds.length+2 - b.1) b.1 b.2) (fun b=>ds.length+2 - b.1) 5 (0,y6 ds d.name d.zi []) rfl ⟨h0,by simp,hC.symm⟩ rfl rfl rfl ?_
  rintro ⟨i,l⟩ ⟨hl,hi,hinv⟩ ih;dsimp only at hl hi hinv ih⊢;have hlen:=hl.len;have hN':=hN i l hl hi;rw [hN'] at hinv;refine fR Z ?_;refine lM Z Z Z ?_;refine fM Z ?_;by_cases hlt:i<l.length
  ·refine Run.zf Z Z (by simp;omega) ?_;have hg:l[i]?=some l[i]:=w0f hlt;generalize l[i]=n at hg;have hF:=z16 hD n;have hnx:LOk ds d.name (y6 ds d.name ((z7 n ds).getD Def.zero).zi l):=z17 hl;simp only [z40,hg] at hinv;have hzn:=hz n;refine fR Z ?_;refine Mid.zb Z Z Z hg Z Z ?_;refine fM Z ?_;refine Mid.call (yl H ds hD.l n) Z Z Z Z ?_;refine fM Z ?_
   refine Mid.zdS [4] (ze2 H ds hD ((z7 n ds).getD Def.zero) hF d.name l (by omega)) Z Z Z Z (by simp [Z1];simp [zd.bd]) (by repeat' (first |exact trivial|exact rfl|refine And.intro ?_ ?_|exact (congrArg some (zd.ren_mE _ _ _ _ _ _)).symm|exact (congrArg some (zd.ren_cE _ _ _)).symm)) Z Z (ob':=[(4,.arr (y6 ds d.name ((z7 n ds).getD Def.zero).zi l).length)]) (rfl) Z Z ?_
   refine fM Z ?_;refine aL Z Z Z Z Z ?_;refine fM Z ?_
   exact zl 5 Z (ih (i+1,y6 ds d.name ((z7 n ds).getD Def.zero).zi l) (by simp only;omega) ⟨hnx,by simp only;have:=z7J ds d.name ((z7 n ds).getD Def.zero).zi l;omega,by rw [hinv];simp only;congr 1;omega⟩) rfl rfl rfl
  ·refine Run.ze Z Z (by simp;omega) ?_;have hg:l[i]?=none:=w19 (by omega);simp only [z40,hg] at hinv;refine fR Z ?_;refine Mid.call (z99 H l (by omega) d.name) Z Z Z Z ?_;refine fM Z ?_;refine Run.fin Z (z3.go ?_);exact .t (by rw [eB,hinv])
end Go.GB.C11
namespace Go.GB.C11
open Go.GB
variable {P:Program}
theorem zaR (H:Pr P) (n:Str) (hn:n.length<=140737488355328) (bad twice:Bool) (at_:Str):z6 P 112 [.t (.str n),.t (.bool bad),.t (.bool twice),.t (.str at_)] ⟨[],0⟩ {v:= .own 0 2 ((Zn n bad twice at_).map z4.enc),ob:=[(0,.arr (Zn n bad twice at_).length)],n:=1}:=by
 refine z6.run H.i112 H.mixed Z Z ?_;refine fR Z ?_;refine caG Z Z (fun hg=>⟨_,rfl,z3S H n hn,rfl⟩) Z Z ?_;refine fM Z ?_;refine Run.cond Z Z (fun h=>?_) (fun h=>?_)
 ·refine fR Z ?_;refine apN z4.enc [(⟨6,at_⟩:z4)] Z Z Z ?_ (h1:=by first |omega|(simp;omega)|(simp;done)) (h2:=by first |omega|(simp;omega)|(simp;done));refine fM rfl ?_
  cases twice with
  |true=>
   refine Run.zf Z Z Z ?_;refine fR Z ?_;refine apM z4.enc [(⟨6,at_⟩:z4)] [(⟨7,at_⟩:z4)] Z Z Z Z Z ?_ (h1:=by first |omega|(simp;omega)|(simp;done)) (h2:=by first |omega|(simp;omega)|(simp;done));refine fM rfl ?_
   have e:Zn n bad true at_=[⟨6,at_⟩]++[⟨7,at_⟩]:=by unfold Zn;rw [w0e h,w0e rfl]
   rw [e];refine Run.fin Z (z3.chg Z Z ?_ ?_)
   ·exact .le (.same Z)
   ·exact leSA
  |false=>
   refine Run.ze Z Z Z ?_;refine fR Z ?_
   have e:Zn n bad false at_=[⟨6,at_⟩]:=by unfold Zn;rw [w0e h,w0g (by simp)];rfl
   rw [e];refine Run.fin Z (z3.chg Z Z ?_ ?_)
   ·exact .le (.same Z)
   ·exact leSA
 ·refine fR Z ?_
  have h':¬ (bad||!qk n)=true:=by rw [h];simp
  refine yM 0 Z (st':={env:=[(3,.t (.str at_)),(9,.own 0 2 ([].map z4.enc)),(21,.t (.bool twice))],s:=⟨[(0,.arr 0)],1⟩}) ?_ Z Z Z
  cases twice with
  |true=>
   refine Run.zf Z Z Z ?_;refine fR Z ?_;refine apM z4.enc [] [(⟨7,at_⟩:z4)] Z Z Z Z Z ?_ (h1:=by first |omega|(simp;omega)|(simp;done)) (h2:=by first |omega|(simp;omega)|(simp;done));refine fM rfl ?_
   have e:Zn n bad true at_=[⟨7,at_⟩]:=by unfold Zn;rw [w0g h',w0e rfl];rfl
   rw [e];refine Run.fin Z (z3.chg Z Z ?_ ?_)
   ·exact .le (.same Z)
   ·exact leSA
  |false=>
   refine Run.ze Z Z Z ?_;refine fR Z ?_
   have e:Zn n bad false at_=[]:=by unfold Zn;rw [w0g h',w0g (by simp)];rfl
   rw [e];refine Run.fin Z (z3.chg Z Z ?_ ?_)
   ·exact .le (.same Z)
   ·exact leSA
def zhe (n:Str):Bool:=n==[81,117,101,114,121]||n==[77,117,116,97,116,105,111,110]||n==[83,117,98,115,99,114,105,112,116,105,111,110]
def z07 (d:Def):Bool:=(zhe d.name&&d.kind !=1)||decide (d.kind<1)||decide (d.kind>5)
def Q5 (ds:List Def) (i:Nat) (n:Str):Bool:=Qz n||(ds.take i).any fun o=>o.name==n
def Yf (ds:List Def) (i:Nat) (d:Def):List z4:=
 Zn d.name false (Q5 ds i d.name) d.name++(if yX d=true then [⟨8,d.name⟩] else [])++(if z07 d=true then [⟨9,d.name⟩] else [])++(if Qe ds d=true then [⟨5,d.name⟩] else [])
theorem WM (n:Str) (a b:Bool) (s:Str):(Zn n a b s).length<=2:=by
 unfold Zn;split<;>split<;>simp
theorem zdw (H:Pr P) (ds:List Def) (hD:zV ds) (hil:∀o,o∈ds->o.zi.length<=2199023255552) (i:Nat) (d:Def) (h:ds[i]?=some d):z6 P 62 [Y8 ds,.t (.int .i64 i)] ⟨[],0⟩ {v:= .t (.lst ((Yf ds i d).map z4.enc))}:=by
 have hdm:=zMG h;have hd:=hD.d d hdm;have hnm:=hd.nm;have hdl:=hD.l;have hi:i<ds.length:=(w02.1 h).1;have hnl:=WM d.name false (Q5 ds i d.name) d.name;have e0:Q5 ds i d.name=(Qz d.name||(ds.take i).any fun o=>o.name==d.name):=rfl;refine z6.run H.i62 H.mixed Z Z ?_;refine fR Z ?_;refine Mid.zb Z Z Z h Z Z ?_;refine fM Z ?_;refine Mid.call (Ww H d.name) Z Z Z Z ?_;refine fM Z ?_;refine zu (ds.take i) (fun j (B:Bool)=>{env:=[(1,.t (.int .i64 i)),(2,.ptr 0 0),(5,.ptr 1 0),(6,.t (.bool B)),(7,.t (.int .i64 j))],s:=⟨[(0,.cells [.t (.lst (ds.map Def.enc))]),(1,(TCo d))],2⟩}) (fun r j B=>Q5 ds i d.name=(B||r.any fun o=>o.name==d.name)) 2 (Qz d.name) Z e0 Z Z Z ?_ ?_
 ·intro B hB
  have hl:(ds.take i).length=i:=by simp;omega
  have hB':Q5 ds i d.name=B:=by rw [hB];simp
  rw [hl]
  have t0:∀L:List z4,L.length<=5->L=Yf ds i d->Run P n62 0 (z3 ⟨[],0⟩ {v:= .t (.lst ((Yf ds i d).map z4.enc))} r62 .ret) (ZW 200 [It.c c62_0]) {env:=[(8,.own 2 2 (L.map z4.enc))],s:=⟨[(2,.arr L.length)],3⟩}:=by
   rintro L hLl rfl;refine fR Z ?_;refine Run.fin Z (z3.go ?_);exact .own Z
  have t3:∀L:List z4,L.length<=4->L++(if Qe ds d=true then [⟨5,d.name⟩] else [])=Yf ds i d->Run P n62 0 (z3 ⟨[],0⟩ {v:= .t (.lst ((Yf ds i d).map z4.enc))} r62 .ret) (ZW 200 [It.c c62_3]) {env:=[(2,.ptr 0 0),(5,.ptr 1 0),(8,.own 2 2 (L.map z4.enc))],s:=⟨[(0,.cells [.t (.lst (ds.map Def.enc))]),(1,(TCo d)),(2,.arr L.length)],3⟩}:=by
   rintro L hLl hL;refine fR Z ?_
   refine Mid.call (z77 H ds hD d hd (by intro o ho;rcases w0t.1 ho with rfl|ho;exact hil _ hdm;exact hil _ ho)) Z Z Z Z ?_
   refine fM Z ?_;refine Run.cond Z Z (fun hc=>?_) (fun hc=>?_)
   ·refine fR Z ?_;refine apM z4.enc L [(⟨5,d.name⟩:z4)] Z Z Z Z Z ?_ (h1:=by simp;omega) (h2:=by simp;omega);refine Mid.Q8 (f:=1) rfl trivial ?_;refine Mid.z0m rfl ?_
    exact yM 3 Z (t0 (L++[⟨5,d.name⟩]) (by simp;omega) (by rw [←hL,w0e (show Qe ds d=true from hc)]<;>simp)) Z Z Z
   ·exact yM 3 Z (t0 L (by omega) (by rw [←hL,w0g (show ¬ Qe ds d=true by rw [show Qe ds d=false from hc];simp)]<;>simp)) Z Z Z
  have t7:∀L:List z4,L.length<=3->L++(if z07 d=true then [⟨9,d.name⟩] else [])++(if Qe ds d=true then [⟨5,d.name⟩] else [])=Yf ds i d->Run P n62 0 (z3 ⟨[],0⟩ {v:= .t (.lst ((Yf ds i d).map z4.enc))} r62 .ret) (ZW 200 [It.c c62_7]) {env:=[(2,.ptr 0 0),(5,.ptr 1 0),(8,.own 2 2 (L.map z4.enc))],s:=⟨[(0,.cells [.t (.lst (ds.map Def.enc))]),(1,(TCo d)),(2,.arr L.length)],3⟩}:=by
   rintro L hLl hL;refine fR Z ?_;refine Run.cond Z Z (fun hb=>?_) (fun hb=>?_)
   ·refine fR Z ?_;refine apM z4.enc L [(⟨9,d.name⟩:z4)] Z Z Z Z Z ?_ (h1:=by simp;omega) (h2:=by simp;omega);refine Mid.Q8 (f:=1) rfl trivial ?_;refine Mid.z0m rfl ?_
    exact yM 3 Z (t3 (L++[⟨9,d.name⟩]) (by simp;omega) (by rw [←hL,w0e (show z07 d=true from hb)]<;>simp)) Z Z Z
   ·exact yM 3 Z (t3 L (by omega) (by rw [←hL,w0g (show ¬ z07 d=true by rw [show z07 d=false from hb];simp)]<;>simp)) Z Z Z
  refine fR Z ?_;refine Run.ze Z Z (by simp) ?_;refine fR Z ?_;rw [hB'] at hnl
  refine Mid.zdS [] (zaR H d.name hnm false B d.name) Z Z Z Z (by simp [Z1]) (by repeat' (first |exact trivial|exact rfl|refine And.intro ?_ ?_|exact (congrArg some (zd.ren_mE _ _ _ _ _ _)).symm|exact (congrArg some (zd.ren_cE _ _ _)).symm)) Z Z (ob':=[(2,.arr (Zn d.name false B d.name).length)]) (rfl) Z Z ?_
  refine fM Z ?_;refine Mid.call (zcg H d) Z Z Z Z ?_;refine fM Z ?_
  have hL:Zn d.name false B d.name++(if yX d=true then [⟨8,d.name⟩] else [])++(if z07 d=true then [⟨9,d.name⟩] else [])++(if Qe ds d=true then [⟨5,d.name⟩] else [])=Yf ds i d:=by unfold Yf;rw [hB']
  generalize Zn d.name false B d.name=L at hL hnl;refine Run.cond Z Z (fun he=>?_) (fun he=>?_)
  ·refine fR Z ?_;refine apM z4.enc L [(⟨8,d.name⟩:z4)] Z Z Z Z Z ?_ (h1:=by simp;omega) (h2:=by simp;omega);refine Mid.Q8 (f:=1) rfl trivial ?_;refine Mid.z0m rfl ?_
   exact yM 3 Z (t7 (L++[⟨8,d.name⟩]) (by simp;omega) (by rw [←hL,w0e (show yX d=true from he)]<;>simp)) Z Z Z
  ·exact yM 3 Z (t7 L (by omega) (by rw [←hL,w0g (show ¬ yX d=true by rw [show yX d=false from he];simp)]<;>simp)) Z Z Z
 ·intro j o r B h1 hj hjd hB ih
  have hji:j<i:=by simp at hj;omega
  have ho:ds[j]?=some o:=by rw [w0p] at h1;rw [w0e hji] at h1;exact h1
  have hjl:j<ds.length:=by omega
  refine fR Z ?_;refine Run.zf Z Z (by simp;omega) ?_;refine fR Z ?_;refine elG Z Z Z Z ho Z Z ?_;refine fM Z ?_;refine aL Z Z Z Z Z ?_;refine fM Z ?_
  exact zl 2 Z (ih (B||o.name==d.name) (by rw [hB];simp only [w1d];cases B<;>simp)) Z Z Z
end Go.GB.C11
