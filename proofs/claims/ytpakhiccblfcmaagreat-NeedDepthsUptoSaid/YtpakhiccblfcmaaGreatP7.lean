/-
  YtpakhiccblfcmaaGreatP7: lemmas. No conditions.
-/
import Derived.Test.YtpakhiccblfcmaaGreatP6
import Derived.JoinedCond
import Derived.Deep.CondSized
import Derived.Test.YtpakhiccblfcmaaGreatP3
import Derived.Test.YtpakhiccblfcmaaGreatP5
set_option linter.all false
set_option maxRecDepth 100000
set_option maxHeartbeats 16000000
namespace Go.GB
open Go.RowKit Go.WideShapes Go.ChangeShapes
mutual
def T.bulk:T->Nat
 | .str s=>s.length+1
 | .lst xs=>yx xs+1
 | .bool _=>1
 | .int _ _=>1
 | .ptr _=>1
 | .fn _=>1
 | .z11=>1
 | .QB=>1
 | .z3I=>1
def yx:List (List T)->Nat
 |[]=>0
 |c::r=>ZK c+yx r
def ZK:List T->Nat
 |[]=>0
 |x::r=>x.bulk+ZK r
end
theorem z0B:∀(a b:List T),ZK (a++b)=ZK a+ZK b
 |[],b=>by simp [ZK]
 |x::r,b=>by simp only [w23,ZK,z0B r b];omega
structure zbt {H:Type} (B:DataW H->Nat):Prop where
 lit:∀l,1<=B (.lit l)
 str:∀bs,bs.length+1<=B (.lit (.string bs))
 nil:1<=B .nil
 slice:∀e s,(e.map B).sum+1<=B (.slice e s)
 agg:∀ps,(ps.map B).sum<=B (.agg ps)
theorem z4S {H:Type} {B:DataW H->Nat}:∀(xs:List (List T)) (es:List (DataW H)),xs.length=es.length->(∀(i:Nat) c e,xs[i]?=some c->es[i]?=some e->ZK c<=B e)->yx xs<=(es.map B).sum
 |[],[],_,_=>by simp [yx]
 |[],_::_,h,_=>by simp at h
 |_::_,[],h,_=>by simp at h
 |c::xs,e::es,h,hb=>by
  have h1:=hb 0 c e rfl rfl;have h2:=z4S xs es (by simpa using h) (fun i c e a b=>hb (i+1) c e (by simpa using a) (by simpa using b));simp only [yx,w0o,List.sum_cons];omega
theorem z63 {P:Program} {w:World} {n:Nat} {cs:List Value}:∀(l:List (Nat×TypeId)) (bs:List Nat) (off tot:Nat),z1i P off l=some tot->tot<=cs.length->l.length=bs.length->(∀(j:Nat) p nb,l[j]?=some p->bs[j]?=some nb->∃ts,z3G w ((cs.drop p.1).take (P.cellsOf p.2)) ts/\WT P n p.2 ts/\ZK ts<=nb)->
  off<=tot/\∃ts:List T,ts.length=tot - off/\(∀(j:Nat) (v:Value) (x:T),cs[off+j]?=some v->ts[j]?=some x->zR z5c w v x)/\(∀p∈l,off<=p.1/\WT P n p.2 ((ts.drop (p.1 - off)).take (P.cellsOf p.2)))/\ZK ts<=bs.sum
 |[],bs,off,tot,hc,_,_,_=>by simp [z1i] at hc;subst hc;exact ⟨w07 _,[],by simp,by simp,by simp,by simp [ZK]⟩
 |_::_,[],_,_,_,_,h,_=>by simp at h
 |(o,t)::r,nb::bs,off,tot,hc,hl,hlen,hp=>by
  simp only [z1i] at hc;split at hc
  ·rename_i e;subst e;obtain ⟨h1,ts,h2,h3,h4,h5⟩:=z63 r bs (o+P.cellsOf t) tot hc hl (by simpa using hlen) (fun j p nb a b=>hp (j+1) p nb (by simpa using a) (by simpa using b));obtain ⟨us,k1,k2,k3⟩:=hp 0 (o,t) nb rfl rfl
   have hul:us.length=P.cellsOf t:=by rw [←k1.1];simp;omega
   refine ⟨by omega,us++ts,by simp [hul,h2];omega,fun j v x hv hx=>?_,fun p hpm=>?_,by rw [z0B];simp only [List.sum_cons];omega⟩
   ·by_cases hj:j<us.length
    ·rw [w0h hj] at hx;refine k1.2 j v x ?_ hx;simp only;rw [w0p,w0c (by omega),w0z];exact hv
    ·rw [w0i (by omega)] at hx;refine h3 (j - us.length) v x ?_ hx
     have:o+P.cellsOf t+(j - us.length)=o+j:=by omega
     rw [this];exact hv
   ·rcases w17.1 hpm with e|e
    ·subst e;refine ⟨w07 _,?_⟩;simp only [Nat.sub_self,List.drop_zero];rw [List.take_append_of_le_length (by omega),w0w (by omega)];exact k2
    ·obtain ⟨g1,g2⟩:=h4 p e
     refine ⟨by omega,?_⟩
     have:p.1 - o=us.length+(p.1 - (o+P.cellsOf t)):=by omega
     rw [this,List.drop_append,w2g (by omega)];simpa using g2
  ·cases hc
section
variable {H:Type} {enc:TypeId×Value->H} {P:Program} {w:World} {sp:Nat->Bool} {held:Bool} {S:List TypeId} {B:DataW H->Nat}
theorem Qs (hB:zbt B) (hp:z2R P S=true):∀(n:Nat) (t:TypeId) (cs:List Value) (d:DataW H) (ps:List MemPlace),t∈S->DataW.trod enc P w 0 sp held n t cs=some (d,ps)->(d.weights P t).all (· <=reachBytes)=true->∃ts,z3G w cs ts/\WT P n t ts/\ZK ts<=B d
 |0,t,cs,d,ps,_,h,_=>by simp [DataW.trod] at h
 |n+1,t,cs,d,ps,ht,h,hwt=>by
  have hpt:=w0m.1 hp t ht;simp only [WT]
  cases hu:P.underlying t with
  |none=>rw [hu] at hpt;simp at hpt
  |some td=>
   rw [hu] at hpt
   cases td with
   |bool=>
    rcases cs with _|⟨v,_|⟨v2,r⟩⟩<;>try (simp [DataW.trod,hu] at h;done)
    cases v<;>simp [DataW.trod,hu] at h
    rename_i b;refine ⟨[.bool b],z3G.one (.bool b),⟨b,rfl⟩,?_⟩;rw [←h.1];simpa [ZK,T.bulk] using hB.lit _
   |int k=>
    rcases cs with _|⟨v,_|⟨v2,r⟩⟩<;>try (simp [DataW.trod,hu] at h;done)
    cases v<;>simp [DataW.trod,hu] at h
    rename_i k' x;obtain ⟨⟨rfl,h2⟩,hd,_⟩:=h;refine ⟨[.int k' x],z3G.one (.int _ _),⟨x,rfl,h2⟩,?_⟩;rw [←hd];simpa [ZK,T.bulk] using hB.lit _
   |string=>
    rcases cs with _|⟨v,_|⟨v2,r⟩⟩<;>try (simp [DataW.trod,hu] at h;done)
    cases v<;>simp [DataW.trod,hu] at h
    rename_i s;rw [←h.2.1] at hwt
    refine ⟨[.str s.data.toList],z3G.one (.str _),⟨s.data.toList,rfl,by simpa [DataW.weights] using hwt⟩,?_⟩
    have:=hB.str s.data.toList;rw [←h.2.1];simp only [ZK,T.bulk];omega
   |slice e=>
    simp only [w0a,w0n] at hpt
    have he:e∈S:=by simpa using hpt.1
    rcases cs with _|⟨v,_|⟨v2,r⟩⟩<;>try (simp [DataW.trod,hu] at h;done)
    cases v<;>try (simp [DataW.trod,hu] at h;done)
    rename_i a len cap
    cases a with
    |none=>
     have h0:len=0/\cap=0:=by
      cases len<;>cases cap<;>simp_all [DataW.trod]
     obtain ⟨rfl,rfl⟩:=h0
     have hd:DataW.nil=d:=by
      simp only [DataW.trod,hu] at h;simp at h;exact h.1
     refine ⟨[.lst []],z3G.one .nil,⟨[],rfl,by simp,by simp,by simp⟩,?_⟩
     rw [←hd];simpa [ZK,yx,T.bulk] using hB.nil
    |some a=>
     simp only [DataW.trod,hu] at h;split at h
     ·rename_i hcond;simp only [w01] at h;obtain ⟨elems,hel,hrest⟩:=h;obtain ⟨hl,hat⟩:=z0y hel;simp at hl;rw [w05] at hrest;obtain ⟨rest,_,hde⟩:=hrest;simp only [w04] at hde;rw [←hde.1] at hwt;simp only [DataW.weights,hu,List.all_cons,List.all_append,w0a,w0n,w1g] at hwt
      have hreach:len*P.bytesOf e<=reachBytes:=by
       rw [hl];exact w0u (w10 _ (Nat.le_add_right _ _)) hwt.1
      have hone:∀i,i<len->∃q:List Value×List T,w.cells? 0 (a.add (i*P.cellsOf e)) (P.cellsOf e)=some q.1/\z3G w q.1 q.2/\WT P n e q.2/\∀y,elems[i]?=some y->ZK q.2<=B y.1:=by
       intro i hi;obtain ⟨y,hye,hy⟩:=hat i i (by simp [hi]);simp only [w01] at hy;obtain ⟨c,hc,hy⟩:=hy;obtain ⟨d',ps'⟩:=y;obtain ⟨ts,k1,k2,k3⟩:=Qs hB hp n e c d' ps' he hy (Wk _ hwt.2.1 _ (w1a.2 ⟨(d',ps'),zMG hye,rfl⟩))
       exact ⟨(c,ts),hc,k1,k2,fun y h=>by rw [hye] at h;simp at h;subst h;exact k3⟩
      obtain ⟨qs,hql,hq⟩:=z1U len hone
      have hsz:∀(i:Nat) (q:List Value×List T),qs[i]?=some q->q.1.length=P.cellsOf e/\q.2.length=P.cellsOf e:=by
       intro i q hi;obtain ⟨h1,h2,_⟩:=hq i q hi;have:=(cells?_at h1).1
       exact ⟨this,by rw [←h2.1];exact this⟩
      have hspot:0<len->a.spot=none:=by
       intro h0
       have hq0:qs[0]?=some (qs[0]'(by omega)):=by simp
       obtain ⟨h1,_,_⟩:=hq 0 _ hq0;obtain ⟨e1,e2⟩:=cells?_at h1
       have hlt:0<(qs[0]'(by omega)).1.length:=by rw [(hsz 0 _ hq0).1];exact hpt.2
       have:=za2 (e2 0 _ (w09 hlt));simpa [Addr.add] using this
      have hadd:∀m,0<len->a.add m=⟨a.block,a.off+m,none⟩:=by
       intro m h0;have hs:=hspot h0;obtain ⟨b,o,s⟩:=a;simp at hs;subst hs;exact Y4 b o m
      refine ⟨[.lst (qs.map (·.2))],z3G.one ?_,⟨qs.map (·.2),rfl,by simpa [hql] using hreach,by simp [hql];omega,fun c hc=>?_⟩,?_⟩
      ·have hlen:len=(qs.map (·.2)).length:=by simp [hql]
       rw [hlen];refine .lst (some a) cap (P.cellsOf e) (qs.map (·.2)) a.block a.off (fun i j=>((qs.map (·.1)).getD i []).getD j undef) (by rw [←hlen];exact hcond.2.1) ?_ ?_ ?_ ?_ ?_
       ·intro i c hc;rw [w0f,w05] at hc;obtain ⟨q,h1,rfl⟩:=hc;exact (hsz i q h1).2
       ·intro i j c x hc hx
        have h0:0<len:=by have:=(w02.1 hc).1;simp [hql] at this;omega
        have hs:=hspot h0;obtain ⟨b,o,s⟩:=a;simp at hs;subst hs;rfl
       ·intro i j c x hc hx;trivial
       ·intro i j c x hc hx;rw [w0f,w05] at hc;obtain ⟨q,h1,rfl⟩:=hc
        have h0:0<len:=by have:=(w02.1 h1).1;omega
        obtain ⟨g1,g2,_⟩:=hq i q h1;obtain ⟨e1,e2⟩:=cells?_at g1
        have hj:j<q.1.length:=by rw [g2.1];exact (w02.1 hx).1
        have:=e2 j _ (w09 hj);rw [hadd _ h0] at this;rw [Y4] at this;rw [this];simp [h1,hj]
       ·intro i j c x hc hx;rw [w0f,w05] at hc;obtain ⟨q,h1,rfl⟩:=hc;obtain ⟨g1,g2,_⟩:=hq i q h1
        have hj:j<q.1.length:=by rw [g2.1];exact (w02.1 hx).1
        have:=g2.2 j _ x (w09 hj) hx;simpa [h1,hj] using this
      ·rw [w1a] at hc;obtain ⟨q,h1,rfl⟩:=hc;obtain ⟨i,hi⟩:=w0y.1 h1;exact (hq i q hi).2.2.1
      ·rw [←hde.1];have h1:=hB.slice (elems.map (·.1)) (rest.map (·.1))
       have h2:=z4S (B:=B) (qs.map (·.2)) (elems.map (·.1)) (by simp [hql,hl]) (fun i c e a b=>by
        rw [w0f,w05] at a b;obtain ⟨q,a1,rfl⟩:=a;obtain ⟨y,b1,rfl⟩:=b
        exact (hq i q a1).2.2.2 y b1)
       simp only [ZK,T.bulk];omega
     ·cases h
   |struct fs=>
    simp only [w0a,w0m,beq_iff_eq] at hpt
    have hh:cs.length=P.cellsOf t/\∃xs,(fs.toList.mapM fun f=>DataW.trod enc P w 0 sp held n f.type ((cs.drop f.offset).take (P.cellsOf f.type)))=some xs/\d= .agg (xs.map (·.1)):=by
     have h':=h;simp only [DataW.trod,hu] at h';split at h'
     ·rename_i hc;simp only [w05] at h';obtain ⟨xs,hxs,hd⟩:=h'
      exact ⟨hc,xs,hxs,by simp only [w04] at hd;exact hd.1.symm⟩
     ·cases h'
    obtain ⟨hlen,xs,hxs,rfl⟩:=hh;obtain ⟨hl,hat⟩:=z0y hxs;simp only [DataW.weights,hu] at hwt
    obtain ⟨_,ts,g1,g2,g3,g4⟩:=z63 (n:=n) (w:=w) (cs:=cs) _ ((xs.map (·.1)).map B) 0 _ hpt.2 (by omega) (by simp [hl]) (fun j p nb hpm hnb=>by
     rw [w0f,w05] at hpm;obtain ⟨f,hj,rfl⟩:=hpm;have hf:=zMG hj;obtain ⟨y,hye,hy⟩:=hat j f hj;obtain ⟨d',ps'⟩:=y;rw [w0f,w0f,hye] at hnb;simp at hnb;subst hnb
     exact Qs hB hp n f.type _ d' ps' (by simpa using hpt.1 f hf) hy (qM _ _ hwt j f.type d' (by simp [hj]) (by simp [hye])))
    refine ⟨ts,⟨by omega,fun j v x hv hx=>g2 j v x (by simpa using hv) hx⟩,⟨by omega,fun f hf=>?_⟩,w0u g4 (hB.agg _)⟩
    have:=(g3 (f.offset,f.type) (w1a.2 ⟨f,hf,rfl⟩)).2;simpa using this
   |array m e=>
    simp only [w0a,beq_iff_eq] at hpt
    have hh:cs.length=P.cellsOf t/\∃xs,((List.range m).mapM fun i=>DataW.trod enc P w 0 sp held n e ((cs.drop (i*P.cellsOf e)).take (P.cellsOf e)))=some xs/\d= .agg (xs.map (·.1)):=by
     have h':=h;simp only [DataW.trod,hu] at h';split at h'
     ·rename_i hc;simp only [w05] at h';obtain ⟨xs,hxs,hd⟩:=h'
      exact ⟨hc,xs,hxs,by simp only [w04] at hd;exact hd.1.symm⟩
     ·cases h'
    obtain ⟨hlen,xs,hxs,rfl⟩:=hh;obtain ⟨hl,hat⟩:=z0y hxs;simp only [DataW.weights,hu] at hwt
    obtain ⟨_,ts,g1,g2,g3,g4⟩:=z63 (n:=n) (w:=w) (cs:=cs) _ ((xs.map (·.1)).map B) 0 _ hpt.2 (by omega) (by simp [←hl]) (fun j p nb hpm hnb=>by
     rw [w0f,w05] at hpm;obtain ⟨i,hj,rfl⟩:=hpm;obtain ⟨y,hye,hy⟩:=hat j i hj;obtain ⟨d',ps'⟩:=y;rw [w0f,w0f,hye] at hnb;simp at hnb;subst hnb
     exact Qs hB hp n e _ d' ps' (by simpa using hpt.1) hy (Wk _ hwt _ (w1a.2 ⟨(d',ps'),zMG hye,rfl⟩)))
    refine ⟨ts,⟨by omega,fun j v x hv hx=>g2 j v x (by simpa using hv) hx⟩,⟨by omega,fun i hi=>?_⟩,w0u g4 (hB.agg _)⟩
    have:=(g3 (i*P.cellsOf e,e) (w1a.2 ⟨i,w2o.2 hi,rfl⟩)).2;simpa using this
   |_=>simp at hpt
def vbs:List V->Nat
 |[]=>0
 | .t x::r=>x.bulk+vbs r
 |_::r=>vbs r
def vb:V->Nat
 | .t x=>x.bulk
 | .agg cs=>vbs cs
 |_=>0
theorem z9F:∀(ts:List T),vbs (ts.map V.t)=ZK ts
 |[]=>rfl
 |x::r=>by simp only [w0o,vbs,ZK,z9F r]
theorem zcD (hB:zbt B) (hp:z2R P S=true) {base:Nat} {t:TypeId} {v:Value} {d:DataW H} {ps:List MemPlace} (ht:t∈S) (hok:Value.okWide P w .any base t v) (h:DataW.Trod enc P w 0 sp held t v d ps) (hwt:(d.weights P t).all (· <=reachBytes)=true):
  ∃n ts,WT P n t ts/\zy (L.all w) v (z3H P t ts)/\vb (z3H P t ts)<=B d:=by
 obtain ⟨n,hn⟩:=h;obtain ⟨ts,h1,h2,hbk⟩:=Qs hB hp n t _ d ps ht hn hwt;refine ⟨n,ts,h2,?_⟩;have hpt:=w0m.1 hp t ht;unfold z3H;by_cases hag:Zd P t=true
 ·simp only [hag,w0v]
  have:∃cs,v= .agg cs:=by
   unfold Zd at hag;unfold Value.okWide at hok
   cases hu:P.underlying t with
   |none=>rw [hu] at hag;simp at hag
   |some td=>rw [hu] at hag hok;cases td<;>simp at hag<;>exact ⟨_,hok.choose_spec.1⟩
  obtain ⟨cs,rfl⟩:=this
  refine ⟨.agg (by simpa [Value.cells] using h1.1) fun j u c hj hc=>?_,by simpa [vb,z9F] using hbk⟩
  rw [w0f,w05] at hc;obtain ⟨x,hx,rfl⟩:=hc;exact .t (h1.2 j u x (by simpa [Value.cells] using hj) hx)
 ·simp only [hag,w0r,w0k]
  have hcells:v.cells=#[v]:=by
   unfold Zd at hag;unfold Value.okWide at hok
   cases hu:P.underlying t with
   |none=>rw [hu] at hpt;simp at hpt
   |some td=>
    rw [hu] at hag hok hpt
    cases td<;>simp at hag hpt<;>simp only [Cell.okWide,Cell.ok,hu] at hok<;>cases v<;>first |rfl|(exact hok.elim)
  have hcl:ts.length=1:=by rw [←h1.1,hcells];rfl
  obtain ⟨x,rfl⟩:∃x,ts=[x]:=by
   match ts,hcl with
   |[x],_=>exact ⟨x,rfl⟩
  exact ⟨.t (h1.2 0 v x (by rw [hcells];rfl) Z),by simpa [vb,ZK] using hbk⟩
theorem z4N (hB:zbt B) (hp:z2R P S=true) {base:Nat}:∀(ts:List TypeId) (args:List Value) (ds:List (DataW H)) (ps:List MemPlace),(∀t∈ts,t∈S)->(∀(j:Nat) t v,ts[j]?=some t->args[j]?=some v->Value.okWide P w .any base t v)->
  DataW.TrodAll enc P w 0 sp held ts args ds ps->(DataW.weightsEach P ts ds).all (· <=reachBytes)=true->∃vs,WTs P ts vs/\args.length=vs.length/\(vs.map vb).sum<=(ds.map B).sum/\∀(j:Nat) (v:Value) (x:V),args[j]?=some v->vs[j]?=some x->zy (L.all w) v x
 |[],[],[],ps,_,_,_,_=>⟨[],.nil,rfl,by simp,by simp⟩
 |t::ts,v::args,d::ds,ps,hS,hok,⟨p,q,h1,h2,_⟩,hwt=>by
  simp only [DataW.weightsEach,List.all_append,w0a] at hwt;obtain ⟨vs,k1,k2,k4,k3⟩:=z4N hB hp ts args ds q (fun t ht=>hS t (w08 _ ht)) (fun j t v a b=>hok (j+1) t v (by simpa using a) (by simpa using b)) h2 hwt.2;obtain ⟨n,xs,g1,g2,g3⟩:=zcD hB hp (hS t (by simp)) (hok 0 t v rfl rfl) h1 hwt.1
  refine ⟨z3H P t xs::vs,.cons g1 k1,by simp [k2],by simp only [w0o,List.sum_cons];omega,fun j u x hu hx=>?_⟩
  cases j with
  |zero=>simp at hu hx;subst hu;subst hx;exact g2
  |succ j=>exact k3 j u x (by simpa using hu) (by simpa using hx)
 |[],_::_,_,_,_,_,h,_=>by simp [DataW.TrodAll] at h
 |[],[],_::_,_,_,_,h,_=>by simp [DataW.TrodAll] at h
 |_::_,[],_,_,_,_,h,_=>by simp [DataW.TrodAll] at h
 |_::_,_::_,[],_,_,_,h,_=>by simp [DataW.TrodAll] at h
end
section
variable {H:Type} {enc:TypeId×Value->H} {P:Program}
theorem z3N {B:DataW H->Nat} {N:Nat} (hB:zbt B) {S:List TypeId} {f:FuncId} {fn:Func} {s:ChangeSpec} {tb:TypeId} {apart fresh handsOn again:Bool} (hp:z2R P S=true) (hl:laidOutB P=true) (hT:∀t∈fn.params.toList,t∈S/\P.readableRec t=true/\t<P.types.size)
  (hrt:fn.resultTypes=#[tb]) (hb:P.underlying tb=some .bool) (hv:s.vars=[]) (hs:∀ds:List (DataW H),ds.length=fn.params.size->s.fn H ds={results:=[.lit (.bool true)],args:=ds})
  (W:World) (base:Nat) (args:Array Value) (ds gs:List (DataW H)) (before:List MemPlace)
  (hval:∀(j:Nat) t v,fn.params[j]?=some t->args[j]?=some v->Value.okWide P W .any base t v)
  (hW:DataW.Whole enc P fn.params.toList s.vars apart W args.toList ds gs before)
  (hwt:(DataW.weightsEach P (fn.params.toList++s.plain.varTypes P) (ds++gs)).all (· <=reachBytes)=true)
  (hbk:(ds.map B).sum<=N) (hok:∀vs,WTs P fn.params.toList vs->(vs.map vb).sum<=N->z6 P f vs ⟨[],0⟩ {v:= .t (.bool true)}):
  Calls P f args W fun e W'=>∃v,e= .returned v/\s.post enc P fn apart fresh handsOn again W args v W':=by
 have hW':=hW;obtain ⟨p,q,hA,hV,rfl,hfz,hnd⟩:=hW;rw [hv] at hV;obtain ⟨rfl,rfl⟩:=trodVars_none hV
 have hdl:ds.length=fn.params.size:=by
  have:∀(ts:List TypeId) (vs:List Value) (ds:List (DataW H)) (ps:List MemPlace),DataW.TrodAll enc P W 0 (fun _=>true) true ts vs ds ps->ds.length=ts.length:=by
   intro ts
   induction ts with
   |nil=>intro vs ds ps h;cases vs<;>cases ds<;>simp_all [DataW.TrodAll]
   |cons t ts ih=>
    intro vs ds ps h
    cases vs with
    |nil=>simp [DataW.TrodAll] at h
    |cons v vs=>
     cases ds with
     |nil=>simp [DataW.TrodAll] at h
     |cons d ds=>obtain ⟨p,q,_,h2,_⟩:=h;simp [ih vs ds q h2]
  simpa using this _ _ _ _ hA
 have hwt':(DataW.weightsEach P fn.params.toList ds).all (· <=reachBytes)=true:=by
  have happ:∀(ts us:List TypeId) (ds es:List (DataW H)),ts.length=ds.length->DataW.weightsEach P (ts++us) (ds++es)=DataW.weightsEach P ts ds++DataW.weightsEach P us es:=by
   intro ts
   induction ts with
   |nil=>intro us ds es h;cases ds with
    |nil=>simp [DataW.weightsEach]
    |cons d ds=>simp at h
   |cons t ts ih=>intro us ds es h;cases ds with
    |nil=>simp at h
    |cons d ds=>simp only [w23,DataW.weightsEach,w1w];rw [ih us ds es (by simpa using h)]
  rw [happ _ _ _ _ (by simpa using hdl.symm),List.all_append,w0a] at hwt;exact hwt.1
 obtain ⟨vs,k1,k2,k4,k3⟩:=z4N hB hp _ _ _ _ (fun t ht=>(hT t ht).1) (fun j t v a b=>hval j t v (by simpa using a) (by simpa using b)) hA hwt';refine ((hok vs k1 (w0u k4 hbk)).2 (L.all W) args (Z7.all W) Z (by simpa using k2) (fun j v x a b=>k3 j v x (by simpa using a) b)).mono fun e W' he=>?_;obtain ⟨v,Λ',rfl,rfl,g1,g2,g3,g4⟩:=he;have hvt:=g4.ZW.Yh;subst hvt;have hbel:Below W.heap.size W Λ'.w:=⟨g1.fr.os,g1.fr.tape,g1.fr.output,g1.fr.size,fun b hb=>(g1.fr.fix b hb none rfl).2⟩;have hsf:=hs (ds++[]) (by simpa using hdl);refine ⟨_,rfl,z3R (pa:=p) (pv:=[]) (by simpa using hW') ?_ ?_ ?_ (by simp) hbel ?_⟩
 ·intro b sp hd;rw [hsf,hrt]
  exact ⟨[],[],⟨1,by simp [DataW.trod,hb,Value.cells]⟩,rfl,rfl⟩
 ·intro sp hsp;rw [hsf];have hlt:∀x∈p,x.block<W.heap.size:=fun x hx=>hW'.lt x (by simpa using hx);simpa using QI hl hbel _ _ _ _ (fun t ht=>(hT t ht).2) hA hlt (fun x hx=>hsp x (by simpa using hx))
 ·intro sp hsp;rw [hsf,hv];rfl
 ·intro j t r hj hr;rw [hrt] at hj
  cases j with
  |zero=>
   simp at hj;subst hj;simp [hrt,Value.resultList] at hr;subst hr;simp [Value.okWide,Cell.okWide,Cell.ok,hb]
  |succ j=>simp at hj
theorem zgX {H:Type} {enc:TypeId×Value->H} {P:Program} {B:DataW H->Nat} {N:Nat} (hB:zbt B) (S:List TypeId) {f:FuncId} {fn:Func} {s:ChangeSpec} {tb:TypeId} {apart fresh handsOn again:Bool} (hp:z2R P S=true) (hl:laidOutB P=true)
  (hT:(fn.params.toList.all fun t=>S.contains t&&P.readableRec t&&decide (t<P.types.size))=true)
  (hrt:fn.resultTypes=#[tb]) (hb:P.underlying tb=some .bool) (hv:s.vars=[]) (hs:∀ds:List (DataW H),ds.length=fn.params.size->s.fn H ds={results:=[.lit (.bool true)],args:=ds})
  (W:World) (base:Nat) (args:Array Value) (ds gs:List (DataW H)) (before:List MemPlace)
  (hval:∀(j:Nat) t v,fn.params[j]?=some t->args[j]?=some v->Value.okWide P W .any base t v)
  (hW:DataW.Whole enc P fn.params.toList s.vars apart W args.toList ds gs before)
  (hwt:(DataW.weightsEach P (fn.params.toList++s.plain.varTypes P) (ds++gs)).all (· <=reachBytes)=true)
  (hbk:(ds.map B).sum<=N) (hok:∀vs,WTs P fn.params.toList vs->(vs.map vb).sum<=N->z6 P f vs ⟨[],0⟩ {v:= .t (.bool true)}):
  Calls P f args W fun e W'=>∃v,e= .returned v/\s.post enc P fn apart fresh handsOn again W args v W':=by
 refine z3N hB (S:=S) hp hl (fun t ht=>?_) hrt hb hv hs W base args ds gs before hval hW hwt hbk hok;rw [w0m] at hT;have:=hT t ht;simp only [w0a,w0n,List.contains_iff_mem] at this;exact ⟨this.1.1,this.1.2,this.2⟩
end
end Go.GB
namespace Go.GB
namespace Sel
end Sel
namespace Sel.Ok
end Sel.Ok
end Go.GB
namespace Go.GB.C11
open Go.GB
structure Pr13 (P:Program):Prop extends Pr P where
 i64:z9 P 64=some (n64,c64.bare,r64)
 i23:z9 P 23=some (n23,c23.bare,r23)
 i27:z9 P 27=some (n27,c27.bare,r27)
 i95:z9 P 95=some (n95,c95.bare,r95)
 i96:z9 P 96=some (n96,c96.bare,r96)
 i130:z9 P 130=some (n130,c130.bare,r130)
 i112:z9 P 112=some (n112,c112.bare,r112)
 i123:z9 P 123=some (n123,c123.bare,r123)
 i124:z9 P 124=some (n124,c124.bare,r124)
 i131:z9 P 131=some (n131,c131.bare,r131)
 i132:z9 P 132=some (n132,c132.bare,r132)
 i30:z9 P 30=some (n30,c30.bare,r30)
 i140:z9 P 140=some (n140,c140.bare,r140)
 i146:z9 P 146=some (n146,c146.bare,r146)
variable {P:Program}
end Go.GB.C11
namespace Go.GB.C11
open Go.GB
variable {P:Program}
def szV (v:Val):Int:=v.items.attach.foldl (fun n x=>IntKind.i64.wrap (n+szV x.1)) 1
termination_by SizeOf.sizeOf v
decreasing_by exact Val.yE v x.2
def dpV (v:Val):Int:=IntKind.i64.wrap (v.items.attach.foldl (fun n x=>if dpV x.1>n then dpV x.1 else n) 0+1)
termination_by SizeOf.sizeOf v
decreasing_by all_goals exact Val.yE v x.2
def twS:List Str->List Str->Bool
 |_,[]=>false
 |p,s::r=>decide (s∈p)||twS (p++[s]) r
theorem zfQ (v:Val):szV v=v.items.foldl (fun n x=>IntKind.i64.wrap (n+szV x)) 1:=by
 rw [szV];exact List.foldl_attach (l:=v.items) (f:=fun n x=>IntKind.i64.wrap (n+szV x)) (b:=1)
theorem zeY (v:Val):dpV v=IntKind.i64.wrap (v.items.foldl (fun n x=>if dpV x>n then dpV x else n) 0+1):=by
 rw [dpV];rw [List.foldl_attach (l:=v.items) (f:=fun n x=>if dpV x>n then dpV x else n) (b:=0)]
def SzC (P:Program) (v:Val):Prop:=z6 P 130 [v.v] ⟨[],0⟩ {v:= .t (.int .i64 (szV v))}
theorem z6D (H:Pr13 P) (v:Val) (hv:v.Ok) (ih:∀x,x∈v.items->SzC P x):SzC P v:=by
 have hil:=hv.il;unfold SzC;rw [zfQ];refine z6.run H.i130 H.mixed Z Z ?_;refine fR Z ?_;refine zu v.items (fun i (n:Int)=>{env:=[(1,.ptr 0 0),(3,.t (.int .i64 n)),(4,.t (.int .i64 i))],s:=⟨[(0,(VCo v))],1⟩}) (fun r i n=>v.items.foldl (fun n x=>IntKind.i64.wrap (n+szV x)) 1=r.foldl (fun n x=>IntKind.i64.wrap (n+szV x)) n) 1 1 Z Z Z Z Z ?_ ?_
 ·intro n hinv;refine fR Z ?_;refine lM Z Z Z ?_;refine fM Z ?_;refine Run.zf Z Z (by simp) ?_;refine fR Z ?_;refine Run.fin Z (z4.go ?_);exact .t (by rw [hinv];rfl)
 ·intro i x r n h1 hi hd hinv ihl;have hcall:=ih x (zMG h1);unfold SzC at hcall;refine fR Z ?_;refine lM Z Z Z ?_;refine fM Z ?_;refine Run.zj Z Z (by simp;omega) ?_;refine fR Z ?_;refine Mid.Z2 (Val.zx x) Z Z Z h1 Z Z ?_;refine fM Z ?_;refine Mid.call (hcall) Z Z Z Z ?_;refine p0 Z ?_;refine fM Z ?_;refine aL Z Z Z Z Z ?_;refine fM Z ?_;exact zh 1 Z (ihl (IntKind.i64.wrap (n+szV x)) hinv) Z Z Z
theorem z15 (H:Pr13 P):∀(v:Val),v.Ok->SzC P v
 |v,hv=>z6D H v hv fun x hx=>z15 H x (hv.it x hx)
termination_by v=>SizeOf.sizeOf v
decreasing_by exact Val.yE v hx
def DpC (P:Program) (v:Val):Prop:=z6 P 131 [v.v] ⟨[],0⟩ {v:= .t (.int .i64 (dpV v))}
theorem z5q (H:Pr13 P) (v:Val) (hv:v.Ok) (ih:∀x,x∈v.items->DpC P x):DpC P v:=by
 have hil:=hv.il;unfold DpC;rw [zeY];refine z6.run H.i131 H.mixed Z Z ?_;refine fR Z ?_;refine zu v.items (fun i (n:Int)=>{env:=[(1,.ptr 0 0),(3,.t (.int .i64 n)),(4,.t (.int .i64 i))],s:=⟨[(0,(VCo v))],1⟩}) (fun r i n=>v.items.foldl (fun n x=>if dpV x>n then dpV x else n) 0=r.foldl (fun n x=>if dpV x>n then dpV x else n) n) 1 0 Z Z Z Z Z ?_ ?_
 ·intro n hinv;refine fR Z ?_;refine lM Z Z Z ?_;refine fM Z ?_;refine Run.zf Z Z (by simp) ?_;refine fR Z ?_;refine p0 Z ?_;refine fM Z ?_;refine Run.fin Z (z4.go ?_);exact .t (by rw [hinv];rfl)
 ·intro i x r n h1 hi hd hinv ihl;have hcall:=ih x (zMG h1);unfold DpC at hcall;refine fR Z ?_;refine lM Z Z Z ?_;refine fM Z ?_;refine Run.zj Z Z (by simp;omega) ?_;refine fR Z ?_;refine Mid.Z2 (Val.zx x) Z Z Z h1 Z Z ?_;refine fM Z ?_;refine Mid.call (hcall) Z Z Z Z ?_;refine fM Z ?_;refine aL Z Z Z Z Z ?_;refine fM Z ?_;exact zh 1 Z (ihl (if dpV x>n then dpV x else n) hinv) Z Z Z
theorem z00 (H:Pr13 P):∀(v:Val),v.Ok->DpC P v
 |v,hv=>z5q H v hv fun x hx=>z00 H x (hv.it x hx)
termination_by v=>SizeOf.sizeOf v
decreasing_by exact Val.yE v hx
theorem zdz (p:List Str) (l:List Str):∀{i:Nat} {x:Str} {r:List Str},l[i]?=some x->l.drop i=x::r->twS (l.take i) (x::r)=(decide (x∈l.take i)||twS (l.take (i+1)) r):=by
 intro i x r h1 h2
 have htk:l.take i++[x]=l.take (i+1):=by rw [w11,h1];rfl
 rw [←htk];rfl
theorem z8a (H:Pr13 P) (l:List Str) (hl:l.length<=140737488355328):z6 P 146 [.t (.lst (l.map sE))] ⟨[],0⟩ {v:= .t (.bool (twS [] l))}:=by
 generalize hT:twS [] l=tot;refine z6.run H.i146 H.mixed Z Z ?_;refine fR Z ?_;refine zu l (fun i (_:Unit)=>{env:=[(0,.t (.lst (l.map sE))),(3,.t (.int .i64 i))],s:=⟨[],0⟩}) (fun r i _=>l.drop i=r/\twS (l.take i) r=tot) 0 () Z ⟨rfl,hT⟩ Z Z Z ?_ ?_
 ·rintro _ ⟨_,hinv⟩;refine fR Z ?_;refine lM Z Z Z ?_;refine fM Z ?_;refine Run.zf Z Z (by simp) ?_;refine fR Z ?_;refine Run.fin Z (z4.go ?_);exact .t (by rw [←hinv];rfl)
 ·rintro i x r _ h1 hi hd ⟨hdr,hinv⟩ ih;rw [zdz [] l h1 hdr] at hinv
  have hdr':l.drop (i+1)=r:=by rw [←List.drop_drop,hdr];rfl
  refine fR Z ?_;refine lM Z Z Z ?_;refine fM Z ?_;refine Run.zj Z Z (by simp;omega) ?_;refine fR Z ?_;refine zu (l.take i) (fun k (_:Unit)=>{env:=[(0,.t (.lst (l.map sE))),(3,.t (.int .i64 i)),(4,.t (.int .i64 k))],s:=⟨[],0⟩}) (fun r k _=>decide (x∈l.take i)=decide (x∈r)) 0 () Z Z Z Z Z ?_ ?_
  ·intro _ hinv2
   have hnot:decide (x∈l.take i)=false:=by rw [hinv2];simp
   rw [hnot] at hinv
   have htl:(l.take i).length=i:=by rw [w2c];omega
   refine fR Z ?_;refine Run.zf Z Z (by simp [htl]) ?_;refine fR Z ?_;refine aL Z Z Z Z Z ?_;refine fM Z ?_;exact zh 0 Z (ih () ⟨hdr',by simpa using hinv⟩) rfl rfl rfl
  ·intro k y r2 _ g1 gi gd hinv2 ih2
   have htl:(l.take i).length=i:=by rw [w2c];omega
   have g1':l[k]?=some y:=by
    rw [w0p] at g1;split at g1
    ·exact g1
    ·cases g1
   refine fR Z ?_;refine Run.zj Z Z (by simp;omega) ?_;refine fR Z ?_;refine Mid.za Z Z Z h1 Z Z ?_;refine fM Z ?_;refine Mid.za Z Z Z g1' Z Z ?_;refine fM Z ?_;refine Run.cond Z Z (fun hc=>?_) (fun hc=>?_)
   ·have hc':x=y:=by simpa using hc
    have hm:decide (x∈l.take i)=true:=by rw [hinv2];simp [hc']
    rw [hm] at hinv;refine fR Z ?_;refine Run.fin Z (z4.go ?_);exact .t (by rw [←hinv];rfl)
   ·have hc':¬ x=y:=by simpa using hc
    refine fR Z ?_;refine aL Z Z Z Z Z ?_;refine fM Z ?_;exact zh 0 Z (ih2 () (by rw [hinv2];simp [hc'])) Z Z Z
end Go.GB.C11
namespace Go.GB.C11
open Go.GB
variable {P:Program}
def z3n (v:Val) (lit:Bool):Bool:=
 if (v.kind==0)=true then (((v.int==0&&v.text==[])&&(v.items.length:Int)==0)&&(v.keys.length:Int)==0)
 else if (v.kind==1)=true then ((((v.int==0||v.int==1)&&v.text==[])&&(v.items.length:Int)==0)&&(v.keys.length:Int)==0)
 else if (v.kind==2)=true then ((v.text==[]&&(v.items.length:Int)==0)&&(v.keys.length:Int)==0)
 else if (v.kind==3)=true then ((v.int==0&&(v.items.length:Int)==0)&&(v.keys.length:Int)==0)
 else if (v.kind==4)=true then ((((((v.int==0&&(v.items.length:Int)==0)&&(v.keys.length:Int)==0)&&zt v.text)&&v.text !=[116,114,117,101])&&v.text !=[102,97,108,115,101])&&v.text !=[110,117,108,108])
 else if (v.kind==5)=true then ((v.int==0&&v.text==[])&&(v.keys.length:Int)==0)
 else if (v.kind==6)=true then (((v.int==0&&v.text==[])&&(v.keys.length:Int)==(v.items.length:Int))&&!twS [] v.keys)
 else if (v.kind==7)=true then ((((lit&&v.int==0)&&(v.items.length:Int)==0)&&(v.keys.length:Int)==0)&&zt v.text)
 else false
theorem zaj (H:Pr13 P) (v:Val) (hv:v.Ok) (lit:Bool):z6 P 140 [v.v,.t (.bool lit)] ⟨[],0⟩ {v:= .t (.bool (z3n v lit))}:=by
 have hkl:=hv.kl;have htl:=hv.tl;generalize hT:z3n v lit=tot;unfold z3n at hT;refine z6.run H.i140 H.mixed Z Z ?_;refine fR Z ?_;refine Run.cond Z Z (fun h0=>?_) (fun h0=>?_)
 ·rw [w0c h0] at hT;refine fR Z ?_;refine lMG Z Z Z Z ?_;refine fM Z ?_;refine lMG Z Z Z Z ?_;refine fM Z ?_;refine Run.fin Z (z4.go ?_);exact .t (by rw [←hT])
 ·rw [w0d (by rw [h0];simp)] at hT;refine fR Z ?_;refine Run.cond Z Z (fun h1=>?_) (fun h1=>?_)
  ·rw [w0c h1] at hT;refine fR Z ?_;refine lMG Z Z Z Z ?_;refine fM Z ?_;refine lMG Z Z Z Z ?_;refine fM Z ?_;refine Run.fin Z (z4.go ?_);exact .t (by rw [←hT])
  ·rw [w0d (by rw [h1];simp)] at hT;refine fR Z ?_;refine Run.cond Z Z (fun h2=>?_) (fun h2=>?_)
   ·rw [w0c h2] at hT;refine fR Z ?_;refine lMG Z Z Z Z ?_;refine fM Z ?_;refine lMG Z Z Z Z ?_;refine fM Z ?_;refine Run.fin Z (z4.go ?_);exact .t (by rw [←hT])
   ·rw [w0d (by rw [h2];simp)] at hT;refine fR Z ?_;refine Run.cond Z Z (fun h3=>?_) (fun h3=>?_)
    ·rw [w0c h3] at hT;refine fR Z ?_;refine lMG Z Z Z Z ?_;refine fM Z ?_;refine lMG Z Z Z Z ?_;refine fM Z ?_;refine Run.fin Z (z4.go ?_);exact .t (by rw [←hT])
    ·rw [w0d (by rw [h3];simp)] at hT;refine fR Z ?_;refine Run.cond Z Z (fun h4=>?_) (fun h4=>?_)
     ·rw [w0c h4] at hT;refine fR Z ?_;refine lMG Z Z Z Z ?_;refine fM Z ?_;refine lMG Z Z Z Z ?_;refine fM Z ?_;refine caG Z Z (fun hg=>⟨_,rfl,Qu H.toPr v.text htl,rfl⟩) Z Z ?_;refine fM Z ?_;refine Run.fin Z (z4.go ?_);exact .t (by rw [←hT];rfl)
     ·rw [w0d (by rw [h4];simp)] at hT;refine fR Z ?_;refine Run.cond Z Z (fun h5=>?_) (fun h5=>?_)
      ·rw [w0c h5] at hT;refine fR Z ?_;refine lMG Z Z Z Z ?_;refine fM Z ?_;refine Run.fin Z (z4.go ?_);exact .t (by rw [←hT])
      ·rw [w0d (by rw [h5];simp)] at hT;refine fR Z ?_;refine Run.cond Z Z (fun h6=>?_) (fun h6=>?_)
       ·rw [w0c h6] at hT;refine fR Z ?_;refine lMG Z Z Z Z ?_;refine fM Z ?_;refine lMG Z Z Z Z ?_;refine fM Z ?_;refine caG Z Z (fun hg=>⟨_,rfl,z8a H v.keys (by omega),rfl⟩) Z Z ?_;refine fM Z ?_;refine Run.fin Z (z4.go ?_);exact .t (by rw [←hT])
       ·rw [w0d (by rw [h6];simp)] at hT;refine fR Z ?_;refine Run.cond Z Z (fun h7=>?_) (fun h7=>?_)
        ·rw [w0c h7] at hT;refine fR Z ?_;refine lMG Z Z Z Z ?_;refine fM Z ?_;refine lMG Z Z Z Z ?_;refine fM Z ?_;refine caG Z Z (fun hg=>⟨_,rfl,Qu H.toPr v.text htl,rfl⟩) Z Z ?_;refine fM Z ?_;refine Run.fin Z (z4.go ?_);exact .t (by rw [←hT])
        ·rw [w0d (by rw [h7];simp)] at hT;refine fR Z ?_;refine Run.fin Z (z4.go ?_);exact .t (by rw [←hT])
def z3b (lit:Bool) (v:Val):Bool:=z3n v lit&&(v.keys.all (fun k=>!(lit&&!zt k))&&v.items.attach.all (fun x=>z3b lit x.1))
termination_by SizeOf.sizeOf v
decreasing_by exact Val.yE v x.2
theorem zdE (lit:Bool) (v:Val):z3b lit v=(z3n v lit&&(v.keys.all (fun k=>!(lit&&!zt k))&&v.items.all (z3b lit))):=by
 rw [z3b];congr 2;rw [w2b];simp [w0m]
def WhC (P:Program) (lit:Bool) (v:Val):Prop:=z6 P 132 [v.v,.t (.bool lit)] ⟨[],0⟩ {v:= .t (.bool (z3b lit v))}
theorem z5a (H:Pr13 P) (lit:Bool) (v:Val) (hv:v.Ok) (ih:∀x,x∈v.items->WhC P lit x):WhC P lit v:=by
 have hil:=hv.il;have hkl:=hv.kl;unfold WhC;rw [zdE];refine z6.run H.i132 H.mixed Z Z ?_;refine fR Z ?_;refine Mid.call (zaj H v hv lit) Z Z Z Z ?_;refine fM Z ?_;refine Run.cond Z Z (fun h0=>?_) (fun h0=>?_)
 ·have h0':z3n v lit=false:=by simpa using h0
  refine fR Z ?_;refine Run.fin Z (z4.go ?_);exact .t (by rw [h0'];rfl)
 ·have h0':z3n v lit=true:=by simpa using h0
  rw [h0',w13];refine fR Z ?_;refine zu v.keys (fun i (_:Unit)=>{env:=[(1,.t (.bool lit)),(2,.ptr 0 0),(5,.t (.int .i64 i))],s:=⟨[(0,(VCo v))],1⟩}) (fun r i _=>v.keys.all (fun k=>!(lit&&!zt k))=r.all (fun k=>!(lit&&!zt k))) 1 () Z Z Z Z Z ?_ ?_
  ·intro _ hk
   have hk':v.keys.all (fun k=>!(lit&&!zt k))=true:=by rw [hk];rfl
   rw [hk',w13];refine fR Z ?_;refine lM Z Z Z ?_;refine fM Z ?_;refine Run.zf Z Z (by simp) ?_;refine fR Z ?_;refine zu v.items (fun i (_:Unit)=>{env:=[(1,.t (.bool lit)),(2,.ptr 0 0),(6,.t (.int .i64 i))],s:=⟨[(0,(VCo v))],1⟩}) (fun r i _=>v.items.all (z3b lit)=r.all (z3b lit)) 1 () Z Z Z Z Z ?_ ?_
   ·intro _ hinv;refine fR Z ?_;refine lM Z Z Z ?_;refine fM Z ?_;refine Run.zf Z Z (by simp) ?_;refine fR Z ?_;refine Run.fin Z (z4.go ?_);exact .t (by rw [hinv];rfl)
   ·intro i x r _ h1 hi hd hinv ihl;have hcall:=ih x (zMG h1);unfold WhC at hcall;refine fR Z ?_;refine lM Z Z Z ?_;refine fM Z ?_;refine Run.zj Z Z (by simp;omega) ?_;refine fR Z ?_;refine Mid.Z2 (Val.zx x) Z Z Z h1 Z Z ?_;refine fM Z ?_;refine Mid.call (hcall) Z Z Z Z ?_;refine fM Z ?_;refine Run.cond Z Z (fun hc=>?_) (fun hc=>?_)
    ·have hc':z3b lit x=false:=by simpa using hc
     refine fR Z ?_;refine Run.fin Z (z4.go ?_);exact .t (by rw [hinv,List.all_cons,hc'];rfl)
    ·have hc':z3b lit x=true:=by simpa using hc
     refine fR Z ?_;refine aL Z Z Z Z Z ?_;refine fM Z ?_;exact zh 1 Z (ihl () (by rw [hinv,List.all_cons,hc'];rfl)) Z Z Z
  ·intro i x r _ h1 hi hd hinv ihl;have hxl:=hv.kt x (zMG h1);refine fR Z ?_;refine lM Z Z Z ?_;refine fM Z ?_;refine Run.zj Z Z (by simp;omega) ?_;refine fR Z ?_;refine elG Z Z Z Z h1 Z Z ?_;refine fM Z ?_;refine caG Z Z (fun hg=>⟨_,rfl,Qu H.toPr x hxl,rfl⟩) Z Z ?_;refine fM Z ?_;refine Run.cond Z Z (fun hc=>?_) (fun hc=>?_)
   ·refine fR Z ?_;refine Run.fin Z (z4.go ?_);exact .t (by rw [hinv,List.all_cons,hc];rfl)
   ·refine fR Z ?_;refine aL Z Z Z Z Z ?_;refine fM Z ?_;exact zh 1 Z (ihl () (by rw [hinv,List.all_cons,hc];rfl)) Z Z Z
theorem z01 (H:Pr13 P) (lit:Bool):∀(v:Val),v.Ok->WhC P lit v
 |v,hv=>z5a H lit v hv fun x hx=>z01 H lit x (hv.it x hx)
termination_by v=>SizeOf.sizeOf v
decreasing_by exact Val.yE v hx
def QZ (v:Val):Bool:=(decide (szV v<=4096)&&decide (dpV v<=24))&&z3b true v
theorem z8E (H:Pr13 P) (v:Val) (hv:v.Ok):z6 P 112 [v.v] ⟨[],0⟩ {v:= .t (.bool (QZ v))}:=by
 have h1:=z15 H v hv;have h2:=z00 H v hv;have h3:=z01 H true v hv;unfold SzC at h1;unfold DpC at h2;unfold WhC at h3;refine z6.run H.i112 H.mixed Z Z ?_;refine fR Z ?_;refine Mid.call (h1) Z Z Z Z ?_;refine fM Z ?_;refine caG Z Z (fun hg=>⟨_,rfl,h2,rfl⟩) Z Z ?_;refine fM Z ?_;refine caG Z Z (fun hg=>⟨_,rfl,h3,rfl⟩) Z Z ?_;refine fM Z ?_;refine Run.fin Z (z4.go ?_);exact .t Z
end Go.GB.C11
namespace Go.GB.C11
open Go.GB
variable {P:Program}
theorem z2t (a b:Ref):z0E a b=z0E b a:=by
 unfold z0E;rw [w2b];simp;exact ⟨fun h=>⟨h.1.symm,h.2.symm⟩,fun h=>⟨h.1.symm,h.2.symm⟩⟩
theorem W8 (H:Pr13 P) (a b:Ref) (ha:a.Ok) (hb:b.Ok):z6 P 30 [a.v,b.v] ⟨[],0⟩ {v:= .t (.bool (z0E a b))}:=by
 have h1:=ha.l;have h2:=hb.l;refine z6.run H.i30 H.mixed Z Z ?_;refine fR Z ?_;refine caG Z Z (fun hg=>⟨_,rfl,zdC H.toPr a.zw b.zw (by omega) (by omega),rfl⟩) Z Z ?_;refine fM Z ?_;refine Run.fin Z (z4.go ?_);exact .t Z
theorem z4C (H:Pr13 P) (ds:List Def) (hD:Z6 ds) (n:Str) (k:Int) (hk:k≠0):z6 P 123 [yT ds,.t (.str n),.t (.int .i64 k)] ⟨[],0⟩ {v:= .t (.int .i64 (yA ds n k))}:=by
 refine z6.run H.i123 H.mixed Z Z ?_;refine fR Z ?_;refine Mid.call (yh H.toPr ds hD.l n) Z Z Z Z ?_;refine fM Z ?_;refine caG Z Z (fun hg=>⟨_,rfl,YZ H.toPr n,rfl⟩) Z Z ?_;refine fM Z ?_;refine Run.cond Z Z (fun h1=>?_) (fun h1=>?_)
 ·refine fR Z ?_;refine Run.fin Z (z4.go ?_);exact .t (by unfold yA;rw [w0c h1])
 ·have h1':¬ (!(zi n ds).isSome&&!(qw n))=true:=by
   rw [show (!(zi n ds).isSome&&!(qw n))=false from h1];simp
  refine fR Z ?_;refine Run.cond Z Z (fun h2=>?_) (fun h2=>?_)
  ·have h2':(!(zi n ds).isSome||((zi n ds).getD Def.zero).kind !=k)=true:=by
    have:(((zi n ds).getD Def.zero).kind !=k)=true:=h2;rw [this];simp
   refine fR Z ?_;refine Run.fin Z (z4.go ?_);exact .t (by unfold yA;rw [w0d h1',w0c h2'])
  ·have h2':¬ (!(zi n ds).isSome||((zi n ds).getD Def.zero).kind !=k)=true:=by
    have:(((zi n ds).getD Def.zero).kind !=k)=false:=h2;rw [this]
    cases hf:zi n ds with
    |none=>rw [hf] at this;exact absurd (by simpa [Def.zero] using this) hk.symm
    |some d=>simp
   refine fR Z ?_;refine Run.fin Z (z4.go ?_);exact .t (by unfold yA;rw [w0d h1',w0d h2'])
theorem zaK (H:Pr13 P) (ds:List Def) (hD:Z6 ds) (t:Def) (ht:t.Ok) (x:Field) (hx:x.Ok) (hl:(z6Y ds t x).length<=4398046511104):z6 P 124 [yT ds,t.v,x.v] ⟨[],0⟩ {v:= .t (.lst ((z6Y ds t x).map zn.enc))}:=by
 have hxn:=hx.nm;have htn:=ht.nm;have hxa:=hx.al
 have hatl:List.length (atF t x)<=281474976710657:=by unfold atF;simp;omega
 generalize hT:z6Y ds t x=tot at hl;unfold z6Y at hT;generalize hAt:atF t x=at_ at hT hatl;have hAt':t.name++[46]++x.name=at_:=hAt;refine z6.run H.i124 H.mixed Z Z ?_;refine fR Z ?_;refine pu Z ?_;refine fM Z ?_;refine pu Z ?_;refine fM Z ?_;rw [hAt'];refine Mid.call (Q3 H.toPr t ht.fl x.name) Z Z Z Z ?_;refine fM Z ?_
 cases hy:Z5 x.name t.fields with
 |none=>
  rw [hy] at hT;refine Run.zj Z Z Z ?_;refine fR Z ?_;refine Run.fin Z (z4.go ?_)
  first
  |exact .t (by rw [←hT];rfl)
  |exact .own (by rw [←hT];rfl)
 |some y=>
  rw [hy] at hT;simp only at hT;have hyo:=ht.f y (w8 hy);have hya:=hyo.al;refine Run.zf Z Z Z ?_;refine fR Z ?_;refine Mid.call (z9Y H.toPr ds hD y.ty x.ty hyo.t hx.t) Z Z Z Z ?_;refine fM Z ?_
  have tail:∀B0:List zn,B0++(qU y at_ x.args++qu x at_ y.args)=tot->Run P n124 (⟨[],0⟩:S).nxt (z4 ⟨[],0⟩ {v:= .t (.lst (tot.map zn.enc))} r124 YJ.ret)
    [It.c c124_20,It.blk 0,It.c c124_11] {env:=[(5,.ptr 2 0),(7,.t (.str at_)),(8,.ptr 3 0),(10,.own 4 2 (List.map zn.enc (B0))),(11,.t (.int .i64 0))],s:=⟨[(2,.cells [.t (.str x.name),.t (.lst (x.args.map Input.enc)),.t (.str x.ty.name),.t (.lst (x.ty.zw.map nE)),.t (.lst (x.Zp.map Dir.enc))]),(3,.cells [.t (.str y.name),.t (.lst (y.args.map Input.enc)),.t (.str y.ty.name),.t (.lst (y.ty.zw.map nE)),.t (.lst (y.Zp.map Dir.enc))]),(4,.arr (B0).length)],5⟩}:=by
   intro B0 hB0;refine zu x.args (fun i (B:List zn)=>{env:=[(5,.ptr 2 0),(7,.t (.str at_)),(8,.ptr 3 0),(10,.own 4 2 (List.map zn.enc (B))),(11,.t (.int .i64 i))],s:=⟨[(2,.cells [.t (.str x.name),.t (.lst (x.args.map Input.enc)),.t (.str x.ty.name),.t (.lst (x.ty.zw.map nE)),.t (.lst (x.Zp.map Dir.enc))]),(3,.cells [.t (.str y.name),.t (.lst (y.args.map Input.enc)),.t (.str y.ty.name),.t (.lst (y.ty.zw.map nE)),.t (.lst (y.Zp.map Dir.enc))]),(4,.arr (B).length)],5⟩}) (fun r i B=>B++(qU y at_ r++qu x at_ y.args)=tot) 5 B0 Z hB0 Z Z Z ?_ ?_
   ·rintro B hB;simp only [qU,w1y] at hB;refine fR Z ?_;refine lM Z Z Z ?_;refine fM Z ?_;refine Run.zf Z Z (by simp) ?_;refine fR Z ?_;refine zu y.args (fun i (B:List zn)=>{env:=[(5,.ptr 2 0),(7,.t (.str at_)),(8,.ptr 3 0),(10,.own 4 2 (List.map zn.enc (B))),(14,.t (.int .i64 i))],s:=⟨[(2,.cells [.t (.str x.name),.t (.lst (x.args.map Input.enc)),.t (.str x.ty.name),.t (.lst (x.ty.zw.map nE)),.t (.lst (x.Zp.map Dir.enc))]),(3,.cells [.t (.str y.name),.t (.lst (y.args.map Input.enc)),.t (.str y.ty.name),.t (.lst (y.ty.zw.map nE)),.t (.lst (y.Zp.map Dir.enc))]),(4,.arr (B).length)],5⟩}) (fun r i B=>B++qu x at_ r=tot) 5 B Z hB Z Z Z ?_ ?_
    ·rintro C hC
     obtain rfl:C=tot:=by rw [←hC];simp [qu]
     refine fR Z ?_;refine lM Z Z Z ?_;refine fM Z ?_;refine Run.zf Z Z (by simp) ?_;refine fR Z ?_;refine Run.fin Z (z4.go ?_);exact .own Z
    ·rintro i b r C h1 hi hd hC ih;have hb:=hyo.a b (zMG h1);have hbn:=hb.nm;have hlen:=congrArg List.length hC;simp only [w0g] at hlen;refine fR Z ?_;refine lM Z Z Z ?_;refine fM Z ?_;refine Run.zj Z Z (by simp;omega) ?_;refine fR Z ?_;refine Mid.za Z Z Z h1 Z Z ?_;refine fM Z ?_;refine Mid.call (W6 H.toPr x.args hxa b.name) Z Z Z Z ?_;refine fM Z ?_;refine elG Z Z Z Z h1 Z Z ?_;refine fM Z ?_;refine caG Z Z (fun hg=>⟨_,rfl,z37 H.toPr b.ty hb.t,rfl⟩) Z Z ?_;refine fM Z ?_;refine elG Z Z Z Z h1 Z Z ?_;refine fM Z ?_;refine Run.cond Z Z (fun hc=>?_) (fun hc=>?_)
     ·have hc':zde x b=true:=hc;simp only [qu] at hC hlen;rw [w0c hc'] at hC hlen;simp only [w0b] at hlen;refine fR Z ?_;refine pu Z ?_;refine fM Z ?_;refine Mid.za Z Z Z h1 Z Z ?_;refine fM Z ?_;refine pu Z ?_;refine pu Z ?_;refine fM Z ?_;refine apM zn.enc C [(⟨22,at_++[40]++b.name++[41]⟩:zn)] Z Z Z Z Z ?_ (h1:=by first |omega|(simp;omega)|(simp;done)) (h2:=by first |omega|(simp;omega)|(simp;done));refine fM rfl ?_;refine aL rfl rfl rfl rfl rfl ?_;refine fM rfl ?_;exact zh 5 rfl (ih (C++[⟨22,at_++[40]++b.name++[41]⟩]) (by rw [←hC];simp)) rfl rfl rfl
     ·have hc':¬ zde x b=true:=by rw [show zde x b=false from hc];simp
      simp only [qu] at hC;rw [w0d hc'] at hC;refine fR Z ?_;refine aL Z Z Z Z Z ?_;refine fM Z ?_;exact zh 5 Z (ih C hC) Z Z Z
   ·rintro i a r B h1 hi hd hB ih;have ha:=hx.a a (zMG h1);have han:=ha.nm;have hlen:=congrArg List.length hB;simp only [w0g] at hlen;have hio:=zh3 hyo.a a.name;refine fR Z ?_;refine lM Z Z Z ?_;refine fM Z ?_;refine Run.zj Z Z (by simp;omega) ?_;refine fR Z ?_;refine Mid.za Z Z Z h1 Z Z ?_;refine fM Z ?_;refine Mid.call (W6 H.toPr y.args hya a.name) Z Z Z Z ?_;refine fM Z ?_;refine elG Z Z Z Z h1 Z Z ?_;refine fM Z ?_;refine caG Z Z (fun hg=>⟨_,rfl,W8 H ((zU a.name y.args).getD Input.zero).ty a.ty hio.t ha.t,rfl⟩) Z Z ?_;refine fM Z ?_;refine Run.cond Z Z (fun hc=>?_) (fun hc=>?_)
    ·have hc':ze0 y a=true:=by
      have h:=hc;rw [z2t] at h;exact h
     simp only [qU] at hB hlen;rw [w0c hc'] at hB hlen;simp only [w0b,w23] at hB hlen;refine fR Z ?_;refine pu Z ?_;refine fM Z ?_;refine Mid.za Z Z Z h1 Z Z ?_;refine fM Z ?_;refine pu Z ?_;refine pu Z ?_;refine fM Z ?_;refine apM zn.enc B [(⟨22,at_++[40]++a.name++[41]⟩:zn)] Z Z Z Z Z ?_ (h1:=by first |omega|(simp;omega)|(simp;done)) (h2:=by first |omega|(simp;omega)|(simp;done));refine fM rfl ?_;refine aL rfl rfl rfl rfl rfl ?_;refine fM rfl ?_;exact zh 5 rfl (ih (B++[⟨22,at_++[40]++a.name++[41]⟩]) (by rw [←hB];simp)) rfl rfl rfl
    ·have hc':¬ ze0 y a=true:=by
      have h:=hc;rw [z2t] at h;rw [show ze0 y a=false from h];simp
     simp only [qU] at hB;rw [w0d hc'] at hB;refine fR Z ?_;refine aL Z Z Z Z Z ?_;refine fM Z ?_;exact zh 5 Z (ih B hB) Z Z Z
  refine Run.cond Z Z (fun hs=>?_) (fun hs=>?_)
  ·have hs':¬ z9q ds y.ty x.ty=true:=by simpa using hs
   rw [w0d hs'] at hT;refine fR Z ?_;refine apN zn.enc [(⟨10,at_⟩:zn)] Z Z Z ?_ (h1:=by first |omega|(simp;omega)|(simp;done)) (h2:=by first |omega|(simp;omega)|(simp;done));refine fM rfl ?_;refine Yz 5 rfl (tail [⟨10,at_⟩] hT) rfl rfl rfl
  ·have hs':z9q ds y.ty x.ty=true:=by simpa using hs
   rw [w0c hs'] at hT;refine fR Z ?_;refine Yz 4 Z (tail [] hT) Z Z Z
theorem z8l (H:Pr13 P) (ds:List Def) (hD:Z6 ds) (t:Def) (ht:t.Ok) (hl:(zad ds t).length<=4398046511104):z6 P 95 [yT ds,t.v] ⟨[],0⟩ {v:= .t (.lst ((zad ds t).map zn.enc))}:=by
 have hil:=ht.il;unfold zad at hl⊢;generalize hT:Yc ds t [] t.implements=tot at hl;refine z6.run H.i95 H.mixed Z Z ?_;refine fR Z ?_;refine zu t.implements (fun i (B:List zn)=>{env:=[(2,.ptr 0 0),(3,.ptr 1 0),(5,.own 2 2 (List.map zn.enc (B))),(6,.t (.int .i64 i))],s:=⟨[(0,.cells [.t (.lst (ds.map Def.enc))]),(1,(TCo t)),(2,.arr (B).length)],3⟩}) (fun r i B=>B++Yc ds t (t.implements.take i) r=tot) 2 [] Z (by simpa using hT) Z Z Z ?_ ?_
 ·rintro B hB
  obtain rfl:B=tot:=by rw [←hB];simp [Yc]
  refine fR Z ?_;refine lM Z Z Z ?_;refine fM Z ?_;refine Run.zf Z Z (by simp) ?_;refine fR Z ?_;refine Run.fin Z (z4.go ?_);exact .own Z
 ·rintro i n r B h1 hi hd hB ih
  have htk:t.implements.take i++[n]=t.implements.take (i+1):=by rw [w11,h1];rfl
  have hB':B++((if z3K ds (t.implements.take i) n=0 then qo ds t ((zi n ds).getD Def.zero).fields else [(⟨z3K ds (t.implements.take i) n,t.name⟩:zn)])++Yc ds t (t.implements.take (i+1)) r)=tot:=by rw [←htk];exact hB
  have hlen:B.length+(if z3K ds (t.implements.take i) n=0 then qo ds t ((zi n ds).getD Def.zero).fields else [(⟨z3K ds (t.implements.take i) n,t.name⟩:zn)]).length<=4398046511104:=by
   have:=congrArg List.length hB';simp only [w0g] at this;omega
  have htkl:(t.implements.take i).length<=140737488355328:=by simp;omega
  have hF:=z0P hD n;refine fR Z ?_;refine lM Z Z Z ?_;refine fM Z ?_;refine Run.zj Z Z (by simp;omega) ?_;refine fR Z ?_;refine Mid.za Z Z Z h1 Z Z ?_;refine fM Z ?_;refine Mid.call (z4C H ds hD n 2 (by decide)) Z Z Z Z ?_;refine fM Z ?_;refine zgo Z Z Z Z Z ?_;refine fM Z ?_;refine elG Z Z Z Z h1 Z Z ?_;refine fM Z ?_;refine caG Z Z (fun hg=>⟨_,rfl,z5g H.toPr (t.implements.take i) htkl n,rfl⟩) Z Z ?_;refine fM Z ?_;refine Run.cond Z Z (fun h7=>?_) (fun h7=>?_)
  ·have e7:z3K ds (t.implements.take i) n=7:=by unfold z3K;rw [w0c h7]
   rw [e7] at hB' hlen;simp at hB' hlen;refine fR Z ?_;refine Run.zj Z Z Z ?_;refine fR Z ?_;refine apM zn.enc B [(⟨7,t.name⟩:zn)] Z Z Z Z Z ?_ (h1:=by first |omega|(simp;omega)|(simp;done)) (h2:=by first |omega|(simp;omega)|(simp;done));refine fM rfl ?_;refine aL rfl rfl rfl rfl rfl ?_;refine fM rfl ?_;exact zh 3 rfl (ih (B++[⟨7,t.name⟩]) (by rw [←hB'];simp)) rfl rfl rfl
  ·have e7:z3K ds (t.implements.take i) n=yA ds n 2:=by unfold z3K;rw [w0d (by rw [show (yA ds n 2==0&&decide (n∈t.implements.take i))=false from h7];simp)]
   rw [e7] at hB' hlen;refine fR Z ?_;refine Run.cond Z Z (fun he=>?_) (fun he=>?_)
   ·have he':¬ yA ds n 2=0:=by simpa using he
    rw [w0d he'] at hB' hlen;simp at hB' hlen;refine fR Z ?_;refine apM zn.enc B [(⟨yA ds n 2,t.name⟩:zn)] Z Z Z Z Z ?_ (h1:=by first |omega|(simp;omega)|(simp;done)) (h2:=by first |omega|(simp;omega)|(simp;done));refine fM rfl ?_;refine aL rfl rfl rfl rfl rfl ?_;refine fM rfl ?_;exact zh 3 rfl (ih (B++[⟨yA ds n 2,t.name⟩]) (by rw [←hB'];simp)) rfl rfl rfl
   ·have he':yA ds n 2=0:=by simpa using he
    rw [w0c he'] at hB' hlen;refine fR Z ?_;refine Mid.za Z Z Z h1 Z Z ?_;refine fM Z ?_;refine Mid.call (yh H.toPr ds hD.l n) Z Z Z Z ?_;refine fM Z ?_;generalize hf:(zi n ds).getD Def.zero=f at hF hB' hlen;have hff:=hF.fl;generalize hG:qo ds t f.fields=G at hB' hlen;refine zu f.fields (fun j (C:List zn)=>{env:=[(2,.ptr 0 0),(3,.ptr 1 0),(5,.own 2 2 (List.map zn.enc C)),(6,.t (.int .i64 i)),(8,.ptr 3 0),(10,.t (.int .i64 j))],s:=⟨[(0,.cells [.t (.lst (ds.map Def.enc))]),(1,(TCo t)),(2,.arr C.length),(3,(TCo f))],4⟩}) (fun r2 j C=>C++qo ds t r2=B++G) 4 B Z (by rw [←hG]) Z Z Z ?_ ?_
    ·rintro C hC;simp only [qo,w18] at hC;subst hC;refine fR Z ?_;refine lM Z Z Z ?_;refine fM Z ?_;refine Run.zf Z Z (by simp) ?_;refine fR Z ?_;refine aL Z Z Z Z Z ?_;refine fM Z ?_;exact zh 3 Z (ih (B++G) (by rw [←hB'];simp)) Z Z Z
    ·rintro j x r2 C g1 gi gd hC ih2;have hx:=hF.f x (zMG g1);have hln2:=congrArg List.length hC;simp only [qo,w0g] at hln2;have hcall:=zaK H ds hD t ht x hx (by omega);simp only [qo] at hC;generalize z6Y ds t x=N at hC hln2 hcall;refine fR Z ?_;refine lM Z Z Z ?_;refine fM Z ?_;refine Run.zj Z Z (by simp;omega) ?_;refine fR Z ?_;refine Mid.za Z Z Z g1 Z Z ?_;refine fM Z ?_;refine Mid.call (hcall) Z Z Z Z ?_;skip;refine apM zn.enc C N Z Z Z Z Z ?_ (h1:=by first |omega|(simp;omega)|(simp;done)) (h2:=by first |omega|(simp;omega)|(simp;done));refine fM rfl ?_;refine aL rfl rfl rfl rfl rfl ?_;refine fM rfl ?_;exact zh 4 rfl (ih2 (C++N) (by rw [←hC];simp)) rfl rfl rfl
theorem zb5 (H:Pr13 P) (ds:List Def) (hD:Z6 ds) (t:Def) (ht:t.Ok) (hl:(unL ds t [] t.members).length<=4398046511104):z6 P 96 [yT ds,t.v] ⟨[],0⟩ {v:= .t (.lst ((unL ds t [] t.members).map zn.enc))}:=by
 have hml:=ht.ml;have htn:=ht.nm;generalize hT:unL ds t [] t.members=tot at hl;refine z6.run H.i96 H.mixed Z Z ?_;refine fR Z ?_;refine zu t.members (fun i (B:List zn)=>{env:=[(2,.ptr 0 0),(3,.ptr 1 0),(5,.own 2 2 (List.map zn.enc (B))),(6,.t (.int .i64 i))],s:=⟨[(0,.cells [.t (.lst (ds.map Def.enc))]),(1,(TCo t)),(2,.arr (B).length)],3⟩}) (fun r i B=>B++unL ds t (t.members.take i) r=tot) 2 [] Z (by simpa using hT) Z Z Z ?_ ?_
 ·rintro B hB
  obtain rfl:B=tot:=by rw [←hB];simp [unL]
  refine fR Z ?_;refine lM Z Z Z ?_;refine fM Z ?_;refine Run.zf Z Z (by simp) ?_;refine fR Z ?_;refine Run.fin Z (z4.go ?_);exact .own Z
 ·rintro i m r B h1 hi hd hB ih;have hm:=ht.m m (zMG h1);have hmn:=hm.nm
  have htk:t.members.take i++[m]=t.members.take (i+1):=by rw [w11,h1];rfl
  simp only [unL,htk] at hB;have hlen:=congrArg List.length hB;simp only [w0g] at hlen
  have htkl:(t.members.take i).length<=140737488355328:=by simp;omega
  refine fR Z ?_;refine lM Z Z Z ?_;refine fM Z ?_;refine Run.zj Z Z (by simp;omega) ?_;refine fR Z ?_;refine Mid.za Z Z Z h1 Z Z ?_;refine fM Z ?_;refine Mid.call (z4C H ds hD m.name 1 (by decide)) Z Z Z Z ?_;refine fM Z ?_;refine zgo Z Z Z Z Z ?_;refine fM Z ?_;refine caG Z Z (fun hg=>⟨_,rfl,z4P H.toPr ⟨0,[],[],[],[],t.members.take i,[]⟩ htkl m.name,rfl⟩) Z Z ?_;refine fM Z ?_;refine Run.cond Z Z (fun h7=>?_) (fun h7=>?_)
  ·have e7:unE ds (t.members.take i) m=7:=by unfold unE;rw [w0c h7]
   rw [e7] at hB hlen;simp at hB hlen;refine fR Z ?_;refine Run.zj Z Z Z ?_;refine fR Z ?_;refine pu Z ?_;refine fM Z ?_;refine pu Z ?_;refine fM Z ?_;refine apM zn.enc B [(⟨7,t.name++[46]++m.name⟩:zn)] Z Z Z Z Z ?_ (h1:=by first |omega|(simp;omega)|(simp;done)) (h2:=by first |omega|(simp;omega)|(simp;done));refine fM rfl ?_;refine aL rfl rfl rfl rfl rfl ?_;refine fM rfl ?_;exact zh 3 rfl (ih (B++[⟨7,t.name++[46]++m.name⟩]) (by rw [←hB];simp)) rfl rfl rfl
  ·have e7:unE ds (t.members.take i) m=yA ds m.name 1:=by unfold unE;rw [w0d (by rw [show (yA ds m.name 1==0&&W4 (t.members.take i) m.name)=false from h7];simp)]
   rw [e7] at hB hlen;refine fR Z ?_;refine Run.cond Z Z (fun he=>?_) (fun he=>?_)
   ·have he':¬ yA ds m.name 1=0:=by simpa using he
    rw [w0d he'] at hB hlen;simp at hB hlen;refine fR Z ?_;refine pu Z ?_;refine fM Z ?_;refine pu Z ?_;refine fM Z ?_;refine apM zn.enc B [(⟨yA ds m.name 1,t.name++[46]++m.name⟩:zn)] Z Z Z Z Z ?_ (h1:=by first |omega|(simp;omega)|(simp;done)) (h2:=by first |omega|(simp;omega)|(simp;done));refine fM rfl ?_;refine aL rfl rfl rfl rfl rfl ?_;refine fM rfl ?_;exact zh 3 rfl (ih (B++[⟨yA ds m.name 1,t.name++[46]++m.name⟩]) (by rw [←hB];simp)) rfl rfl rfl
   ·have he':yA ds m.name 1=0:=by simpa using he
    rw [w0c he'] at hB hlen;refine fR Z ?_;refine aL Z Z Z Z Z ?_;refine fM Z ?_;exact zh 3 Z (ih B (by rw [←hB];simp)) Z Z Z
theorem za7 (H:Pr13 P) (ds:List Def) (hD:Z6 ds) (hl:(WU ds).length<=4398046511104):z6 P 64 [yT ds] ⟨[],0⟩ {v:= .t (.lst ((WU ds).map zn.enc))}:=by
 have hdl:=hD.l;unfold WU at hl⊢;generalize hT:Wm ds ds=tot at hl;refine z6.run H.i64 H.mixed Z Z ?_;refine fR Z ?_;refine zu ds (fun i (B:List zn)=>{env:=[(1,.ptr 0 0),(3,.own 1 2 (List.map zn.enc B)),(4,.t (.int .i64 i))],s:=⟨[(0,.cells [.t (.lst (ds.map Def.enc))]),(1,.arr B.length)],2⟩}) (fun r i B=>B++Wm ds r=tot) 1 [] Z (by simpa using hT) Z Z Z ?_ ?_
 ·rintro B hB
  obtain rfl:B=tot:=by rw [←hB];simp [Wm]
  refine fR Z ?_;refine lM Z Z Z ?_;refine fM Z ?_;refine Run.zf Z Z (by simp) ?_;refine fR Z ?_;refine Run.fin Z (z4.go ?_);exact .own Z
 ·rintro i t r B h1 hi hd hB ih;have ht:=hD.d t (zMG h1);have hlen:=congrArg List.length hB;simp only [w0g] at hlen;refine fR Z ?_;refine lM Z Z Z ?_;refine fM Z ?_;refine Run.zj Z Z (by simp;omega) ?_;refine fR Z ?_;refine Mid.za Z Z Z h1 Z Z ?_;refine fM Z ?_;refine Run.cond Z Z (fun hk=>?_) (fun hk=>?_)
  ·have hk':t.kind=1:=by simpa using hk
   simp only [Wm] at hB hlen;rw [w0c hk'] at hB hlen;simp only [w0g] at hlen;have hcall:=z8l H ds hD t ht (by omega);generalize zad ds t=N at hB hlen hcall;refine fR Z ?_;refine Mid.za Z Z Z h1 Z Z ?_;refine fM Z ?_;refine Mid.call (hcall) Z Z Z Z ?_;skip;refine apM zn.enc B N Z Z Z Z Z ?_ (h1:=by first |omega|(simp;omega)|(simp;done)) (h2:=by first |omega|(simp;omega)|(simp;done));refine fM rfl ?_;refine aL rfl rfl rfl rfl rfl ?_;refine fM rfl ?_;exact zh 2 rfl (ih (B++N) (by rw [←hB];simp)) rfl rfl rfl
  ·have hk':¬ t.kind=1:=by simpa using hk
   simp only [Wm] at hB hlen;rw [w0d hk'] at hB hlen;simp only [w0g] at hlen;refine fR Z ?_;refine Run.cond Z Z (fun hk3=>?_) (fun hk3=>?_)
   ·have hk3':t.kind=3:=by simpa using hk3
    rw [w0c hk3'] at hB hlen;have hcall:=zb5 H ds hD t ht (by omega);generalize unL ds t [] t.members=N at hB hlen hcall;refine fR Z ?_;refine Mid.za Z Z Z h1 Z Z ?_;refine fM Z ?_;refine Mid.call (hcall) Z Z Z Z ?_;skip;refine apM zn.enc B N Z Z Z Z Z ?_ (h1:=by first |omega|(simp;omega)|(simp;done)) (h2:=by first |omega|(simp;omega)|(simp;done));refine fM rfl ?_;refine aL rfl rfl rfl rfl rfl ?_;refine fM rfl ?_;exact zh 2 rfl (ih (B++N) (by rw [←hB];simp)) rfl rfl rfl
   ·have hk3':¬ t.kind=3:=by simpa using hk3
    rw [w0d hk3'] at hB;refine fR Z ?_;refine aL Z Z Z Z Z ?_;refine fM Z ?_;exact zh 2 Z (ih B (by rw [←hB];simp)) Z Z Z
end Go.GB.C11
namespace Go.GB
open Go.RowKit
def z1u:List Sh:=[.int .i64,.int .i64,.str,.num 0,.lst 16 [.str]]
def zcL:List Sh:= .str::z1u
def z45:List Sh:=[.str,.lst 96 zcL]
def z9l:List Sh:=[.str,.lst 8 [.int .i64]]
def z2c:List Sh:=[.str]++z9l++[.bool]++z1u++[.lst 40 z45]
def z8Z:List Sh:=[.str,.lst 168 z2c]++z9l++[.lst 40 z45]
def z7a:List Sh:=[.str,.lst 40 z45]
def zeA:List Sh:=[.int .i64,.str,.lst 16 [.str],.lst 40 z45,.lst 104 z8Z,.lst 40 z7a,.lst 168 z2c]
def zeI:List Sh:=[.lst 144 zeA]
def z5x:List Sh:=[.str,.str,.str,.lst 96 zcL]++z9l++[.str,.int .i64,.num 1]
def YA:Nat->T->Prop
 |0,x=>∃l:List Val,x= .lst (l.map Val.enc)/\l.length*80<=B47/\∀v∈l,v.Ok
 |_,x=>∃l:List zg,x= .lst (l.map zg.enc)/\l.length*160<=B47/\∀p∈l,p.Ok/\p.on.length<=maxLen
theorem ZJ:reachBytes<=140737488355328:=by decide
theorem Qj {Y:Nat->T->Prop} {x:T} {b:Nat} (h:(Sh.lst b [.str]).ok Y x):∃l:List Str,x= .lst (l.map sE)/\l.length*b<=reachBytes/\∀s∈l,s.length<=reachBytes:=by
 obtain ⟨xs,rfl,h1,_,h2⟩:=h
 obtain ⟨l,rfl,h3⟩:=yI (f:=sE) (Q:=fun s=>s.length<=reachBytes) xs fun c hc=>by
  obtain ⟨x,r,rfl,⟨s,rfl,hs⟩,h⟩:=Sh.zC (h2 c hc);obtain rfl:=Sh.yW h;exact ⟨s,rfl,hs⟩
 exact ⟨l,rfl,by simpa using h1,h3⟩
theorem zeu {Y:Nat->T->Prop} {x:T} {b:Nat} (h:(Sh.lst b [.int .i64]).ok Y x):∃l:List Int,x= .lst (l.map nE)/\l.length*b<=reachBytes:=by
 obtain ⟨xs,rfl,h1,_,h2⟩:=h
 obtain ⟨l,rfl,h3⟩:=yI (f:=nE) (Q:=fun _=>True) xs fun c hc=>by
  obtain ⟨x,r,rfl,⟨s,rfl,hs⟩,h⟩:=Sh.zC (h2 c hc);obtain rfl:=Sh.yW h;exact ⟨s,rfl,trivial⟩
 exact ⟨l,rfl,by simpa using h1⟩
theorem wI {α:Type} {f:α->List T} {Q:α->Prop} {Y:Nat->T->Prop} {x:T} {b:Nat} {sh:List Sh} (hf:∀c,Sh.oks Y sh c->∃a,c=f a/\Q a) (h:(Sh.lst b sh).ok Y x):∃l:List α,x= .lst (l.map f)/\l.length*b<=reachBytes/\l.length<=maxLen/\∀a∈l,Q a:=by
 obtain ⟨xs,rfl,h1,h0,h2⟩:=h;obtain ⟨l,rfl,h3⟩:=yI (f:=f) (Q:=Q) xs fun c hc=>hf c (h2 c hc)
 exact ⟨l,rfl,by simpa using h1,by simpa using h0,h3⟩
theorem z7Z {r:List Sh} {c:List T} (h:Sh.oks YA (z1u++r) c):∃(v:Val) (c':List T),c=v.cs++c'/\v.Ok/\Sh.oks YA r c':=by
 obtain ⟨x1,c,rfl,⟨k,rfl,_⟩,g1⟩:=Sh.zC h;obtain ⟨x2,c,rfl,⟨i,rfl,_⟩,g2⟩:=Sh.zC g1;obtain ⟨x3,c,rfl,⟨t,rfl,ht⟩,g3⟩:=Sh.zC g2;obtain ⟨x4,c,rfl,⟨its,rfl,hi1,hi2⟩,g4⟩:=Sh.zC g3;obtain ⟨x5,c,rfl,hk,g5⟩:=Sh.zC g4;obtain ⟨ks,rfl,hk1,hk2⟩:=Qj hk;have:=ZJ
 refine ⟨.mk k i t its ks,c,rfl,.mk hi1 (by unfold B47;omega) hi2 (by omega) (fun x hx=>by have:=hk2 x hx;omega),g5⟩
theorem zdl {c:List T} (h:Sh.oks YA z1u c):∃v:Val,c=v.enc/\v.Ok:=by
 obtain ⟨v,c',rfl,h1,h2⟩:=z7Z (r:=[]) (by simpa using h);obtain rfl:=Sh.yW h2
 exact ⟨v,by rw [Val.zx,w18],h1⟩
theorem zbc {c:List T} (h:Sh.oks YA zcL c):∃a:Arg,c=a.enc/\a.Ok:=by
 obtain ⟨x,c,rfl,⟨n,rfl,_⟩,g1⟩:=Sh.zC h;obtain ⟨v,c',rfl,h1,h2⟩:=z7Z (r:=[]) (by simpa using g1);obtain rfl:=Sh.yW h2
 exact ⟨⟨n,v⟩,by simp [Arg.enc,Val.cs],h1⟩
theorem zfS {c:List T} (h:Sh.oks YA z45 c):∃a:Dir,c=a.enc/\a.Ok:=by
 have:=ZJ;obtain ⟨x,c,rfl,⟨n,rfl,hn⟩,g1⟩:=Sh.zC h;obtain ⟨x,c,rfl,hx,g2⟩:=Sh.zC g1;obtain rfl:=Sh.yW g2;obtain ⟨l,rfl,h1,_,h2⟩:=wI (fun c hc=>zbc hc) hx
 exact ⟨⟨n,l⟩,rfl,⟨by show l.length<=_;omega,h2,by show n.length<=_;omega⟩⟩
theorem z2d {b:Nat} (hb:0<b) {x:T} (h:(Sh.lst b z45).ok YA x):∃l:List Dir,x= .lst (l.map Dir.enc)/\l.length<=140737488355328/\∀d∈l,d.Ok:=by
 have:=ZJ;obtain ⟨l,rfl,h1,_,h2⟩:=wI (fun c hc=>zfS hc) h;refine ⟨l,rfl,?_,h2⟩;have:l.length<=l.length*b:=Nat.le_mul_of_pos_right _ hb;omega
theorem z7B {r:List Sh} {c:List T} (h:Sh.oks YA (z9l++r) c):∃(v:Ref) (c':List T),c= .str v.name:: .lst (v.zw.map nE)::c'/\v.Ok/\Sh.oks YA r c':=by
 have:=ZJ;obtain ⟨x1,c,rfl,⟨n,rfl,hn⟩,g1⟩:=Sh.zC h;obtain ⟨x5,c,rfl,hk,g2⟩:=Sh.zC g1;obtain ⟨ks,rfl,hk1⟩:=zeu hk
 exact ⟨⟨n,ks⟩,c,rfl,⟨by show ks.length*8<=_;omega,by show n.length<=_;omega⟩,g2⟩
theorem zcw {c:List T} (h:Sh.oks YA z2c c):∃a:Input,c=a.enc/\a.Ok:=by
 have:=ZJ;obtain ⟨x,c,rfl,⟨n,rfl,hn⟩,g1⟩:=Sh.zC h;obtain ⟨t,c,rfl,ht,g2⟩:=z7B g1;obtain ⟨x,c,rfl,⟨b,rfl⟩,g3⟩:=Sh.zC g2;obtain ⟨v,c,rfl,hv,g4⟩:=z7Z g3;obtain ⟨x,c,rfl,hx,g5⟩:=Sh.zC g4;obtain rfl:=Sh.yW g5;obtain ⟨l,rfl,h1,h2⟩:=z2d (by decide) hx
 exact ⟨⟨n,t,b,v,l⟩,by simp [Input.enc,Val.cs],⟨ht,hv,h1,h2,by show n.length<=_;omega⟩⟩
theorem z4h {x:T} (h:(Sh.lst 168 z2c).ok YA x):∃l:List Input,x= .lst (l.map Input.enc)/\l.length<=140737488355328/\∀d∈l,d.Ok:=by
 have:=ZJ;obtain ⟨l,rfl,h1,_,h2⟩:=wI (fun c hc=>zcw hc) h
 exact ⟨l,rfl,by omega,h2⟩
theorem zbv {c:List T} (h:Sh.oks YA z8Z c):∃a:Field,c=a.enc/\a.Ok:=by
 have:=ZJ;obtain ⟨x,c,rfl,⟨n,rfl,hn⟩,g1⟩:=Sh.zC h;obtain ⟨x,c,rfl,hx,g2⟩:=Sh.zC g1;obtain ⟨ins,rfl,i1,i2⟩:=z4h hx;obtain ⟨t,c,rfl,ht,g3⟩:=z7B g2;obtain ⟨x,c,rfl,hx,g4⟩:=Sh.zC g3;obtain rfl:=Sh.yW g4;obtain ⟨l,rfl,h1,h2⟩:=z2d (by decide) hx
 exact ⟨⟨n,ins,t,l⟩,rfl,⟨i1,i2,ht,h1,h2,by show n.length<=_;omega⟩⟩
theorem zaJ {c:List T} (h:Sh.oks YA z7a c):∃a:ZA,c=a.enc/\a.Ok:=by
 have:=ZJ;obtain ⟨x,c,rfl,⟨n,rfl,hn⟩,g1⟩:=Sh.zC h;obtain ⟨x,c,rfl,hx,g2⟩:=Sh.zC g1;obtain rfl:=Sh.yW g2;obtain ⟨l,rfl,h1,h2⟩:=z2d (by decide) hx
 exact ⟨⟨n,l⟩,rfl,⟨h1,h2,by show n.length<=_;omega⟩⟩
theorem zfV {c:List T} (h:Sh.oks YA zeA c):∃a:Def,c=a.enc/\a.Ok:=by
 have:=ZJ;obtain ⟨x,c,rfl,⟨k,rfl,_⟩,g1⟩:=Sh.zC h;obtain ⟨x,c,rfl,⟨n,rfl,hn⟩,g2⟩:=Sh.zC g1;obtain ⟨x,c,rfl,hx,g3⟩:=Sh.zC g2;obtain ⟨im,rfl,a1,a2⟩:=Qj hx;obtain ⟨x,c,rfl,hx,g4⟩:=Sh.zC g3;obtain ⟨ds,rfl,b1,b2⟩:=z2d (by decide) hx;obtain ⟨x,c,rfl,hx,g5⟩:=Sh.zC g4;obtain ⟨fs,rfl,c1,_,c2⟩:=wI (fun c hc=>zbv hc) hx;obtain ⟨x,c,rfl,hx,g6⟩:=Sh.zC g5;obtain ⟨ms,rfl,d1,_,d2⟩:=wI (fun c hc=>zaJ hc) hx;obtain ⟨x,c,rfl,hx,g7⟩:=Sh.zC g6;obtain ⟨is,rfl,e1,e2⟩:=z4h hx;obtain rfl:=Sh.yW g7
 exact ⟨⟨k,n,im,ds,fs,ms,is⟩,rfl,⟨by show im.length<=_;omega,b1,b2,by show fs.length<=_;omega,c2,by show ms.length<=_;omega,d2,e1,e2,by show n.length<=_;omega,fun y hy=>by have:=a2 y hy;omega⟩⟩
theorem zfe {r:List Sh} {c:List T} (h:Sh.oks YA (zeI++r) c):∃(l:List Def) (c':List T),c= .lst (l.map Def.enc)::c'/\Z6 l/\Sh.oks YA r c':=by
 have:=ZJ;obtain ⟨x,c,rfl,hx,g1⟩:=Sh.zC h;obtain ⟨l,rfl,h1,_,h2⟩:=wI (fun c hc=>zfV hc) hx
 exact ⟨l,c,rfl,⟨by omega,h2,by omega⟩,g1⟩
theorem ze7 {c:List T} (h:Sh.oks YA z5x c):∃p:zg,c=p.enc/\p.Ok/\p.on.length<=maxLen:=by
 have:=ZJ;obtain ⟨x,c,rfl,⟨k,rfl,_⟩,g1⟩:=Sh.zC h;obtain ⟨x,c,rfl,⟨o,rfl,ho⟩,g2⟩:=Sh.zC g1;obtain ⟨x,c,rfl,⟨n,rfl,_⟩,g3⟩:=Sh.zC g2;obtain ⟨x,c,rfl,hx,g4⟩:=Sh.zC g3;obtain ⟨as,rfl,a1,_,a2⟩:=wI (fun c hc=>zbc hc) hx;obtain ⟨t,c,rfl,ht,g5⟩:=z7B g4;obtain ⟨x,c,rfl,⟨lb,rfl,_⟩,g6⟩:=Sh.zC g5;obtain ⟨x,c,rfl,⟨i,rfl,_⟩,g7⟩:=Sh.zC g6;obtain ⟨x,c,rfl,⟨ps,rfl,p1,p2⟩,g8⟩:=Sh.zC g7;obtain rfl:=Sh.yW g8
 exact ⟨.mk k o n as t lb i ps,by rw [zg.zx];rfl,.mk (by unfold B47;omega) a2 ht p1 (fun x hx=>(p2 x hx).1),w0u ho (by decide)⟩
def spV (vt:TypeId) (e:TypeId):Option Nat:=if e=vt then some 0 else none
def spA (vt pt:TypeId) (e:TypeId):Option Nat:=if e=vt then some 0 else if e=pt then some 1 else none
theorem zb7 {P:Program} {vt:TypeId} (hb:P.bytesOf vt=80) (hs:z0o P (spV vt) 6 vt=some z1u):∀(n:Nat) (c:List T),WT P n vt c->∃v:Val,c=v.enc/\v.Ok:=by
 intro n
 induction n using Nat.strongRecOn with
 |_ n ih=>
  intro c h;refine zdl (Qg (Y:=YA) n 6 vt z1u c (fun e i k xs hk he hr hl hc=>?_) hs h);unfold spV at he;split at he
  ·rename_i e1;subst e1;simp only [w00] at he;subst he;obtain ⟨l,rfl,h3⟩:=yI (f:=Val.enc) (Q:=Val.Ok) xs fun c hcm=>ih k hk c (hc c hcm);have:=ZJ;rw [hb] at hr
   exact ⟨l,rfl,by unfold B47;simp at hr;omega,h3⟩
  ·cases he
theorem zdr {P:Program} {vt pt:TypeId} (hb:P.bytesOf vt=80) (hs:z0o P (spV vt) 6 vt=some z1u) (hbp:P.bytesOf pt=160) (hsp:z0o P (spA vt pt) 6 pt=some z5x):∀(n:Nat) (c:List T),WT P n pt c->∃p:zg,c=p.enc/\p.Ok/\p.on.length<=maxLen:=by
 have hv:=zb7 hb hs;intro n
 induction n using Nat.strongRecOn with
 |_ n ih=>
  intro c h;refine ze7 (Qg (Y:=YA) n 6 pt z5x c (fun e i k xs hk he hr hl hc=>?_) hsp h);have:=ZJ;unfold spA at he;split at he
  ·rename_i e1;subst e1;simp only [w00] at he;subst he;obtain ⟨l,rfl,h3⟩:=yI (f:=Val.enc) (Q:=Val.Ok) xs fun c hcm=>hv k c (hc c hcm);rw [hb] at hr
   exact ⟨l,rfl,by unfold B47;simp at hr;omega,h3⟩
  ·split at he
   ·rename_i _ e1;subst e1;simp only [w00] at he;subst he;obtain ⟨l,rfl,h3⟩:=yI (f:=zg.enc) (Q:=fun p=>p.Ok/\p.on.length<=maxLen) xs fun c hcm=>ih k hk c (hc c hcm);rw [hbp] at hr
    exact ⟨l,rfl,by unfold B47;simp at hr;omega,h3⟩
   ·cases he
theorem zh2 {P:Program} {vt pt:TypeId} (hb:P.bytesOf vt=80) (hs:z0o P (spV vt) 6 vt=some z1u) (hbp:P.bytesOf pt=160) (hsp:z0o P (spA vt pt) 6 pt=some z5x):
  ∀e i n xs,spA vt pt e=some i->xs.length*P.bytesOf e<=reachBytes->xs.length<=maxLen->(∀c∈xs,WT P n e c)->YA i (.lst xs):=by
 have hv:=zb7 hb hs;have hp:=zdr hb hs hbp hsp;intro e i k xs he hr hl hc;have:=ZJ;unfold spA at he;split at he
 ·rename_i e1;subst e1;simp only [w00] at he;subst he;obtain ⟨l,rfl,h3⟩:=yI (f:=Val.enc) (Q:=Val.Ok) xs fun c hcm=>hv k c (hc c hcm);rw [hb] at hr
  exact ⟨l,rfl,by unfold B47;simp at hr;omega,h3⟩
 ·split at he
  ·rename_i _ e1;subst e1;simp only [w00] at he;subst he;obtain ⟨l,rfl,h3⟩:=yI (f:=zg.enc) (Q:=fun p=>p.Ok/\p.on.length<=maxLen) xs fun c hcm=>hp k c (hc c hcm);rw [hbp] at hr
   exact ⟨l,rfl,by unfold B47;simp at hr;omega,h3⟩
  ·cases he
end Go.GB
namespace Go.GB.C18
open Go.GB Go.GB.C11
structure zaI (P:Program):Prop extends Pr13 P where
 i144:z9 P 144=some (n144,c144.bare,r144)
 i147:z9 P 147=some (n147,c147.bare,r147)
 i31:z9 P 31=some (n31,c31.bare,r31)
 i70:z9 P 70=some (n70,c70.bare,r70)
 i155:z9 P 155=some (n155,c155.bare,r155)
 i55:z9 P 55=some (n55,c55.bare,r55)
 i76:z9 P 76=some (n76,c76.bare,r76)
 i77:z9 P 77=some (n77,c77.bare,r77)
 i78:z9 P 78=some (n78,c78.bare,r78)
variable {P:Program}
def z10 (P:Program) (v:Val):Prop:=z6 P 147 [v.v] ⟨[],0⟩ {v:=v.v}
theorem z5D (H:zaI P) (l:List Val) (hl:l.length*80<=140737488355328) (hrec:∀x,x∈l->z10 P x):z6 P 155 [.t (.lst (l.map Val.enc))] ⟨[],0⟩ {v:= .t (.lst (l.map Val.enc))}:=by
 refine z6.run H.i155 H.mixed Z Z ?_;refine fR Z ?_;refine zu l (fun i (B:List Val)=>{env:=[(0,.t (.lst (l.map Val.enc))),(3,.own 0 5 (B.map Val.enc)),(4,.t (.int .i64 i))],s:=⟨[(0,.arr B.length)],1⟩}) (fun r i B=>B.length=i/\B++r=l) 0 [] Z ⟨rfl,rfl⟩ Z Z Z ?_ ?_
 ·rintro B ⟨hBl,hB⟩
  have e:B=l:=by rw [←hB];simp
  refine fR Z ?_;refine lM Z Z Z ?_;refine fM Z ?_;refine Run.zf Z Z (by simp) ?_;refine fR Z ?_;refine Run.fin Z (z4.go ?_);exact .own (by rw [e])
 ·rintro i x r B h1 hi hd ⟨hBl,hB⟩ ih;have hBl':B.length=i:=hBl;have hc:=hrec x (zMG h1);unfold z10 at hc;refine fR Z ?_;refine lM Z Z Z ?_;refine fM Z ?_;refine Run.zj Z Z (by simp;omega) ?_;refine fR Z ?_;refine Mid.Z2 (Val.zx x) Z Z Z h1 Z Z ?_;refine fM Z ?_;refine Mid.call (hc) Z Z Z Z ?_;refine fM Z ?_;refine apM Val.enc B [x] Z (congrArg (fun c=>some (T.lst [c])) (Val.zx x).symm) Z Z Z ?_ (hl:=fun x=>(congrArg List.length (Val.zx x)).trans Z);refine fM Z ?_;refine aL Z Z Z Z Z ?_;refine fM Z ?_;exact zh 1 Z (ih (B++[x]) ⟨by simp;omega,by rw [←hB];simp⟩) rfl rfl rfl
theorem z7P (H:zaI P) (v:Val) (hv:v.Ok) (hrec:∀x,x∈v.items->z10 P x):z10 P v:=by
 have hil:=hv.il;have hkl:=hv.kl;unfold z10;refine z6.run H.i147 H.mixed Z Z ?_;refine fR Z ?_;refine Mid.call (z5D H v.items hil hrec) Z Z Z Z ?_;refine fM Z ?_;refine apN sE v.keys Z Z Z ?_ (h1:=by first |omega|(simp;omega)|(simp;done)) (h2:=by first |omega|(simp;omega)|(simp;done));refine fM rfl ?_;refine Run.fin rfl (z4.go ?_);exact .agg (.cons (.t rfl) (.cons (.t rfl) (.cons (.t rfl) (.cons (.t rfl) (.cons (.own rfl) .nil)))))
theorem z4K (H:zaI P):∀(k:Nat) (v:Val),SizeOf.sizeOf v<=k->v.Ok->z10 P v
 |0,v,h,_=>by cases v;simp at h
 |k+1,v,h,hv=>z7P H v hv fun x hx=>z4K H k x (by have:=Val.yE v hx;omega) (hv.it x hx)
theorem zcV (H:zaI P) (v:Val) (hv:v.Ok):z6 P 147 [v.v] ⟨[],0⟩ {v:=v.v}:=z4K H _ v (w07 _) hv
theorem zbf {m:Nat} {s:S}:LeR m s (.agg [.t (.int .i64 0),.t (.int .i64 0),.t (.str []),.zJ,.zJ]) Val.zero.v:= .agg (.cons (.t rfl) (.cons (.t rfl) (.cons (.t rfl) (.cons (.nil rfl) (.cons (.nil rfl) .nil)))))
def z3L (k:Str):List Str->Option Nat
 |[]=>none
 |x::r=>if x=k then some 0 else (z3L k r).map (· +1)
def Wl (v:Val) (k:Str):Option Val:=if v.kind=6 then match z3L k v.keys with|some j=>v.items[j]?|none=>none else none
theorem z9I {v:Val} (hv:v.Ok) {k:Str} {x:Val} (h:Wl v k=some x):x.Ok:=by
 unfold Wl at h;split at h
 ·split at h
  ·exact hv.it x (zMG h)
  ·cases h
 ·cases h
theorem z5z (H:zaI P) (v:Val) (hv:v.Ok) (k:Str):z6 P 144 [v.v,.t (.str k)] ⟨[],0⟩ {v:= .tup [((Wl v k).getD Val.zero).v,.t (.bool (Wl v k).isSome)]}:=by
 have hkl:=hv.kl;have hil:=hv.il;refine z6.run H.i144 H.mixed Z Z ?_;refine fR Z ?_;by_cases hk:v.kind=6
 ·have hg:Wl v k=match z3L k v.keys with|some j=>v.items[j]?|none=>none:=by unfold Wl;rw [w0c hk]
  refine Run.zf Z Z (by simp [hk]) ?_;refine fR Z ?_
  refine zu v.keys (fun i (_:Unit)=>{env:=[(1,.t (.str k)),(2,.ptr 0 0),(4,.ptr 1 0),(6,.t (.int .i64 i))],s:=⟨[(0,((VCo v))),(1,.cells [.t (.int .i64 0),.t (.int .i64 0),.t (.str []),.zJ,.zJ])],2⟩}) (fun r i _=>z3L k v.keys=(z3L k r).map (· +i)) 2 () Z (by cases z3L k v.keys<;>rfl) Z Z Z ?_ ?_
  ·rintro _ hinv;rw [hg,hinv];refine fR Z ?_;refine lM Z Z Z ?_;refine fM Z ?_;refine Run.zf Z Z (by simp) ?_;refine fR Z ?_;refine Run.fin Z (z4.go ?_);exact .wx zbf (.t Z)
  ·rintro i x r _ h1 hi hd hinv ih;refine fR Z ?_;refine lM Z Z Z ?_;refine fM Z ?_;refine Run.zj Z Z (by simp;omega) ?_;refine fR Z ?_;refine Mid.za Z Z Z h1 Z Z ?_;refine fM Z ?_;refine Run.cond Z Z (fun hc=>?_) (fun hc=>?_)
   ·have hx:x=k:=by simpa using hc
    have hj:z3L k v.keys=some i:=by rw [hinv];simp [z3L,hx]
    rw [hg,hj];refine fR Z ?_;refine lM Z Z Z ?_;refine fM Z ?_;by_cases hlt:i<v.items.length
    ·obtain ⟨y,hy⟩:∃y,v.items[i]?=some y:=⟨v.items[i],by simp [hlt]⟩
     refine Run.zf Z Z (by simp;omega) ?_;simp only [hy,w2q,Option.isSome_some];refine fR Z ?_;refine Mid.Z2 (Val.zx y) Z Z Z hy Z Z ?_;refine fM Z ?_;refine Mid.call (zcV H y (hv.it y (zMG hy))) Z Z Z Z ?_;refine fM Z ?_;refine Run.fin Z (z4.go ?_);exact .wx (.le (.same Z)) (.t Z)
    ·have hy:v.items[i]?=none:=w12 (by omega);refine Run.zj Z Z (by simp;omega) ?_;simp only [hy,Option.getD_none,Option.isSome_none];refine fR Z ?_;refine Run.fin Z (z4.go ?_);exact .wx zbf (.t Z)
   ·have hx:¬ x=k:=by simpa using hc
    refine fR Z ?_;refine aL Z Z Z Z Z ?_;refine fM Z ?_
    exact zh 2 Z (ih () (by rw [hinv];simp only [z3L,w0d hx];cases z3L k r with|none=>rfl|some j=>simp;omega)) Z Z Z
 ·have hg:Wl v k=none:=by unfold Wl;rw [w0d hk]
  rw [hg];refine Run.zj Z Z (by simp [hk]) ?_;refine fR Z ?_;refine Run.fin Z (z4.go ?_);exact .wx zbf (.t Z)
end Go.GB.C18
namespace Go.GB.C29
open Go.GB Go.GB.C11 Go.GB.C18
structure PrW (P:Program):Prop where
 p18:zaI P
 mixed:P.follows .mixedOrders=true
 i36:z9 P 36=some (n36,c36.bare,r36)
 i65:z9 P 65=some (n65,c65.bare,r65)
 i97:z9 P 97=some (n97,c97.bare,r97)
 i125:z9 P 125=some (n125,c125.bare,r125)
 i127:z9 P 127=some (n127,c127.bare,r127)
 i137:z9 P 137=some (n137,c137.bare,r137)
 i138:z9 P 138=some (n138,c138.bare,r138)
 i145:z9 P 145=some (n145,c145.bare,r145)
 i148:z9 P 148=some (n148,c148.bare,r148)
 i150:z9 P 150=some (n150,c150.bare,r150)
 i151:z9 P 151=some (n151,c151.bare,r151)
 i152:z9 P 152=some (n152,c152.bare,r152)
 i153:z9 P 153=some (n153,c153.bare,r153)
 i154:z9 P 154=some (n154,c154.bare,r154)
 i156:z9 P 156=some (n156,c156.bare,r156)
 i157:z9 P 157=some (n157,c157.bare,r157)
 i158:z9 P 158=some (n158,c158.bare,r158)
 i159:z9 P 159=some (n159,c159.bare,r159)
section
variable {P:Program} {n m:Nat} {R:St->Prop} {draw:Bool} {all:List AO} {after:List (List Nat)} {live:List Nat} {k:List It} {b:Nat} {fl:List (Bool×Bool)} {ops:List AO} {st st':St} {d:Option Nat}
end
variable {P:Program}
def z7o (n:Int):Str:=[UInt8.ofNat (IntKind.u8.wrap (IntKind.i64.wrap (48 - n.tmod 10))).toNat]
def wB:Nat->Int->Str
 |0,_=>[]
 |k+1,n=>if n>-10 then z7o n else wB k (IntKind.i64.wrap (n.tdiv 10))++z7o n
def z5C (n:Int):Str:=if n<0 then [45]++wB (n.natAbs+1) n else wB (n.natAbs+1+9223372036854775808) (IntKind.i64.wrap (0 - n))
theorem zcp {n:Int} (hn:n<=-10):n.tdiv 10=-((-n)/10):=by
 have:=Int.neg_tdiv (-n) 10;rw [Int.neg_neg] at this;rw [this,Int.tdiv_eq_ediv_of_nonneg (by omega)]
theorem zcG (x:Int):-9223372036854775808<=IntKind.i64.wrap x/\IntKind.i64.wrap x<=9223372036854775807:=by rw [IntKind.wrap_i64];omega
theorem z6i:∀(k:Nat) (n:Int) (j:Nat),-9223372036854775808<=n->n.natAbs<10 ^ (j+1)->(wB k n).length<=j+1
 |0,n,j,_,_=>by simp [wB]
 |k+1,n,j,h1,h2=>by
  simp only [wB];split
  ·simp [z7o]
  ·rename_i h
   have hn:n<=-10:=by omega
   have e:=zcp hn
   cases j with
   |zero=>simp at h2;omega
   |succ j=>
    rw [wrap64 (by omega) (by omega)]
    have h3:n.natAbs<10*10 ^ (j+1):=by rw [Nat.pow_succ] at h2;omega
    have:=z6i k (n.tdiv 10) j (by omega) (by rw [e];generalize 10 ^ (j+1)=M at*;omega);simp [z7o];omega
theorem z9s {k:Nat} {n:Int}:(wB k (IntKind.i64.wrap n)).length<=20:=by
 have:=zcG n;exact z6i k _ 19 (by omega) (by simp only [Nat.reduceAdd,Nat.reducePow];omega)
theorem z5T {k:Nat} {n:Int}:(wB k n).length<=21:=by
 cases k with
 |zero=>simp [wB]
 |succ k=>
  simp only [wB];split
  ·simp [z7o]
  ·have:=z9s (k:=k) (n:=n.tdiv 10);simp [z7o];omega
theorem z1a (H:PrW P):∀(k:Nat) (n:Int),n.natAbs<k->z6 P 159 [.t (.int .i64 n)] ⟨[],0⟩ {v:= .t (.str (wB k n))}
 |0,n,h=>by omega
 |k+1,n,h=>by
  refine z6.run H.i159 H.mixed Z Z ?_;refine fR Z ?_;refine pu Z ?_;refine p0 Z ?_;refine fM Z ?_;refine p0 Z ?_;refine fM Z ?_;refine Run.cond Z Z (fun h=>?_) (fun h=>?_)
  ·have h':n>-10:=by simpa using h
   have hR:wB (k+1) n=z7o n:=by simp only [wB];rw [w0c h']
   refine fR Z ?_;refine Run.fin Z (z4.go ?_);exact .t (by rw [hR];rfl)
  ·have h':¬ n>-10:=by simpa using h
   have hR:wB (k+1) n=wB k (IntKind.i64.wrap (n.tdiv 10))++z7o n:=by simp only [wB];rw [w0d h']
   have e:=zcp (n:=n) (by omega);have hwr:=zcG (n.tdiv 10)
   have hrec:=z1a H k (IntKind.i64.wrap (n.tdiv 10)) (by
    by_cases hb:-9223372036854775808<=n
    ·rw [wrap64 (by omega) (by omega)];omega
    ·omega)
   have hlen:=z9s (k:=k) (n:=n.tdiv 10);refine fR Z ?_;refine pu Z ?_;refine Mid.call (hrec) Z Z Z Z ?_;refine fM Z ?_;refine pu Z ?_;refine fM Z ?_;refine Run.fin Z (z4.go ?_);exact .t (by rw [hR];rfl)
theorem zfa (H:PrW P) (n:Int):z6 P 156 [.t (.int .i64 n)] ⟨[],0⟩ {v:= .t (.str (z5C n))}:=by
 have hlen:=z5T (k:=n.natAbs+1) (n:=n)
 have hw:(IntKind.i64.wrap (0 - n)).natAbs<n.natAbs+1+9223372036854775808:=by have:=zcG (0 - n);omega
 refine z6.run H.i156 H.mixed Z Z ?_;refine fR Z ?_;refine Run.cond Z Z (fun h=>?_) (fun h=>?_)
 ·have h':n<0:=by simpa using h
  have hR:z5C n=[45]++wB (n.natAbs+1) n:=by unfold z5C;rw [w0c h']
  refine fR Z ?_;refine Mid.call (z1a H (n.natAbs+1) n (by omega)) Z Z Z Z ?_;refine pu Z ?_;refine fM Z ?_;refine Run.fin Z (z4.go ?_);exact .t (by rw [hR])
 ·have h':¬ n<0:=by simpa using h
  have hR:z5C n=wB (n.natAbs+1+9223372036854775808) (IntKind.i64.wrap (0 - n)):=by unfold z5C;rw [w0d h']
  refine fR Z ?_;refine Mid.call (z1a H (n.natAbs+1+9223372036854775808) (IntKind.i64.wrap (0 - n)) hw) Z Z Z Z ?_;refine fM Z ?_;refine Run.fin Z (z4.go ?_);exact .t (by rw [hR])
theorem zbS (n:Int):(z5C n).length<=22:=by
 unfold z5C;split
 ·have:=z5T (k:=n.natAbs+1) (n:=n);simp;omega
 ·have:=z5T (k:=n.natAbs+1+9223372036854775808) (n:=IntKind.i64.wrap (0 - n));omega
def ZI (e er:Int):Int:=if er=0 then e else er
def wS (l c er:Int):Int:=if IntKind.i64.wrap (c+1)>4096 then ZI 4 (if l>24 then ZI 5 er else er) else (if l>24 then ZI 5 er else er)
theorem Yj (H:PrW P) (ds:List Def) (lit:Bool) (c er e:Int):z6 P 148 [.ptr 0 0,.t (.int .i64 e)] ⟨[(0,(WOo ds lit c er))],1⟩ {v:= .tup [],ob:=[(0,(WOo ds lit c (ZI e er)))],rd:=true}:=by
 refine z6.run H.i148 H.mixed Z Z ?_;refine fR Z ?_;refine Run.cond Z Z (fun h=>?_) (fun h=>?_)
 ·have h':er=0:=by simpa using h
  refine fR Z ?_;refine Run.fin Z (z4.chg Z Z ?_ ?_)
  ·exact .le (.same Z)
  ·rw [show ZI e er=e from w0c h'];exact leSA
 ·have h':¬ er=0:=by simpa using h
  skip;refine Run.fin Z (z4.chg Z Z ?_ ?_)
  ·exact .le (.same Z)
  ·rw [show ZI e er=er from w0d h'];exact leSA
theorem z9D (H:PrW P) (ds:List Def) (lit:Bool) (c er l:Int):z6 P 150 [.ptr 0 0,.t (.int .i64 l)] ⟨[(0,(WOo ds lit c er))],1⟩ {v:= .tup [],ob:=[(0,(WOo ds lit (IntKind.i64.wrap (c+1)) (wS l c er)))],rd:=true}:=by
 refine z6.run H.i150 H.mixed Z Z ?_;refine fR Z ?_;refine Run.cond Z Z (fun h=>?_) (fun h=>?_)
 ·have h':l>24:=by simpa using h
  refine fR Z ?_
  refine Mid.Zt [0] (Yj H ds lit c er 5) Z Z Z Z (by simp [zP];simp [z5.bd,V.bds,V.bd]) (by repeat' (first |exact trivial|exact rfl|refine And.intro ?_ ?_|exact (congrArg some (z5.zD _ _ _ _ _ _)).symm|exact (congrArg some (z5.zE _ _ _)).symm|(refine (congrArg some (z5.zW ?_ _ _)).symm;intro _;rfl))) Z Z (ob':=[(0,(WOo ds lit c (ZI 5 er)))]) (rfl) Z Z ?_
  refine fM Z ?_;refine p0 Z ?_;refine fM Z ?_
  have hR:wS l c er=if IntKind.i64.wrap (c+1)>4096 then ZI 4 (ZI 5 er) else ZI 5 er:=by unfold wS;rw [w0c h']
  refine Run.cond Z Z (fun h2=>?_) (fun h2=>?_)
  ·have h2':IntKind.i64.wrap (c+1)>4096:=by simpa using h2
   rw [w0c h2'] at hR;refine fR Z ?_
   refine Mid.Zt [0] (Yj H ds lit (IntKind.i64.wrap (c+1)) (ZI 5 er) 4) Z Z Z Z (by simp [zP];simp [z5.bd,V.bds,V.bd]) (by repeat' (first |exact trivial|exact rfl|refine And.intro ?_ ?_|exact (congrArg some (z5.zD _ _ _ _ _ _)).symm|exact (congrArg some (z5.zE _ _ _)).symm|(refine (congrArg some (z5.zW ?_ _ _)).symm;intro _;rfl))) Z Z (ob':=[(0,(WOo ds lit (IntKind.i64.wrap (c+1)) (ZI 4 (ZI 5 er))))]) (rfl) Z Z ?_
   refine fM Z ?_;refine Run.fin Z (z4.chg Z Z ?_ ?_)
   ·exact .le (.same Z)
   ·rw [hR];exact leSA
  ·have h2':¬ IntKind.i64.wrap (c+1)>4096:=by simpa using h2
   rw [w0d h2'] at hR;skip;refine Run.fin Z (z4.chg Z Z ?_ ?_)
   ·exact .le (.same Z)
   ·rw [hR];exact leSA
 ·have h':¬ l>24:=by simpa using h
  refine fR Z ?_;refine p0 Z ?_;refine fM Z ?_
  have hR:wS l c er=if IntKind.i64.wrap (c+1)>4096 then ZI 4 er else er:=by unfold wS;rw [w0d h']
  refine Run.cond Z Z (fun h2=>?_) (fun h2=>?_)
  ·have h2':IntKind.i64.wrap (c+1)>4096:=by simpa using h2
   rw [w0c h2'] at hR;refine fR Z ?_
   refine Mid.Zt [0] (Yj H ds lit (IntKind.i64.wrap (c+1)) (er) 4) Z Z Z Z (by simp [zP];simp [z5.bd,V.bds,V.bd]) (by repeat' (first |exact trivial|exact rfl|refine And.intro ?_ ?_|exact (congrArg some (z5.zD _ _ _ _ _ _)).symm|exact (congrArg some (z5.zE _ _ _)).symm|(refine (congrArg some (z5.zW ?_ _ _)).symm;intro _;rfl))) Z Z (ob':=[(0,(WOo ds lit (IntKind.i64.wrap (c+1)) (ZI 4 (er))))]) (rfl) Z Z ?_
   refine fM Z ?_;refine Run.fin Z (z4.chg Z Z ?_ ?_)
   ·exact .le (.same Z)
   ·rw [hR];exact leSA
  ·have h2':¬ IntKind.i64.wrap (c+1)>4096:=by simpa using h2
   rw [w0d h2'] at hR;skip;refine Run.fin Z (z4.chg Z Z ?_ ?_)
   ·exact .le (.same Z)
   ·rw [hR];exact leSA
end Go.GB.C29
namespace Go.GB.C29
open Go.GB Go.GB.C11 Go.GB.C18
variable {P:Program}
def QH (lit:Bool) (v:Val):Bool:=lit&&v.kind==7
theorem z2k (H:PrW P) (ds:List Def) (lit:Bool) (c er:Int) (v:Val):z6 P 137 [.ptr 0 0,v.v] ⟨[(0,(WOo ds lit c er))],1⟩ {v:= .t (.bool (QH lit v)),rd:=true}:=by
 have hg:=z5z H.p18 Val.zero Val.ZF v.text;have hz:Wl Val.zero v.text=none:=rfl;rw [hz] at hg;refine z6.run H.i137 H.mixed Z Z ?_;refine fR Z ?_;refine Run.cond Z Z (fun h=>?_) (fun h=>?_)
 ·have hR:QH lit v=false:=by revert h;unfold QH;generalize hk:(v.kind==7)=b;cases lit<;>cases b<;>simp_all
  refine fR Z ?_;refine Run.fin Z (z4.Zy Z Z Z (by first |exact rfl|exact zK|exact zM) (.t ((by rw [hR]))))
 ·have hR:QH lit v=true:=by revert h;unfold QH;generalize hk:(v.kind==7)=b;cases lit<;>cases b<;>simp_all
  refine fR Z ?_;refine Mid.call (hg) Z Z Z Z ?_;refine fM Z ?_;refine Run.fin Z (z4.Zy Z Z Z (by first |exact rfl|exact zK|exact zM) (.t ((by rw [hR];rfl))))
def zfr (l:List Input) (x:Input) (i:Nat):Bool:=(l.take i).any fun y=>y.name==x.name
theorem z8j (H:PrW P) (l:List Input) (hl:l.length<=140737488355328) (i:Nat) (x:Input) (hx:l[i]?=some x):z6 P 157 [.t (.lst (l.map Input.enc)),.t (.int .i64 i)] ⟨[],0⟩ {v:= .t (.bool (zfr l x i))}:=by
 have hi:i<l.length:=(w02.1 hx).1;refine z6.run H.i157 H.mixed Z Z ?_;refine fR Z ?_
 have hl2:(l.take i).length=i:=by simp;omega
 generalize hR:zfr l x i=R;refine zu (l.take i) (fun k (_:Unit)=>{env:=[(0,.t (.lst (l.map Input.enc))),(1,.t (.int .i64 i)),(5,.t (.int .i64 k))],s:=⟨[],0⟩}) (fun r k _=>((l.take i).drop k).any (fun y=>y.name==x.name)=R) 0 () Z hR Z Z Z ?_ ?_
 ·intro _ hinv;rw [List.drop_length] at hinv;rw [hl2];subst hinv;refine fR Z ?_;refine Run.zf Z Z (by simp) ?_;refine fR Z ?_;refine Run.fin Z (z4.go ?_);exact .t Z
 ·intro k y r _ k1 hk hd hinv ih
  have hki:k<i:=by omega
  have k2:l[k]?=some y:=by rw [w0p,w0c hki] at k1;exact k1
  have hinv':(y.name==x.name||((l.take i).drop (k+1)).any fun y=>y.name==x.name)=R:=by
   obtain ⟨h1,rfl⟩:=w02.1 k1;rw [←hinv,w1k h1];rfl
  refine fR Z ?_;refine Run.zj Z Z (by simp;omega) ?_;refine fR Z ?_;refine Mid.za Z Z Z k2 Z Z ?_;refine fM Z ?_;refine Mid.za Z Z Z hx Z Z ?_;refine fM Z ?_;refine Run.cond Z Z (fun h2=>?_) (fun h2=>?_)
  ·rw [h2,w2i] at hinv';subst hinv';refine fR Z ?_;refine Run.fin Z (z4.go ?_);exact .t Z
  ·rw [h2,w1x] at hinv';refine fR Z ?_;refine aL Z Z Z Z Z ?_;refine fM Z ?_;exact zh 0 Z (ih () hinv') Z Z Z
def z5y (name:Str) (v:Val):Option Val:=
 if (name==[73,110,116]&&v.kind==2&&decide (v.int≥-2147483648)&&decide (v.int<2147483648))=true then some v
 else if ((name==[83,116,114,105,110,103]&&v.kind==3)||(name==[66,111,111,108,101,97,110]&&v.kind==1)||(name==[73,68]&&v.kind==3))=true then some v
 else if (name==[73,68]&&v.kind==2)=true then some (.mk 3 0 (z5C v.int) [] [])
 else none
def erO (o:Option Val) (er:Int):Int:=match o with|some _=>er|none=>ZI 23 er
theorem z8d (H:PrW P) (ds:List Def) (lit:Bool) (c er:Int) (name:Str) (v:Val):z6 P 152 [.ptr 0 0,.t (.str name),v.v] ⟨[(0,(WOo ds lit c er))],1⟩ {v:=((z5y name v).getD Val.zero).v,ob:=[(0,(WOo ds lit c (erO (z5y name v) er)))],rd:=true}:=by
 generalize hR:z5y name v=R;refine z6.run H.i152 H.mixed Z Z ?_;refine fR Z ?_;refine Run.cond Z Z (fun h1=>?_) (fun h1=>?_)
 ·have hR':R=some v:=by rw [←hR];unfold z5y;rw [w0c h1]
  subst hR';refine fR Z ?_;refine Run.fin Z (z4.chg Z Z ?_ ?_)
  ·exact .le (.same Z)
  ·skip;exact leSA
 have n1:=h1;simp only [Bool.eq_false_iff] at n1;unfold z5y at hR;rw [w0d n1] at hR;refine fR Z ?_
 have pos:∀h:((name==[83,116,114,105,110,103]&&v.kind==3)||(name==[66,111,111,108,101,97,110]&&v.kind==1)||(name==[73,68]&&v.kind==3))=true,R=some v:=fun h=>by rw [←hR,w0c h]
 refine Run.cond Z Z (fun ha=>?_) (fun ha=>?_)
 ·have hR':R=some v:=pos (by rw [ha];rfl);subst hR';skip;refine Run.zj Z Z ha ?_;refine fR Z ?_;refine Run.fin Z (z4.chg Z Z ?_ ?_)
  ·exact .le (.same Z)
  ·skip;exact leSA
 refine fR Z ?_;refine Run.cond Z Z (fun hb=>?_) (fun hb=>?_)
 ·have hR':R=some v:=pos (by rw [ha,hb];rfl);subst hR';skip;refine Run.zj Z Z hb ?_;refine fR Z ?_;refine Run.fin Z (z4.chg Z Z ?_ ?_)
  ·exact .le (.same Z)
  ·skip;exact leSA
 refine fR Z ?_;refine Run.cond Z Z (fun hc=>?_) (fun hc=>?_)
 ·have hR':R=some v:=pos (by rw [ha,hb,hc];rfl);subst hR';refine fR Z ?_;refine Run.fin Z (z4.chg Z Z ?_ ?_)
  ·exact .le (.same Z)
  ·skip;exact leSA
 rw [w0d (by rw [ha,hb,hc];simp)] at hR;refine fR Z ?_;refine Run.cond Z Z (fun hd=>?_) (fun hd=>?_)
 ·have hR':R=some (.mk 3 0 (z5C v.int) [] []):=by rw [←hR,w0c hd]
  subst hR';refine fR Z ?_;refine Mid.call (zfa H v.int) Z Z Z Z ?_;refine fM Z ?_;refine Run.fin Z (z4.chg Z Z ?_ ?_)
  ·exact .agg (.cons (.t Z) (.cons (.t Z) (.cons (.t Z) (.cons (.nil Z) (.cons (.nil Z) .nil)))))
  ·skip;exact leSA
 rw [w0d (by rw [hd];simp)] at hR;subst hR;refine fR Z ?_
 refine Mid.Zt [0] (Yj H ds lit c er 23) Z Z Z Z (by simp [zP];simp [z5.bd,V.bds,V.bd]) (by repeat' (first |exact trivial|exact rfl|refine And.intro ?_ ?_|exact (congrArg some (z5.zD _ _ _ _ _ _)).symm|exact (congrArg some (z5.zE _ _ _)).symm|(refine (congrArg some (z5.zW ?_ _ _)).symm;intro _;rfl))) Z Z (ob':=[(0,(WOo ds lit c (ZI 23 er)))]) (rfl) Z Z ?_
 refine fM Z ?_;refine Run.fin Z (z4.chg Z Z ?_ ?_)
 ·exact .agg (.cons (.t Z) (.cons (.t Z) (.cons (.t Z) (.cons (.nil Z) (.cons (.nil Z) .nil)))))
 ·skip;exact leSA
def zf8 (l:List ZA) (s:Str):Bool:=l.any fun m=>m.name==s
def z7g (t:Def) (lit:Bool) (v:Val):Option Val:=if ((v.kind==4||(v.kind==3&&!lit))&&zf8 t.members v.text)=true then some (.mk 4 0 v.text [] []) else none
theorem zep (H:PrW P) (ds:List Def) (lit:Bool) (c er:Int) (t:Def) (ht:t.Ok) (v:Val):z6 P 153 [.ptr 0 0,t.v,v.v] ⟨[(0,(WOo ds lit c er))],1⟩ {v:=((z7g t lit v).getD Val.zero).v,ob:=[(0,(WOo ds lit c (erO (z7g t lit v) er)))],rd:=true}:=by
 have hml:=ht.ml;generalize hR:z7g t lit v=R;unfold z7g at hR;refine z6.run H.i153 H.mixed Z Z ?_;refine fR Z ?_;refine Run.cond Z Z (fun h1=>?_) (fun h1=>?_)
 ·have e1:(v.kind==4||(v.kind==3&&!lit))=true:=by revert h1;generalize (v.kind==4)=b1;generalize (v.kind==3)=b2;cases b1<;>cases b2<;>cases lit<;>simp
  rw [e1,w13] at hR;refine fR Z ?_;refine zu t.members (fun i (_:Unit)=>{env:=[(0,.ptr 0 0),(4,.ptr 1 0),(5,.ptr 2 0),(6,.ptr 3 0),(7,.t (.int .i64 i))],s:=⟨[(0,(WOo ds lit c er)),(1,(TCo t)),(2,(VCo v)),(3,.cells [.t (.int .i64 0),.t (.int .i64 0),.t (.str []),.zJ,.zJ])],4⟩}) (fun r i _=>zf8 t.members v.text=(t.members.drop i).any fun m=>m.name==v.text) 4 () Z Z Z Z Z ?_ ?_
  ·intro _ hinv;rw [List.drop_length] at hinv;rw [hinv] at hR;have hR':R=none:=hR.symm;subst hR';refine fR Z ?_;refine lM Z Z Z ?_;refine fM Z ?_;refine Run.zf Z Z (by simp) ?_;refine fR Z ?_
   refine Mid.Zt [0] (Yj H ds lit c er 23) Z Z Z Z (by simp [zP];simp [z5.bd,V.bds,V.bd]) (by repeat' (first |exact trivial|exact rfl|refine And.intro ?_ ?_|exact (congrArg some (z5.zD _ _ _ _ _ _)).symm|exact (congrArg some (z5.zE _ _ _)).symm|(refine (congrArg some (z5.zW ?_ _ _)).symm;intro _;rfl))) Z Z (ob':=[(0,(WOo ds lit c (ZI 23 er)))]) (rfl) Z Z ?_
   refine fM Z ?_;refine Run.fin Z (z4.chg Z Z ?_ ?_)
   ·exact .agg (.cons (.t Z) (.cons (.t Z) (.cons (.t Z) (.cons (.nil Z) (.cons (.nil Z) .nil)))))
   ·skip;exact leSA
  ·intro i x r _ k1 hi hd hinv ih
   have hinv':zf8 t.members v.text=(x.name==v.text||(t.members.drop (i+1)).any fun m=>m.name==v.text):=by
    obtain ⟨h1,rfl⟩:=w02.1 k1;rw [hinv,w1k h1];rfl
   refine fR Z ?_;refine lM Z Z Z ?_;refine fM Z ?_;refine Run.zj Z Z (by simp;omega) ?_;refine fR Z ?_;refine Mid.za Z Z Z k1 Z Z ?_;refine fM Z ?_;refine Run.cond Z Z (fun h2=>?_) (fun h2=>?_)
   ·rw [hinv',h2,w2i,w0c rfl] at hR;subst hR;refine fR Z ?_;refine Run.fin Z (z4.chg Z Z ?_ ?_)
    ·exact .agg (.cons (.t Z) (.cons (.t Z) (.cons (.t Z) (.cons (.nil Z) (.cons (.nil Z) .nil)))))
    ·skip;exact leSA
   ·rw [h2,w1x] at hinv';refine fR Z ?_;refine aL Z Z Z Z Z ?_;refine fM Z ?_;exact zh 4 Z (ih () hinv') Z Z Z
 ·have e1:(v.kind==4||(v.kind==3&&!lit))=false:=by revert h1;generalize (v.kind==4)=b1;generalize (v.kind==3)=b2;cases b1<;>cases b2<;>cases lit<;>simp
  rw [e1,w15] at hR;have hR':R=none:=hR.symm;subst hR';refine fR Z ?_
  refine Mid.Zt [0] (Yj H ds lit c er 23) Z Z Z Z (by simp [zP];simp [z5.bd,V.bds,V.bd]) (by repeat' (first |exact trivial|exact rfl|refine And.intro ?_ ?_|exact (congrArg some (z5.zD _ _ _ _ _ _)).symm|exact (congrArg some (z5.zE _ _ _)).symm|(refine (congrArg some (z5.zW ?_ _ _)).symm;intro _;rfl))) Z Z (ob':=[(0,(WOo ds lit c (ZI 23 er)))]) (rfl) Z Z ?_
  refine fM Z ?_;refine Run.fin Z (z4.chg Z Z ?_ ?_)
  ·exact .agg (.cons (.t Z) (.cons (.t Z) (.cons (.t Z) (.cons (.nil Z) (.cons (.nil Z) .nil)))))
  ·skip;exact leSA
end Go.GB.C29
namespace Go.GB.C29
open Go.GB Go.GB.C11 Go.GB.C18
variable {P:Program}
theorem _root_.Go.GB.LeX.z9B {m m' k sz:Nat} {xs ys:List (List T)} (e:xs=ys):LeX m m' (.own k sz xs) (.t (.lst ys)):=e▸LeX.Zc
abbrev W2:=Int×Int
abbrev Co:=Bool->Ref->Val->W2->Val×W2
def YB (rec:Val->W2->Val×W2):List Val->W2->List Val×W2
 |[],w=>([],w)
 |x::r,w=>if w.2=0 then ((rec x w).1::(YB rec r (rec x w).2).1,(YB rec r (rec x w).2).2) else ([],w)
theorem z34 {rec:Val->W2->Val×W2} {l:List Val} {w:W2} (h:w.2≠0):YB rec l w=([],w):=by
 cases l with
 |nil=>rfl
 |cons x r=>simp only [YB];rw [w0d h]
def Yp (v:Val):List Val:=if v.kind=5 then v.items else [v]
def z70 (rec:Val->W2->Val×W2) (v:Val) (w:W2):Val×W2:=(.mk 5 0 [] (YB rec (Yp v) w).1 [],(YB rec (Yp v) w).2)
def CoC (P:Program) (ds:List Def) (F:Co) (l:Nat):Prop:=∀(lit:Bool) (t:Ref) (v:Val) (c er:Int),t.Ok->v.Ok->
 z6 P 145 [.ptr 0 0,t.v,v.v,.t (.int .i64 l)] ⟨[(0,(WOo ds lit c er))],1⟩ {v:=(F lit t v (c,er)).1.v,ob:=[(0,(WOo ds lit ((F lit t v (c,er)).2.1) ((F lit t v (c,er)).2.2)))],rd:=true}
theorem zdj (H:PrW P) (ds:List Def) (F:Co) (l:Nat) (hl:l<=100) (hrec:CoC P ds F (l+1)) (lit:Bool) (t:Ref) (ht:t.Ok) (v:Val) (hv:v.Ok) (c er:Int):
  z6 P 151 [.ptr 0 0,t.v,v.v,.t (.int .i64 l)] ⟨[(0,(WOo ds lit c er))],1⟩ {v:=(z70 (F lit t) v (c,er)).1.v,ob:=[(0,(WOo ds lit ((z70 (F lit t) v (c,er)).2.1) ((z70 (F lit t) v (c,er)).2.2)))],rd:=true}:=by
 have hil:=hv.il
 have hio:∀x,x∈Yp v->x.Ok:=by
  intro x hx;unfold Yp at hx;split at hx
  ·exact hv.it x hx
  ·simp at hx;subst hx;exact hv
 have hIl:(Yp v).length*80<=140737488355328:=by
  unfold Yp;split
  ·exact hil
  ·simp
 generalize hR:YB (F lit t) (Yp v) (c,er)=R
 have hV:z70 (F lit t) v (c,er)=(.mk 5 0 [] R.1 [],R.2):=by unfold z70;rw [hR]
 rw [hV];refine z6.run H.i151 H.mixed Z Z ?_;refine fR Z ?_;obtain ⟨R1,R2,R3⟩:=R;refine Run.cond Z Z (fun h1=>?_) (fun h1=>?_)
 ·have e:Yp v=v.items:=by unfold Yp;rw [w0c (by simpa using h1)]
  rw [e] at hR hio hIl;refine fR Z ?_
  refine zu v.items (fun i (B:List Val×W2)=>{env:=[(0,.ptr 0 0),(3,.t (.int .i64 l)),(5,.ptr 1 0),(8,.ptr 3 0),(9,.t (.lst (List.map Val.enc (v.items)))),(10,.ptr 5 0),(11,.t (.int .i64 i))],s:=⟨[(0,(WOo ds lit B.2.1 B.2.2)),(1,.cells [.t (.str t.name),.t (.lst (t.zw.map nE))]),(3,.cells [.t (.int .i64 0),.t (.int .i64 0),.t (.str []),.zJ,.zJ]),(5,.cells [.t (.int .i64 5),.t (.int .i64 0),.t (.str []),.own 6 5 (B.1.map Val.enc),.zJ]),(6,.arr B.1.length)],7⟩}) (fun r i B=>B.1.length=i/\B.1++(YB (F lit t) r B.2).1=R1/\(YB (F lit t) r B.2).2=(R2,R3)) 6 (([],(c,er))) Z ⟨rfl,by rw [hR];rfl,by rw [hR]⟩ rfl rfl rfl ?_ ?_ (he:=(by repeat' (first |exact trivial|exact LeX.t|exact LeX.top|exact LeX.zI (w0x rfl) (w0x rfl)|exact LeX.Zc|exact LeX.Zb|exact LeX.same rfl|exact LeX.tEq (by simp[Val.zx,Val.cs])|exact LeX.ownEq (by simp[Val.zx,Val.cs]) (w0x rfl)|exact LeX.tEq (by congr 1<;>omega)|exact Or.inr ⟨w0x rfl,w0x rfl,rfl⟩|refine Or.inl ⟨w0x rfl,_,rfl,?_⟩|refine LeO.cells ?_|exact LeO.arr rfl|exact LeO.arr (by simp[Val.zx,Val.cs])|exact LeX.z9B (by simp [Val.zx,Val.cs])|exact LeO.mE (by first |rfl|simp[Val.zx,Val.cs]) (by first |exact Or.inl rfl|exact Or.inr rfl)|exact LeO.cE (by first |rfl|simp[Val.zx,Val.cs])|exact zq.cE (by first |rfl|simp[Val.zx,Val.cs])|refine LeO.map (by first |rfl|simp) ?_ (by first |exact Or.inl rfl|exact Or.inr rfl)|exact LeO.iter (by first |rfl|simp) (w0x rfl)|refine zq.cons ?_ ?_|exact zq.nil|refine And.intro ?_ ?_))) (hs:=(by repeat' (first |exact trivial|exact LeX.t|exact LeX.top|exact LeX.zI (w0x rfl) (w0x rfl)|exact LeX.Zc|exact LeX.Zb|exact LeX.same rfl|exact LeX.tEq (by simp[Val.zx,Val.cs])|exact LeX.ownEq (by simp[Val.zx,Val.cs]) (w0x rfl)|exact LeX.tEq (by congr 1<;>omega)|exact Or.inr ⟨w0x rfl,w0x rfl,rfl⟩|refine Or.inl ⟨w0x rfl,_,rfl,?_⟩|refine LeO.cells ?_|exact LeO.arr rfl|exact LeO.arr (by simp[Val.zx,Val.cs])|exact LeX.z9B (by simp [Val.zx,Val.cs])|exact LeO.mE (by first |rfl|simp[Val.zx,Val.cs]) (by first |exact Or.inl rfl|exact Or.inr rfl)|exact LeO.cE (by first |rfl|simp[Val.zx,Val.cs])|exact zq.cE (by first |rfl|simp[Val.zx,Val.cs])|refine LeO.map (by first |rfl|simp) ?_ (by first |exact Or.inl rfl|exact Or.inr rfl)|exact LeO.iter (by first |rfl|simp) (w0x rfl)|refine zq.cons ?_ ?_|exact zq.nil|refine And.intro ?_ ?_)))
  ·rintro ⟨B,w1,w2⟩ ⟨_,hB,hw⟩;simp only [YB,w18] at hB hw;obtain ⟨rfl,rfl⟩:=Prod.mk.inj hw;subst hB;refine fR Z ?_;refine lM Z Z Z ?_;refine fM Z ?_;refine Run.zf Z Z (by simp) ?_;refine fR Z ?_;refine Run.fin Z (z4.chg Z Z ?_ ?_)
   ·exact .agg (.cons (.t Z) (.cons (.t Z) (.cons (.t Z) (.cons (.own Z) (.cons (.nil Z) .nil)))))
   ·skip;exact leSA
  ·rintro i x r ⟨B,w1,w2⟩ k1 hi hd ⟨hBl,hB,hw⟩ ih;have hBl':B.length=i:=hBl;have hc:=hrec lit t x w1 w2 ht (hio x (zMG k1));by_cases hz:w2=0
   ·subst hz;simp only [YB,w0c] at hB hw;generalize F lit t x (w1,0)=G at hc hB hw;refine fR Z ?_;refine lM Z Z Z ?_;refine fM Z ?_;refine Run.zj Z Z (by first |(simp;omega)|(have:=hi;simp at this;simp [this])) ?_;refine fR Z ?_;refine Mid.Z2 (Val.zx x) Z Z Z k1 Z Z ?_;refine fM Z ?_;refine aL Z Z Z Z Z ?_
    refine Mid.Zt [0] (hc) Z Z Z Z (by simp [zP];simp [z5.bd,V.bds,V.bd]) (by repeat' (first |exact trivial|exact rfl|refine And.intro ?_ ?_|exact (congrArg some (z5.zD _ _ _ _ _ _)).symm|exact (congrArg some (z5.zE _ _ _)).symm|(refine (congrArg some (z5.zW ?_ _ _)).symm;intro _;rfl))) Z Z (ob':=[(0,(WOo ds lit G.2.1 G.2.2))]) (rfl) Z Z ?_
    refine fM Z ?_;refine apM Val.enc B [G.1] Z (congrArg (fun c=>some (T.lst [c])) (Val.zx G.1).symm) Z Z Z ?_ (hl:=fun x=>(congrArg List.length (Val.zx x)).trans Z);refine fM Z ?_;refine aL Z Z Z Z Z ?_;refine fM Z ?_;exact zh 7 Z (ih (B++[G.1],G.2) ⟨by simp;omega,by rw [←hB];simp,hw⟩) rfl rfl rfl
   ·rw [z34 (by exact hz)] at hB hw;simp only [w18] at hB hw;obtain ⟨rfl,rfl⟩:=Prod.mk.inj hw;subst hB;refine fR Z ?_;refine lM Z Z Z ?_;refine fM Z ?_;refine Run.zf Z Z (by first |(simp;omega)|(have:=hi;simp at this;simp [this])) ?_;refine fR Z ?_;refine Run.fin Z (z4.chg Z Z ?_ ?_)
    ·exact .agg (.cons (.t Z) (.cons (.t Z) (.cons (.t Z) (.cons (.own Z) (.cons (.nil Z) .nil)))))
    ·skip;exact leSA
 ·have e:Yp v=[v]:=by unfold Yp;rw [w0d (by simpa using h1)]
  rw [e] at hR hio hIl;refine fR Z ?_
  refine zu [v] (fun i (B:List Val×W2)=>{env:=[(0,.ptr 0 0),(3,.t (.int .i64 l)),(5,.ptr 1 0),(8,.ptr 3 0),(9,.t (.lst (List.map Val.enc ([v])))),(10,.ptr 5 0),(11,.t (.int .i64 i))],s:=⟨[(0,(WOo ds lit B.2.1 B.2.2)),(1,.cells [.t (.str t.name),.t (.lst (t.zw.map nE))]),(3,.cells [.t (.int .i64 0),.t (.int .i64 0),.t (.str []),.zJ,.zJ]),(5,.cells [.t (.int .i64 5),.t (.int .i64 0),.t (.str []),.own 6 5 (B.1.map Val.enc),.zJ]),(6,.arr B.1.length)],7⟩}) (fun r i B=>B.1.length=i/\B.1++(YB (F lit t) r B.2).1=R1/\(YB (F lit t) r B.2).2=(R2,R3)) 6 (([],(c,er))) Z ⟨rfl,by rw [hR];rfl,by rw [hR]⟩ rfl rfl rfl ?_ ?_ (he:=(by repeat' (first |exact trivial|exact LeX.t|exact LeX.top|exact LeX.zI (w0x rfl) (w0x rfl)|exact LeX.Zc|exact LeX.Zb|exact LeX.same rfl|exact LeX.tEq (by simp[Val.zx,Val.cs])|exact LeX.ownEq (by simp[Val.zx,Val.cs]) (w0x rfl)|exact LeX.tEq (by congr 1<;>omega)|exact Or.inr ⟨w0x rfl,w0x rfl,rfl⟩|refine Or.inl ⟨w0x rfl,_,rfl,?_⟩|refine LeO.cells ?_|exact LeO.arr rfl|exact LeO.arr (by simp[Val.zx,Val.cs])|exact LeX.z9B (by simp [Val.zx,Val.cs])|exact LeO.mE (by first |rfl|simp[Val.zx,Val.cs]) (by first |exact Or.inl rfl|exact Or.inr rfl)|exact LeO.cE (by first |rfl|simp[Val.zx,Val.cs])|exact zq.cE (by first |rfl|simp[Val.zx,Val.cs])|refine LeO.map (by first |rfl|simp) ?_ (by first |exact Or.inl rfl|exact Or.inr rfl)|exact LeO.iter (by first |rfl|simp) (w0x rfl)|refine zq.cons ?_ ?_|exact zq.nil|refine And.intro ?_ ?_))) (hs:=(by repeat' (first |exact trivial|exact LeX.t|exact LeX.top|exact LeX.zI (w0x rfl) (w0x rfl)|exact LeX.Zc|exact LeX.Zb|exact LeX.same rfl|exact LeX.tEq (by simp[Val.zx,Val.cs])|exact LeX.ownEq (by simp[Val.zx,Val.cs]) (w0x rfl)|exact LeX.tEq (by congr 1<;>omega)|exact Or.inr ⟨w0x rfl,w0x rfl,rfl⟩|refine Or.inl ⟨w0x rfl,_,rfl,?_⟩|refine LeO.cells ?_|exact LeO.arr rfl|exact LeO.arr (by simp[Val.zx,Val.cs])|exact LeX.z9B (by simp [Val.zx,Val.cs])|exact LeO.mE (by first |rfl|simp[Val.zx,Val.cs]) (by first |exact Or.inl rfl|exact Or.inr rfl)|exact LeO.cE (by first |rfl|simp[Val.zx,Val.cs])|exact zq.cE (by first |rfl|simp[Val.zx,Val.cs])|refine LeO.map (by first |rfl|simp) ?_ (by first |exact Or.inl rfl|exact Or.inr rfl)|exact LeO.iter (by first |rfl|simp) (w0x rfl)|refine zq.cons ?_ ?_|exact zq.nil|refine And.intro ?_ ?_)))
  ·rintro ⟨B,w1,w2⟩ ⟨_,hB,hw⟩;simp only [YB,w18] at hB hw;obtain ⟨rfl,rfl⟩:=Prod.mk.inj hw;subst hB;refine fR Z ?_;refine lM Z Z Z ?_;refine fM Z ?_;refine Run.zf Z Z (by simp) ?_;refine fR Z ?_;refine Run.fin Z (z4.chg Z Z ?_ ?_)
   ·exact .agg (.cons (.t Z) (.cons (.t Z) (.cons (.t Z) (.cons (.own Z) (.cons (.nil Z) .nil)))))
   ·skip;exact leSA
  ·rintro i x r ⟨B,w1,w2⟩ k1 hi hd ⟨hBl,hB,hw⟩ ih;have hBl':B.length=i:=hBl;have hc:=hrec lit t x w1 w2 ht (hio x (zMG k1));by_cases hz:w2=0
   ·subst hz;simp only [YB,w0c] at hB hw;generalize F lit t x (w1,0)=G at hc hB hw;refine fR Z ?_;refine lM Z Z Z ?_;refine fM Z ?_;refine Run.zj Z Z (by first |(simp;omega)|(have:=hi;simp at this;simp [this])) ?_;refine fR Z ?_;refine Mid.Z2 (Val.zx x) Z Z Z k1 Z Z ?_;refine fM Z ?_;refine aL Z Z Z Z Z ?_
    refine Mid.Zt [0] (hc) Z Z Z Z (by simp [zP];simp [z5.bd,V.bds,V.bd]) (by repeat' (first |exact trivial|exact rfl|refine And.intro ?_ ?_|exact (congrArg some (z5.zD _ _ _ _ _ _)).symm|exact (congrArg some (z5.zE _ _ _)).symm|(refine (congrArg some (z5.zW ?_ _ _)).symm;intro _;rfl))) Z Z (ob':=[(0,(WOo ds lit G.2.1 G.2.2))]) (rfl) Z Z ?_
    refine fM Z ?_;refine apM Val.enc B [G.1] Z (congrArg (fun c=>some (T.lst [c])) (Val.zx G.1).symm) Z Z Z ?_ (hl:=fun x=>(congrArg List.length (Val.zx x)).trans Z);refine fM Z ?_;refine aL Z Z Z Z Z ?_;refine fM Z ?_;exact zh 7 Z (ih (B++[G.1],G.2) ⟨by simp;omega,by rw [←hB];simp,hw⟩) rfl rfl rfl
   ·rw [z34 (by exact hz)] at hB hw;simp only [w18] at hB hw;obtain ⟨rfl,rfl⟩:=Prod.mk.inj hw;subst hB;refine fR Z ?_;refine lM Z Z Z ?_;refine fM Z ?_;refine Run.zf Z Z (by first |(simp;omega)|(have:=hi;simp at this;simp [this])) ?_;refine fR Z ?_;refine Run.fin Z (z4.chg Z Z ?_ ?_)
    ·exact .agg (.cons (.t Z) (.cons (.t Z) (.cons (.t Z) (.cons (.own Z) (.cons (.nil Z) .nil)))))
    ·skip;exact leSA
end Go.GB.C29
namespace Go.GB.C29
open Go.GB Go.GB.C11 Go.GB.C18
variable {P:Program}
def z2Q (ins:List Input):List Str->Int->Int
 |[],er=>er
 |k::r,er=>z2Q ins r (if (zU k ins).isSome=true then er else ZI 22 er)
def wT (F:Co) (lit:Bool) (v:Val) (x:Input) (w:W2):Option (Val×W2):=
 if ((Wl v x.name).isSome&&!QH lit ((Wl v x.name).getD Val.zero))=true then some (F lit x.ty ((Wl v x.name).getD Val.zero) w)
 else if x.has=true then some (F true x.ty x.YO w)
 else if nnF x.ty.zw=true then some (Val.zero,(w.1,ZI 22 w.2))
 else none
def Yc (F:Co) (lit:Bool) (t:List Input) (v:Val):Nat->List Input->W2->List (Str×Val)×W2
 |_,[],w=>([],w)
 |i,x::r,w=>if w.2=0 then
   if zfr t x i=true then Yc F lit t v (i+1) r w
   else match wT F lit v x w with
    |none=>Yc F lit t v (i+1) r w
    |some y=>((x.name,y.1)::(Yc F lit t v (i+1) r y.2).1,(Yc F lit t v (i+1) r y.2).2)
  else ([],w)
theorem z9Z {F:Co} {lit:Bool} {t:List Input} {v:Val} {i:Nat} {l:List Input} {w:W2} (h:w.2≠0):Yc F lit t v i l w=([],w):=by
 cases l with
 |nil=>rfl
 |cons x r=>simp only [Yc];rw [w0d h]
def z3M (F:Co) (lit:Bool) (t:Def) (v:Val) (w:W2):Val×W2:=
 if v.kind=6 then (.mk 6 0 [] ((Yc F lit t.zp v 0 t.zp (w.1,z2Q t.zp v.keys w.2)).1.map (·.2)) ((Yc F lit t.zp v 0 t.zp (w.1,z2Q t.zp v.keys w.2)).1.map (·.1)),(Yc F lit t.zp v 0 t.zp (w.1,z2Q t.zp v.keys w.2)).2)
 else (Val.zero,(w.1,ZI 23 w.2))
def PlC (P:Program) (ds:List Def) (F:Co) (l:Nat):Prop:=∀(lit:Bool) (t:Ref) (v:Val) (c er:Int),t.Ok->v.Ok->
 z6 P 158 [.ptr 0 0,t.v,v.v,.t (.int .i64 l)] ⟨[(0,(WOo ds lit c er))],1⟩ {v:=(F true t v (c,er)).1.v,ob:=[(0,(WOo ds lit ((F true t v (c,er)).2.1) ((F true t v (c,er)).2.2)))],rd:=true}
theorem zc3 (H:PrW P) (ds:List Def) (F:Co) (l:Nat) (hl:l<=200) (hrec:CoC P ds F l):PlC P ds F l:=by
 intro lit t v c er ht hv;have hc:=hrec true t v c er ht hv;generalize F true t v (c,er)=G at hc;refine z6.run H.i158 H.mixed Z Z ?_
 refine Run.W3 (f:=29) Z (by (repeat' (first |exact trivial|exact w0j _|exact yY _|exact yX _|exact grd3 _ _|exact yZ _ _|refine And.intro ?_ ?_|exact rfl|(simp;done)|(simp<;>omega)));done) ?_
 refine Run.QM 5 Z (st':={env:=[(0,.ptr 0 0),(3,.t (.int .i64 l)),(5,.ptr 1 0),(6,.ptr 2 0),(8,.ptr 3 0),(9,.ptr 4 0),(10,.t (.bool lit))],s:=⟨[(0,(WOo ds true c er)),(1,.cells [.t (.str t.name),.t (.lst (t.zw.map nE))]),(2,(VCo (v))),(3,.cells [.t (.int .i64 0),.t (.int .i64 0),.t (.str []),.zJ,.zJ]),(4,.cells [.t (.int .i64 0),.t (.int .i64 0),.t (.str []),.t (.lst []),.t (.lst [])])],5⟩}) ?_ Z Z Z (by repeat' (first |exact trivial|exact LeZ.le (w0x rfl) (by first |exact LeX.t|exact LeX.top|exact LeX.same rfl|exact LeX.Zc|exact LeX.Zb|exact LeX.fowT|exact LeX.tEq (by simp))|exact LeZ.gE _ _ (w0x rfl) rfl (by first |exact w1f.symm|exact (w0w (by simp)).symm|simp) (by simp) (fun _=>rfl)|exact Or.inr ⟨w0x rfl,w0x rfl,rfl⟩|refine Or.inl ⟨w0x rfl,_,rfl,?_⟩|refine Yw.cells ?_|exact Yw.le (LeO.arr (by first |rfl|simp))|exact Yw.le (LeO.cE (by first |rfl|simp))|exact Yw.le (LeO.mE (by first |rfl|simp) (by first |exact Or.inl rfl|exact Or.inr rfl))|refine WS.cons ?_ ?_|exact WS.nil|refine And.intro ?_ ?_)) (by repeat' (first |exact trivial|exact LeZ.le (w0x rfl) (by first |exact LeX.t|exact LeX.top|exact LeX.same rfl|exact LeX.Zc|exact LeX.Zb|exact LeX.fowT|exact LeX.tEq (by simp))|exact LeZ.gE _ _ (w0x rfl) rfl (by first |exact w1f.symm|exact (w0w (by simp)).symm|simp) (by simp) (fun _=>rfl)|exact Or.inr ⟨w0x rfl,w0x rfl,rfl⟩|refine Or.inl ⟨w0x rfl,_,rfl,?_⟩|refine Yw.cells ?_|exact Yw.le (LeO.arr (by first |rfl|simp))|exact Yw.le (LeO.cE (by first |rfl|simp))|exact Yw.le (LeO.mE (by first |rfl|simp) (by first |exact Or.inl rfl|exact Or.inr rfl))|refine WS.cons ?_ ?_|exact WS.nil|refine And.intro ?_ ?_))
 refine fR Z ?_
 refine Mid.Zt [0] (hc) Z Z Z Z (by simp [zP];simp [z5.bd,V.bds,V.bd]) (by repeat' (first |exact trivial|exact rfl|refine And.intro ?_ ?_|exact (congrArg some (z5.zD _ _ _ _ _ _)).symm|exact (congrArg some (z5.zE _ _ _)).symm|(refine (congrArg some (z5.zW ?_ _ _)).symm;intro _;rfl))) Z Z (ob':=[(0,(WOo ds true G.2.1 G.2.2))]) (rfl) Z Z ?_
 refine fM Z ?_;skip;refine Run.fin Z (z4.chg Z Z ?_ ?_)
 ·exact .agg (.cons (.t Z) (.cons (.t Z) (.cons (.t Z) (.cons (.t Z) (.cons (.t Z) .nil)))))
 ·skip;exact leSA
theorem zav (H:PrW P) (ds:List Def) (F:Co) (l:Nat) (hl:l<=100) (hrec:CoC P ds F (l+1)) (lit:Bool) (t:Def) (ht:t.Ok) (hni:t.zp.length<=1099511627776) (v:Val) (hv:v.Ok) (c er:Int):
  z6 P 154 [.ptr 0 0,t.v,v.v,.t (.int .i64 l)] ⟨[(0,(WOo ds lit c er))],1⟩ {v:=(z3M F lit t v (c,er)).1.v,ob:=[(0,(WOo ds lit ((z3M F lit t v (c,er)).2.1) ((z3M F lit t v (c,er)).2.2)))],rd:=true}:=by
 have hnl:=ht.nl;have hkl:=hv.kl;have hpl:=zc3 H ds F (l+1) (by omega) hrec;refine z6.run H.i154 H.mixed Z Z ?_;refine fR Z ?_;refine Run.cond Z Z (fun h1=>?_) (fun h1=>?_)
 ·have h1':¬ v.kind=6:=by simpa using h1
  have hR:z3M F lit t v (c,er)=(Val.zero,(c,ZI 23 er)):=by unfold z3M;rw [w0d h1']
  rw [hR];refine fR Z ?_
  refine Mid.Zt [0] (Yj H ds lit c er 23) Z Z Z Z (by simp [zP];simp [z5.bd,V.bds,V.bd]) (by repeat' (first |exact trivial|exact rfl|refine And.intro ?_ ?_|exact (congrArg some (z5.zD _ _ _ _ _ _)).symm|exact (congrArg some (z5.zE _ _ _)).symm|(refine (congrArg some (z5.zW ?_ _ _)).symm;intro _;rfl))) Z Z (ob':=[(0,(WOo ds lit c (ZI 23 er)))]) (rfl) Z Z ?_
  refine fM Z ?_;refine Run.fin Z (z4.chg Z Z ?_ ?_)
  ·exact .agg (.cons (.t Z) (.cons (.t Z) (.cons (.t Z) (.cons (.nil Z) (.cons (.nil Z) .nil)))))
  ·skip;exact leSA
 ·have h1':v.kind=6:=by simpa using h1
  have hV:z3M F lit t v (c,er)=(.mk 6 0 [] ((Yc F lit t.zp v 0 t.zp (c,z2Q t.zp v.keys er)).1.map (·.2)) ((Yc F lit t.zp v 0 t.zp (c,z2Q t.zp v.keys er)).1.map (·.1)),(Yc F lit t.zp v 0 t.zp (c,z2Q t.zp v.keys er)).2):=by unfold z3M;rw [w0c h1']
  rw [hV];generalize hE:z2Q t.zp v.keys er=E;generalize hR:Yc F lit t.zp v 0 t.zp (c,E)=R;obtain ⟨R1,R2,R3⟩:=R;refine fR Z ?_;refine zu v.keys (fun i (B:Int)=>{env:=[(0,.ptr 0 0),(3,.t (.int .i64 l)),(5,.ptr 1 0),(6,.ptr 2 0),(8,.ptr 3 0),(9,.t (.int .i64 i))],s:=⟨[(0,(WOo ds lit c B)),(1,(TCo t)),(2,(VCo (v))),(3,.cells [.t (.int .i64 0),.t (.int .i64 0),.t (.str []),.zJ,.zJ])],4⟩}) (fun r i B=>z2Q t.zp r B=E) 4 er Z hE Z Z Z ?_ ?_
  ·intro B hB;have hB':B=E:=hB;subst hB';refine fR Z ?_;refine lM Z Z Z ?_;refine fM Z ?_;refine Run.zf Z Z (by simp) ?_;refine fR Z ?_
   refine zu t.zp (fun i (B:List (Str×Val)×W2)=>{env:=[(0,.ptr 0 0),(3,.t (.int .i64 l)),(5,.ptr 1 0),(6,.ptr 2 0),(8,.ptr 3 0),(12,.ptr 4 0),(13,.t (.int .i64 i))],s:=⟨[(0,(WOo ds lit B.2.1 B.2.2)),(1,(TCo t)),(2,(VCo (v))),(3,.cells [.t (.int .i64 0),.t (.int .i64 0),.t (.str []),.zJ,.zJ]),(4,.cells [.t (.int .i64 6),.t (.int .i64 0),.t (.str []),.own 5 5 (B.1.map fun p=>p.2.enc),.own 6 1 (B.1.map fun p=>sE p.1)]),(5,.arr B.1.length),(6,.arr B.1.length)],7⟩}) (fun r i B=>B.1.length<=i/\B.1++(Yc F lit t.zp v i r B.2).1=R1/\(Yc F lit t.zp v i r B.2).2=(R2,R3)) 5 (([],(c,B))) Z ⟨w07 _,by rw [hR];rfl,by rw [hR]⟩ rfl rfl rfl ?_ ?_
   ·rintro ⟨B,w1,w2⟩ ⟨_,hB,hw⟩;simp only [Yc,w18] at hB hw;obtain ⟨rfl,rfl⟩:=Prod.mk.inj hw;subst hB;refine fR Z ?_;refine lM Z Z Z ?_;refine fM Z ?_;refine Run.zf Z Z (by simp) ?_;refine fR Z ?_;refine Run.fin Z (z4.chg Z Z ?_ ?_)
    ·exact .agg (.cons (.t Z) (.cons (.t Z) (.cons (.t Z) (.cons (.own (by show _=List.map Val.enc (List.map _ _);rw [List.map_map];rfl)) (.cons (.own (by show _=List.map sE (List.map _ _);rw [List.map_map];rfl)) .nil)))))
    ·skip;exact leSA
   ·rintro i x r ⟨B,w1,w2⟩ k1 hi hd ⟨hBl,hB,hw⟩ ih;have hBl':B.length<=i:=hBl;have hxm:=zMG k1;have hxo:=ht.n x hxm;by_cases hz:w2=0
    ·subst hz;simp only [Yc,w0c] at hB hw;refine fR Z ?_;refine lM Z Z Z ?_;refine fM Z ?_;refine Run.zj Z Z (by simp;omega) ?_;refine fR Z ?_;refine Mid.za Z Z Z k1 Z Z ?_;refine fM Z ?_;refine Mid.call (z8j H t.zp hnl i x k1) Z Z Z Z ?_;refine fM Z ?_;refine Run.cond Z Z (fun h2=>?_) (fun h2=>?_)
     ·rw [w0c h2] at hB hw;refine fR Z ?_;refine aL Z Z Z Z Z ?_;refine fM Z ?_;exact zh 7 Z (ih (B,(w1,0)) ⟨by simp;omega,hB,hw⟩) rfl rfl rfl
     rw [w0d (by rw [h2];simp)] at hB hw;refine fR Z ?_;refine Mid.call (z5z H.p18 v hv x.name) Z Z Z Z ?_;refine fM Z ?_
     have hgo:((Wl v x.name).getD Val.zero).Ok:=by
      cases hg:Wl v x.name with
      |none=>exact Val.ZF
      |some y=>exact z9I hv hg
     refine Mid.zc9 [0] Z Z (fun hg=>⟨_,z2k H ds lit w1 0 ((Wl v x.name).getD Val.zero),rfl,rfl⟩) Z (by simp [zP];simp [z5.bd,V.bds,V.bd]) (by repeat' (first |exact trivial|exact rfl|refine And.intro ?_ ?_|exact (congrArg some (z5.zD _ _ _ _ _ _)).symm|exact (congrArg some (z5.zE _ _ _)).symm|(refine (congrArg some (z5.zW ?_ _ _)).symm;intro _;rfl))) Z ?_
     refine fM Z ?_;refine Run.cond Z Z (fun ha=>?_) (fun ha=>?_)
     ·have hO:wT F lit v x (w1,0)=some (F lit x.ty ((Wl v x.name).getD Val.zero) (w1,0)):=by unfold wT;rw [w0c ha]
      rw [hO] at hB hw;have hc:=hrec lit x.ty ((Wl v x.name).getD Val.zero) w1 0 hxo.t hgo;generalize F lit x.ty ((Wl v x.name).getD Val.zero) (w1,0)=G at hc hB hw;refine fR Z ?_;refine aL Z Z Z Z Z ?_
      refine Mid.Zt [0] (hc) Z Z Z Z (by simp [zP];simp [z5.bd,V.bds,V.bd]) (by repeat' (first |exact trivial|exact rfl|refine And.intro ?_ ?_|exact (congrArg some (z5.zD _ _ _ _ _ _)).symm|exact (congrArg some (z5.zE _ _ _)).symm|(refine (congrArg some (z5.zW ?_ _ _)).symm;intro _;rfl))) Z Z (ob':=[(0,(WOo ds lit G.2.1 G.2.2))]) (rfl) Z Z ?_
      refine fM Z ?_;refine apM (fun p:Str×Val=>sE p.1) B [(x.name,G.1)] Z Z Z Z Z ?_ (h1:=by first |omega|(simp;omega)|(simp;done)) (h2:=by first |omega|(simp;omega)|(simp;done));refine fM rfl ?_;refine apM (fun p:Str×Val=>p.2.enc) B [((x.name,G.1):Str×Val)] rfl (congrArg (fun c=>some (T.lst [c])) ((fun p:Str×Val=>Val.zx p.2) ((x.name,G.1):Str×Val)).symm) rfl rfl rfl ?_ (hl:=fun x=>(congrArg List.length ((fun p:Str×Val=>Val.zx p.2) x)).trans rfl);refine fM rfl ?_;refine aL rfl rfl rfl rfl rfl ?_;refine fM rfl ?_;exact zh 7 rfl (ih (B++[(x.name,G.1)],G.2) ⟨by simp;omega,by rw [←hB];simp,hw⟩) rfl rfl rfl
     refine fR Z ?_;refine Run.cond Z Z (fun hb=>?_) (fun hb=>?_)
     ·have hO:wT F lit v x (w1,0)=some (F true x.ty x.YO (w1,0)):=by unfold wT;rw [w0d (by rw [ha];simp),w0c hb]
      rw [hO] at hB hw;have hc:=hpl lit x.ty x.YO w1 0 hxo.t hxo.v;generalize F true x.ty x.YO (w1,0)=G at hc hB hw;refine fR Z ?_;refine aL Z Z Z Z Z ?_
      refine Mid.Zt [0] (hc) Z Z Z Z (by simp [zP];simp [z5.bd,V.bds,V.bd]) (by repeat' (first |exact trivial|exact rfl|refine And.intro ?_ ?_|exact (congrArg some (z5.zD _ _ _ _ _ _)).symm|exact (congrArg some (z5.zE _ _ _)).symm|(refine (congrArg some (z5.zW ?_ _ _)).symm;intro _;rfl))) Z Z (ob':=[(0,(WOo ds lit G.2.1 G.2.2))]) (rfl) Z Z ?_
      refine fM Z ?_;refine apM (fun p:Str×Val=>sE p.1) B [(x.name,G.1)] Z Z Z Z Z ?_ (h1:=by first |omega|(simp;omega)|(simp;done)) (h2:=by first |omega|(simp;omega)|(simp;done));refine fM rfl ?_;refine apM (fun p:Str×Val=>p.2.enc) B [((x.name,G.1):Str×Val)] rfl (congrArg (fun c=>some (T.lst [c])) ((fun p:Str×Val=>Val.zx p.2) ((x.name,G.1):Str×Val)).symm) rfl rfl rfl ?_ (hl:=fun x=>(congrArg List.length ((fun p:Str×Val=>Val.zx p.2) x)).trans rfl);refine fM rfl ?_;refine aL rfl rfl rfl rfl rfl ?_;refine fM rfl ?_;exact zh 7 rfl (ih (B++[(x.name,G.1)],G.2) ⟨by simp;omega,by rw [←hB];simp,hw⟩) rfl rfl rfl
     refine fR Z ?_;refine Mid.call (z6m H.p18.toPr13.toPr x.ty hxo.t) Z Z Z Z ?_;refine fM Z ?_;refine Run.cond Z Z (fun hn=>?_) (fun hn=>?_)
     ·have hO:wT F lit v x (w1,0)=some (Val.zero,(w1,ZI 22 0)):=by unfold wT;rw [w0d (by rw [ha];simp),w0d (by rw [hb];simp),w0c hn]
      rw [hO] at hB hw;refine fR Z ?_
      refine Mid.Zt [0] (Yj H ds lit w1 0 22) Z Z Z Z (by simp [zP];simp [z5.bd,V.bds,V.bd]) (by repeat' (first |exact trivial|exact rfl|refine And.intro ?_ ?_|exact (congrArg some (z5.zD _ _ _ _ _ _)).symm|exact (congrArg some (z5.zE _ _ _)).symm|(refine (congrArg some (z5.zW ?_ _ _)).symm;intro _;rfl))) Z Z (ob':=[(0,(WOo ds lit w1 (ZI 22 0)))]) (rfl) Z Z ?_
      refine fM Z ?_;refine apM (fun p:Str×Val=>sE p.1) B [(x.name,Val.zero)] Z Z Z Z Z ?_ (h1:=by first |omega|(simp;omega)|(simp;done)) (h2:=by first |omega|(simp;omega)|(simp;done));refine fM rfl ?_;refine apM (fun p:Str×Val=>p.2.enc) B [((x.name,Val.zero):Str×Val)] rfl (congrArg (fun c=>some (T.lst [c])) ((fun p:Str×Val=>Val.zx p.2) ((x.name,Val.zero):Str×Val)).symm) rfl rfl rfl ?_ (hl:=fun x=>(congrArg List.length ((fun p:Str×Val=>Val.zx p.2) x)).trans rfl);refine fM rfl ?_;refine aL rfl rfl rfl rfl rfl ?_;refine fM rfl ?_;exact zh 7 rfl (ih (B++[(x.name,Val.zero)],(w1,ZI 22 0)) ⟨by simp;omega,by rw [←hB];simp,hw⟩) rfl rfl rfl
     ·have hO:wT F lit v x (w1,0)=none:=by unfold wT;rw [w0d (by rw [ha];simp),w0d (by rw [hb];simp),w0d (by rw [hn];simp)]
      rw [hO] at hB hw;refine fR Z ?_;refine aL Z Z Z Z Z ?_;refine fM Z ?_;exact zh 7 Z (ih (B,(w1,0)) ⟨by simp;omega,hB,hw⟩) rfl rfl rfl
    ·rw [z9Z (by exact hz)] at hB hw;simp only [w18] at hB hw;obtain ⟨rfl,rfl⟩:=Prod.mk.inj hw;subst hB;refine fR Z ?_;refine lM Z Z Z ?_;refine fM Z ?_;refine Run.zf Z Z (by simp;omega) ?_;refine fR Z ?_;refine Run.fin Z (z4.chg Z Z ?_ ?_)
     ·exact .agg (.cons (.t Z) (.cons (.t Z) (.cons (.t Z) (.cons (.own (by show _=List.map Val.enc (List.map _ _);rw [List.map_map];rfl)) (.cons (.own (by show _=List.map sE (List.map _ _);rw [List.map_map];rfl)) .nil)))))
     ·skip;exact leSA
  ·intro i x r B k1 hi hd hB ih;simp only [z2Q] at hB;refine fR Z ?_;refine lM Z Z Z ?_;refine fM Z ?_;refine Run.zj Z Z (by simp;omega) ?_;refine fR Z ?_;refine Mid.za Z Z Z k1 Z Z ?_;refine fM Z ?_;refine Mid.call (W6 H.p18.toPr13.toPr t.zp hnl x) Z Z Z Z ?_;refine fM Z ?_;refine Run.cond Z Z (fun h2=>?_) (fun h2=>?_)
   ·have h2':(zU x t.zp).isSome=false:=by simpa using h2
    rw [w0d (by rw [h2'];simp)] at hB;refine fR Z ?_
    refine Mid.Zt [0] (Yj H ds lit c B 22) Z Z Z Z (by simp [zP];simp [z5.bd,V.bds,V.bd]) (by repeat' (first |exact trivial|exact rfl|refine And.intro ?_ ?_|exact (congrArg some (z5.zD _ _ _ _ _ _)).symm|exact (congrArg some (z5.zE _ _ _)).symm|(refine (congrArg some (z5.zW ?_ _ _)).symm;intro _;rfl))) Z Z (ob':=[(0,(WOo ds lit c (ZI 22 B)))]) (rfl) Z Z ?_
    refine fM Z ?_;refine aL Z Z Z Z Z ?_;refine fM Z ?_;exact zh 4 Z (ih _ hB) Z Z Z
   ·have h2':(zU x t.zp).isSome=true:=by simpa using h2
    rw [w0c h2'] at hB;refine fR Z ?_;refine aL Z Z Z Z Z ?_;refine fM Z ?_;exact zh 4 Z (ih _ hB) Z Z Z
end Go.GB.C29
namespace Go.GB.C29
open Go.GB Go.GB.C11 Go.GB.C18
variable {P:Program}
def coB (ds:List Def) (l:Int) (F:Co):Co:=fun lit t v w=>
 if z1R ds t.name=true then
  if wS l w.1 w.2=0 then
   if (if QH lit v=true then 0 else v.kind)=0 then (Val.zero,(IntKind.i64.wrap (w.1+1),if nnF t.zw=true then ZI 23 0 else 0))
   else if Wt t.zw=true then z70 (F lit ⟨t.name,(ZD t.zw).tail⟩) v (IntKind.i64.wrap (w.1+1),0)
   else if qw t.name=true then ((z5y t.name v).getD Val.zero,(IntKind.i64.wrap (w.1+1),erO (z5y t.name v) 0))
   else if ((zi t.name ds).getD Def.zero).kind=4 then ((z7g ((zi t.name ds).getD Def.zero) lit v).getD Val.zero,(IntKind.i64.wrap (w.1+1),erO (z7g ((zi t.name ds).getD Def.zero) lit v) 0))
   else z3M F lit ((zi t.name ds).getD Def.zero) v (IntKind.i64.wrap (w.1+1),0)
  else (Val.zero,(IntKind.i64.wrap (w.1+1),wS l w.1 w.2))
 else (Val.zero,(w.1,ZI 10 w.2))
theorem z6V {e er:Int} (h:e≠0):ZI e er≠0:=by unfold ZI;split<;>assumption
theorem z7I {l c er:Int} (h:l>24):wS l c er≠0:=by
 unfold wS;rw [w0c h];split
 ·exact z6V (by decide)
 ·exact z6V (by decide)
theorem z43 (H:PrW P) (ds:List Def) (hD:Z6 ds) (hni:∀d,d∈ds->d.zp.length<=1099511627776) (F:Co) (l:Nat) (hl:l<=100) (hrec:l<=24->CoC P ds F (l+1)):CoC P ds (coB ds l F) l:=by
 intro lit t v c er ht hv;generalize hR:coB ds l F lit t v (c,er)=R;unfold coB at hR
 have hfo:((zi t.name ds).getD Def.zero).Ok:=by
  cases hg:zi t.name ds with
  |none=>exact Def.ZF
  |some y=>exact hD.d y (ZN hg)
 have hfn:((zi t.name ds).getD Def.zero).zp.length<=1099511627776:=by
  cases hg:zi t.name ds with
  |none=>simp [Def.zero]
  |some y=>exact hni y (ZN hg)
 have hg:=z5z H.p18 Val.zero Val.ZF v.text;have hz:Wl Val.zero v.text=none:=rfl;rw [hz] at hg;refine z6.run H.i145 H.mixed Z Z ?_;refine fR Z ?_;refine Mid.call (QW H.p18.toPr13.toPr ds hD t.name) Z Z Z Z ?_;refine fM Z ?_;refine Run.cond Z Z (fun h1=>?_) (fun h1=>?_)
 ·have h1':z1R ds t.name=false:=by simpa using h1
  rw [w0d (by rw [h1'];simp)] at hR;subst hR;refine fR Z ?_
  refine Mid.Zt [0] (Yj H ds lit c er 10) Z Z Z Z (by simp [zP];simp [z5.bd,V.bds,V.bd]) (by repeat' (first |exact trivial|exact rfl|refine And.intro ?_ ?_|exact (congrArg some (z5.zD _ _ _ _ _ _)).symm|exact (congrArg some (z5.zE _ _ _)).symm|(refine (congrArg some (z5.zW ?_ _ _)).symm;intro _;rfl))) Z Z (ob':=[(0,(WOo ds lit c (ZI 10 er)))]) (rfl) Z Z ?_
  refine fM Z ?_;refine Run.fin Z (z4.chg Z Z ?_ ?_)
  ·exact .agg (.cons (.t Z) (.cons (.t Z) (.cons (.t Z) (.cons (.nil Z) (.cons (.nil Z) .nil)))))
  ·skip;exact leSA
 have h1':z1R ds t.name=true:=by simpa using h1
 rw [w0c h1'] at hR;refine fR Z ?_;refine Run.cond Z Z (fun h2=>?_) (fun h2=>?_)
 ·have hm:QH lit v=true:=h2;rw [hm] at hR;refine fR Z ?_;refine Mid.call (hg) Z Z Z Z ?_;refine fM Z ?_;refine Run.zf Z Z (by simp [Val.zero,Val.kind]) ?_;refine fR Z ?_
  refine Mid.Zt [0] (z9D H ds lit c er l) Z Z Z Z (by simp [zP];simp [z5.bd,V.bds,V.bd]) (by repeat' (first |exact trivial|exact rfl|refine And.intro ?_ ?_|exact (congrArg some (z5.zD _ _ _ _ _ _)).symm|exact (congrArg some (z5.zE _ _ _)).symm|(refine (congrArg some (z5.zW ?_ _ _)).symm;intro _;rfl))) Z Z (ob':=[(0,(WOo ds lit (IntKind.i64.wrap (c+1)) (wS l c er)))]) (rfl) Z Z ?_
  refine fM Z ?_;refine Run.cond Z Z (fun h3=>?_) (fun h3=>?_)
  ·have h3':¬ wS l c er=0:=by simpa using h3
   rw [w0d h3'] at hR;subst hR;refine fR Z ?_;refine Run.fin Z (z4.chg Z Z ?_ ?_)
   ·exact .agg (.cons (.t Z) (.cons (.t Z) (.cons (.t Z) (.cons (.nil Z) (.cons (.nil Z) .nil)))))
   ·skip;exact leSA
  have h3':wS l c er=0:=by simpa using h3
  rw [w0c h3'] at hR;rw [h3'];rw [w0c rfl,w0c rfl] at hR;refine fR Z ?_;refine Run.zj Z Z Z ?_;refine fR Z ?_;refine Mid.call (z6m H.p18.toPr13.toPr t ht) Z Z Z Z ?_;refine fM Z ?_;refine Run.cond Z Z (fun h5=>?_) (fun h5=>?_)
  ·rw [w0c h5] at hR;subst hR;refine fR Z ?_
   refine Mid.Zt [0] (Yj H ds lit (IntKind.i64.wrap (c+1)) 0 23) Z Z Z Z (by simp [zP];simp [z5.bd,V.bds,V.bd]) (by repeat' (first |exact trivial|exact rfl|refine And.intro ?_ ?_|exact (congrArg some (z5.zD _ _ _ _ _ _)).symm|exact (congrArg some (z5.zE _ _ _)).symm|(refine (congrArg some (z5.zW ?_ _ _)).symm;intro _;rfl))) Z Z (ob':=[(0,(WOo ds lit (IntKind.i64.wrap (c+1)) (ZI 23 0)))]) (rfl) Z Z ?_
   refine fM Z ?_;refine Run.fin Z (z4.chg Z Z ?_ ?_)
   ·exact .agg (.cons (.t Z) (.cons (.t Z) (.cons (.t Z) (.cons (.nil Z) (.cons (.nil Z) .nil)))))
   ·skip;exact leSA
  ·rw [w0d (by rw [h5];simp)] at hR;subst hR;refine fR Z ?_;refine Run.fin Z (z4.chg Z Z ?_ ?_)
   ·exact .agg (.cons (.t Z) (.cons (.t Z) (.cons (.t Z) (.cons (.nil Z) (.cons (.nil Z) .nil)))))
   ·skip;exact leSA
 have hm:QH lit v=false:=h2;rw [hm] at hR;refine fR Z ?_
 refine Mid.Zt [0] (z9D H ds lit c er l) Z Z Z Z (by simp [zP];simp [z5.bd,V.bds,V.bd]) (by repeat' (first |exact trivial|exact rfl|refine And.intro ?_ ?_|exact (congrArg some (z5.zD _ _ _ _ _ _)).symm|exact (congrArg some (z5.zE _ _ _)).symm|(refine (congrArg some (z5.zW ?_ _ _)).symm;intro _;rfl))) Z Z (ob':=[(0,(WOo ds lit (IntKind.i64.wrap (c+1)) (wS l c er)))]) (rfl) Z Z ?_
 refine fM Z ?_;refine Run.cond Z Z (fun h3=>?_) (fun h3=>?_)
 ·have h3':¬ wS l c er=0:=by simpa using h3
  rw [w0d h3'] at hR;subst hR;refine fR Z ?_;refine Run.fin Z (z4.chg Z Z ?_ ?_)
  ·exact .agg (.cons (.t Z) (.cons (.t Z) (.cons (.t Z) (.cons (.nil Z) (.cons (.nil Z) .nil)))))
  ·skip;exact leSA
 have h3':wS l c er=0:=by simpa using h3
 rw [w0c h3'] at hR;rw [h3'];rw [w0d (by simp:¬ (false=true))] at hR;refine fR Z ?_;refine Run.cond Z Z (fun h4=>?_) (fun h4=>?_)
 ·have h4':v.kind=0:=by simpa using h4
  rw [w0c h4'] at hR;refine fR Z ?_;refine Mid.call (z6m H.p18.toPr13.toPr t ht) Z Z Z Z ?_;refine fM Z ?_;refine Run.cond Z Z (fun h5=>?_) (fun h5=>?_)
  ·rw [w0c h5] at hR;subst hR;refine fR Z ?_
   refine Mid.Zt [0] (Yj H ds lit (IntKind.i64.wrap (c+1)) 0 23) Z Z Z Z (by simp [zP];simp [z5.bd,V.bds,V.bd]) (by repeat' (first |exact trivial|exact rfl|refine And.intro ?_ ?_|exact (congrArg some (z5.zD _ _ _ _ _ _)).symm|exact (congrArg some (z5.zE _ _ _)).symm|(refine (congrArg some (z5.zW ?_ _ _)).symm;intro _;rfl))) Z Z (ob':=[(0,(WOo ds lit (IntKind.i64.wrap (c+1)) (ZI 23 0)))]) (rfl) Z Z ?_
   refine fM Z ?_;refine Run.fin Z (z4.chg Z Z ?_ ?_)
   ·exact .agg (.cons (.t Z) (.cons (.t Z) (.cons (.t Z) (.cons (.nil Z) (.cons (.nil Z) .nil)))))
   ·skip;exact leSA
  ·rw [w0d (by rw [h5];simp)] at hR;subst hR;refine fR Z ?_;refine Run.fin Z (z4.chg Z Z ?_ ?_)
   ·exact .agg (.cons (.t Z) (.cons (.t Z) (.cons (.t Z) (.cons (.nil Z) (.cons (.nil Z) .nil)))))
   ·skip;exact leSA
 have h4':¬ v.kind=0:=by simpa using h4
 rw [w0d h4'] at hR
 have hl24:l<=24:=by
  by_cases h:l<=24
  ·exact h
  ·exact absurd h3' (z7I (by omega))
 have hrc:=hrec hl24;refine fR Z ?_
 cases h6:Wt t.zw with
 |true=>
  rw [w0c h6] at hR;refine Mid.call (qe H.p18.toPr13.toPr t ht h6) Z Z Z Z ?_;refine fM Z ?_;refine Run.zj Z Z Z ?_;refine fR Z ?_;have hto:(⟨t.name,(ZD t.zw).tail⟩:Ref).Ok:=z5L ht
  refine Mid.Zt [0] (zdj H ds F l hl hrc lit ⟨t.name,(ZD t.zw).tail⟩ hto v hv (IntKind.i64.wrap (c+1)) 0) Z Z Z Z (by simp [zP];simp [z5.bd,V.bds,V.bd]) (by repeat' (first |exact trivial|exact rfl|refine And.intro ?_ ?_|exact (congrArg some (z5.zD _ _ _ _ _ _)).symm|exact (congrArg some (z5.zE _ _ _)).symm|(refine (congrArg some (z5.zW ?_ _ _)).symm;intro _;rfl))) Z Z (ob':=[(0,(WOo ds lit R.2.1 R.2.2))]) ((by rw [←hR];rfl)) Z Z ?_
  refine fM Z ?_;refine Run.fin Z (z4.chg Z Z ?_ ?_)
  ·rw [←hR];exact .agg (.cons (.t Z) (.cons (.t Z) (.cons (.t Z) (.cons (.t Z) (.cons (.t Z) .nil)))))
  ·skip;exact leSA
 |false=>
  rw [w0d (by rw [h6];simp)] at hR;refine Mid.call (WY H.p18.toPr13.toPr t ht h6) Z Z Z Z ?_;refine fM Z ?_;refine Run.zf Z Z Z ?_;refine fR Z ?_;refine Mid.call (YZ H.p18.toPr13.toPr t.name) Z Z Z Z ?_;refine fM Z ?_;refine Run.cond Z Z (fun h7=>?_) (fun h7=>?_)
  ·rw [w0c h7] at hR;refine fR Z ?_
   refine Mid.Zt [0] (z8d H ds lit (IntKind.i64.wrap (c+1)) 0 t.name v) Z Z Z Z (by simp [zP];simp [z5.bd,V.bds,V.bd]) (by repeat' (first |exact trivial|exact rfl|refine And.intro ?_ ?_|exact (congrArg some (z5.zD _ _ _ _ _ _)).symm|exact (congrArg some (z5.zE _ _ _)).symm|(refine (congrArg some (z5.zW ?_ _ _)).symm;intro _;rfl))) Z Z (ob':=[(0,(WOo ds lit R.2.1 R.2.2))]) ((by rw [←hR];rfl)) Z Z ?_
   refine fM Z ?_;refine Run.fin Z (z4.chg Z Z ?_ ?_)
   ·rw [←hR];exact .agg (.cons (.t Z) (.cons (.t Z) (.cons (.t Z) (.cons (.t Z) (.cons (.t Z) .nil)))))
   ·skip;exact leSA
  rw [w0d (by rw [h7];simp)] at hR;refine fR Z ?_;refine Mid.call (yh H.p18.toPr13.toPr ds hD.l t.name) Z Z Z Z ?_;refine fM Z ?_;refine Run.cond Z Z (fun h8=>?_) (fun h8=>?_)
  ·have h8':((zi t.name ds).getD Def.zero).kind=4:=by simpa using h8
   rw [w0c h8'] at hR;refine fR Z ?_
   refine Mid.Zt [0] (zep H ds lit (IntKind.i64.wrap (c+1)) 0 ((zi t.name ds).getD Def.zero) hfo v) Z Z Z Z (by simp [zP];simp [z5.bd,V.bds,V.bd]) (by repeat' (first |exact trivial|exact rfl|refine And.intro ?_ ?_|exact (congrArg some (z5.zD _ _ _ _ _ _)).symm|exact (congrArg some (z5.zE _ _ _)).symm|(refine (congrArg some (z5.zW ?_ _ _)).symm;intro _;rfl))) Z Z (ob':=[(0,(WOo ds lit R.2.1 R.2.2))]) ((by rw [←hR];rfl)) Z Z ?_
   refine fM Z ?_;refine Run.fin Z (z4.chg Z Z ?_ ?_)
   ·rw [←hR];exact .agg (.cons (.t Z) (.cons (.t Z) (.cons (.t Z) (.cons (.t Z) (.cons (.t Z) .nil)))))
   ·skip;exact leSA
  ·have h8':¬ ((zi t.name ds).getD Def.zero).kind=4:=by simpa using h8
   rw [w0d h8'] at hR;refine fR Z ?_
   refine Mid.Zt [0] (zav H ds F l hl hrc lit ((zi t.name ds).getD Def.zero) hfo hfn v hv (IntKind.i64.wrap (c+1)) 0) Z Z Z Z (by simp [zP];simp [z5.bd,V.bds,V.bd]) (by repeat' (first |exact trivial|exact rfl|refine And.intro ?_ ?_|exact (congrArg some (z5.zD _ _ _ _ _ _)).symm|exact (congrArg some (z5.zE _ _ _)).symm|(refine (congrArg some (z5.zW ?_ _ _)).symm;intro _;rfl))) Z Z (ob':=[(0,(WOo ds lit R.2.1 R.2.2))]) ((by rw [←hR];rfl)) Z Z ?_
   refine fM Z ?_;refine Run.fin Z (z4.chg Z Z ?_ ?_)
   ·rw [←hR];exact .agg (.cons (.t Z) (.cons (.t Z) (.cons (.t Z) (.cons (.t Z) (.cons (.t Z) .nil)))))
   ·skip;exact leSA
def coN (ds:List Def):Nat->Co
 |0=>coB ds 25 fun _ _ _ w=>(Val.zero,w)
 |k+1=>coB ds ((24 - k:Nat):Int) (coN ds k)
theorem zbk (H:PrW P) (ds:List Def) (hD:Z6 ds) (hni:∀d,d∈ds->d.zp.length<=1099511627776):∀(k:Nat),k<=24->CoC P ds (coN ds k) (25 - k)
 |0,_=>z43 H ds hD hni _ 25 (by omega) (fun h=>by omega)
 |k+1,hk=>by
  have h:=zbk H ds hD hni k (by omega)
  have e:25 - (k+1)=24 - k:=by omega
  rw [e]
  have e2:25 - k=24 - k+1:=by omega
  rw [e2] at h;exact z43 H ds hD hni (coN ds k) (24 - k) (by omega) (fun _=>h)
def z6k (ds:List Def) (lit:Bool) (t:Ref) (v:Val) (w:W2):Val×Int:=if (coN ds 24 lit t v w).2.2=0 then ((coN ds 24 lit t v w).1,0) else (Val.zero,(coN ds 24 lit t v w).2.2)
theorem zb9 (H:PrW P) (ds:List Def) (hD:Z6 ds) (hni:∀d,d∈ds->d.zp.length<=1099511627776) (lit:Bool) (t:Ref) (ht:t.Ok) (v:Val) (hv:v.Ok) (c er:Int):
  z6 P 138 [.ptr 0 0,t.v,v.v] ⟨[(0,(WOo ds lit c er))],1⟩ {v:= .tup [(z6k ds lit t v (c,er)).1.v,.t (.int .i64 (z6k ds lit t v (c,er)).2)],ob:=[(0,(WOo ds lit ((coN ds 24 lit t v (c,er)).2.1) ((coN ds 24 lit t v (c,er)).2.2)))],rd:=true}:=by
 have hc:=zbk H ds hD hni 24 (w07 _) lit t v c er ht hv;unfold z6k;generalize coN ds 24 lit t v (c,er)=G at hc;refine z6.run H.i138 H.mixed Z Z ?_;refine fR Z ?_
 refine Mid.Zt [0] (hc) Z Z Z Z (by simp [zP];simp [z5.bd,V.bds,V.bd]) (by repeat' (first |exact trivial|exact rfl|refine And.intro ?_ ?_|exact (congrArg some (z5.zD _ _ _ _ _ _)).symm|exact (congrArg some (z5.zE _ _ _)).symm|(refine (congrArg some (z5.zW ?_ _ _)).symm;intro _;rfl))) Z Z (ob':=[(0,(WOo ds lit G.2.1 G.2.2))]) (rfl) Z Z ?_
 refine fM Z ?_;refine Run.cond Z Z (fun h1=>?_) (fun h1=>?_)
 ·have h1':¬ G.2.2=0:=by simpa using h1
  rw [w0d h1'];refine fR Z ?_;refine Run.fin Z (z4.chg Z Z ?_ ?_)
  ·exact .wx (.agg (.cons (.t Z) (.cons (.t Z) (.cons (.t Z) (.cons (.nil Z) (.cons (.nil Z) .nil)))))) (.t Z)
  ·skip;exact leSA
 ·have h1':G.2.2=0:=by simpa using h1
  rw [w0c h1'];refine fR Z ?_;refine Run.fin Z (z4.chg Z Z ?_ ?_)
  ·exact .wx (.agg (.cons (.t Z) (.cons (.t Z) (.cons (.t Z) (.cons (.t Z) (.cons (.t Z) .nil)))))) (.t Z)
  ·skip;exact leSA
def z1d (ds:List Def) (t:Ref) (v:Val):Val×Int:=if (z1R ds t.name&&QH true v)=true then (Val.zero,8) else z6k ds true t v (0,0)
theorem z5N (H:PrW P) (ds:List Def) (hD:Z6 ds) (hni:∀d,d∈ds->d.zp.length<=1099511627776) (t:Ref) (ht:t.Ok) (v:Val) (hv:v.Ok):
  z6 P 125 [yT ds,t.v,v.v,Val.zero.v] ⟨[],0⟩ {v:= .tup [(z1d ds t v).1.v,.t (.int .i64 (z1d ds t v).2)]}:=by
 have hr:=zb9 H ds hD hni true t ht v hv 0 0;unfold z1d;generalize z6k ds true t v (0,0)=G at hr;generalize coN ds 24 true t v (0,0)=E at hr;refine z6.run H.i125 H.mixed Z Z ?_;refine fR Z ?_;refine Mid.call (QW H.p18.toPr13.toPr ds hD t.name) Z Z Z Z ?_;refine fM Z ?_
 refine Mid.zc9 [5] Z Z (fun hg=>⟨_,z2k H ds true 0 0 v,rfl,rfl⟩) Z (by simp [zP];simp [z5.bd,V.bds,V.bd]) (by repeat' (first |exact trivial|exact rfl|refine And.intro ?_ ?_|exact (congrArg some (z5.zD _ _ _ _ _ _)).symm|exact (congrArg some (z5.zE _ _ _)).symm|(refine (congrArg some (z5.zW ?_ _ _)).symm;intro _;rfl))) Z ?_
 refine fM Z ?_;refine Run.cond Z Z (fun h1=>?_) (fun h1=>?_)
 ·rw [w0c h1];refine fR Z ?_;refine Run.fin Z (z4.go ?_);exact .wx (.agg (.cons (.t Z) (.cons (.t Z) (.cons (.t Z) (.cons (.nil Z) (.cons (.nil Z) .nil)))))) (.t Z)
 ·rw [w0d (by rw [h1];simp)];refine fR Z ?_
  refine Mid.Zt [5] (hr) Z Z Z Z (by simp [zP];simp [z5.bd,V.bds,V.bd]) (by repeat' (first |exact trivial|exact rfl|refine And.intro ?_ ?_|exact (congrArg some (z5.zD _ _ _ _ _ _)).symm|exact (congrArg some (z5.zE _ _ _)).symm|(refine (congrArg some (z5.zW ?_ _ _)).symm;intro _;rfl))) Z Z (ob':=[(5,(WOo ds true E.2.1 E.2.2))]) (rfl) Z Z ?_
  refine fM Z ?_;refine Run.fin Z (z4.go ?_);exact .wx (.agg (.cons (.t Z) (.cons (.t Z) (.cons (.t Z) (.cons (.t Z) (.cons (.t Z) .nil)))))) (.t Z)
def qV (ds:List Def) (t:Ref) (v:Val):Val×Int:=z6k ds false t v (0,0)
theorem z8C (H:PrW P) (ds:List Def) (hD:Z6 ds) (hni:∀d,d∈ds->d.zp.length<=1099511627776) (t:Ref) (ht:t.Ok) (v:Val) (hv:v.Ok):
  z6 P 127 [yT ds,t.v,v.v] ⟨[],0⟩ {v:= .tup [(qV ds t v).1.v,.t (.int .i64 (qV ds t v).2)]}:=by
 have hr:=zb9 H ds hD hni false t ht v hv 0 0;unfold qV;generalize z6k ds false t v (0,0)=G at hr;generalize coN ds 24 false t v (0,0)=E at hr;refine z6.run H.i127 H.mixed Z Z ?_
 refine Run.W3 (f:=13) Z (by (repeat' (first |exact trivial|exact w0j _|exact yY _|exact yX _|exact grd3 _ _|exact yZ _ _|refine And.intro ?_ ?_|exact rfl|(simp;done)|(simp<;>omega)));done) ?_
 refine Run.QM 5 Z (st':={env:=[(4,.ptr 1 0),(5,.ptr 2 0),(6,.ptr 3 0),(8,.ptr 4 0)],s:=⟨[(0,.cells [.t (.lst (List.map Def.enc ds))]),(1,.cells [.t (.str t.name),.t (.lst (t.zw.map nE))]),(2,(VCo v)),(3,.cells [.t (.int .i64 0),.t (.int .i64 0),.t (.str []),.zJ,.zJ]),(4,(WOo ds false 0 0))],5⟩}) ?_ Z Z Z (by repeat' (first |exact trivial|exact LeZ.le (w0x rfl) (by first |exact LeX.t|exact LeX.top|exact LeX.same rfl|exact LeX.Zc|exact LeX.Zb|exact LeX.fowT|exact LeX.tEq (by simp))|exact LeZ.gE _ _ (w0x rfl) rfl (by first |exact w1f.symm|exact (w0w (by simp)).symm|simp) (by simp) (fun _=>rfl)|exact Or.inr ⟨w0x rfl,w0x rfl,rfl⟩|refine Or.inl ⟨w0x rfl,_,rfl,?_⟩|refine Yw.cells ?_|exact Yw.le (LeO.arr (by first |rfl|simp))|exact Yw.le (LeO.cE (by first |rfl|simp))|exact Yw.le (LeO.mE (by first |rfl|simp) (by first |exact Or.inl rfl|exact Or.inr rfl))|refine WS.cons ?_ ?_|exact WS.nil|refine And.intro ?_ ?_)) (by repeat' (first |exact trivial|exact LeZ.le (w0x rfl) (by first |exact LeX.t|exact LeX.top|exact LeX.same rfl|exact LeX.Zc|exact LeX.Zb|exact LeX.fowT|exact LeX.tEq (by simp))|exact LeZ.gE _ _ (w0x rfl) rfl (by first |exact w1f.symm|exact (w0w (by simp)).symm|simp) (by simp) (fun _=>rfl)|exact Or.inr ⟨w0x rfl,w0x rfl,rfl⟩|refine Or.inl ⟨w0x rfl,_,rfl,?_⟩|refine Yw.cells ?_|exact Yw.le (LeO.arr (by first |rfl|simp))|exact Yw.le (LeO.cE (by first |rfl|simp))|exact Yw.le (LeO.mE (by first |rfl|simp) (by first |exact Or.inl rfl|exact Or.inr rfl))|refine WS.cons ?_ ?_|exact WS.nil|refine And.intro ?_ ?_))
 refine fR Z ?_
 refine Mid.Zt [4] (hr) Z Z Z Z (by simp [zP];simp [z5.bd,V.bds,V.bd]) (by repeat' (first |exact trivial|exact rfl|refine And.intro ?_ ?_|exact (congrArg some (z5.zD _ _ _ _ _ _)).symm|exact (congrArg some (z5.zE _ _ _)).symm|(refine (congrArg some (z5.zW ?_ _ _)).symm;intro _;rfl))) Z Z (ob':=[(4,(WOo ds false E.2.1 E.2.2))]) (rfl) Z Z ?_
 refine fM Z ?_;refine Run.fin Z (z4.go ?_);exact .wx (.agg (.cons (.t Z) (.cons (.t Z) (.cons (.t Z) (.cons (.t Z) (.cons (.t Z) .nil)))))) (.t Z)
end Go.GB.C29
namespace Go.GB.C11
open Go.GB
variable {P:Program}
theorem zai (H:Pr P) (ds:List Def) (hD:Z6 ds) (hil:∀o,o∈ds->o.zp.length<=2199023255552) (q:Bool) (ht:(Ym ds q).length<=4398046511104):z6 P 63 [yT ds,.t (.bool q)] ⟨[],0⟩ {v:= .own 1 2 ((Ym ds q).map zn.enc),ob:=[(1,.arr (Ym ds q).length)],n:=2}:=by
 have hdl:=hD.l;have hT:z5u ds 0 ds++z7i ds q=Ym ds q:=rfl;generalize Ym ds q=tot at ht hT;refine z6.run H.i63 H.mixed Z Z ?_;refine fR Z ?_;refine zu ds (fun i (B:List zn)=>{env:=[(1,.t (.bool q)),(2,.ptr 0 0),(5,.own 1 2 (B.map zn.enc)),(6,.t (.int .i64 i))],s:=⟨[(0,.cells [.t (.lst (ds.map Def.enc))]),(1,.arr B.length)],2⟩}) (fun r i B=>B++z5u ds i r++z7i ds q=tot) 1 [] Z (by simpa using hT) Z Z Z ?_ ?_
 ·rintro B hB;simp only [z5u,w18] at hB;have hlen:=congrArg List.length hB;simp only [w0g] at hlen;refine fR Z ?_;refine lM Z Z Z ?_;refine fM Z ?_;refine Run.zf Z Z (by simp) ?_;refine fR Z ?_;refine Mid.call (yh H ds hD.l z0a) Z Z Z Z ?_;refine fM Z ?_;refine Run.cond Z Z (fun hc=>?_) (fun hc=>?_)
  ·have hc':z7i ds q=[⟨30,z0a⟩]:=by unfold z7i;rw [w0c (show (q&&!(zi z0a ds).isSome)=true from hc)]
   rw [hc'] at hB hlen;simp only [w0b,w16] at hlen;refine fR Z ?_;refine apM zn.enc B [(⟨30,z0a⟩:zn)] Z Z Z Z Z ?_ (h1:=by first |omega|(simp;omega)|(simp;done)) (h2:=by first |omega|(simp;omega)|(simp;done));refine fM rfl ?_;subst hB;refine Run.fin rfl (z4.chg rfl rfl ?_ ?_)
   ·exact .le (.same Z)
   ·exact leSA
  ·have hc':z7i ds q=[]:=by unfold z7i;rw [w0d (by rw [show (q&&!(zi z0a ds).isSome)=false from hc];simp)]
   rw [hc'] at hB;refine fR Z ?_;rw [w18] at hB;subst hB;refine Run.fin Z (z4.chg Z Z ?_ ?_)
   ·exact .le (.same Z)
   ·exact leSA
 ·rintro i d r B h1 hi hdr hB ih;have hd:=hD.d d (zMG h1);have hnm:=hd.nm;have hnl:=hd.nl;simp only [z5u] at hB;have hlen:=congrArg List.length hB;simp only [w0g] at hlen;refine fR Z ?_;refine lM Z Z Z ?_;refine fM Z ?_;refine Run.zj Z Z (by simp;omega) ?_;refine fR Z ?_;refine Mid.za Z Z Z h1 Z Z ?_;refine fM Z ?_;refine Mid.call (zbn H ds hD hil i d h1) Z Z Z Z ?_;skip;generalize YY ds i d=W at hB hlen;refine apM zn.enc B W Z Z Z Z Z ?_ (h1:=by first |omega|(simp;omega)|(simp;done)) (h2:=by first |omega|(simp;omega)|(simp;done));refine fM rfl ?_;unfold zdH at hB hlen;refine Run.cond rfl rfl (fun k1=>?_) (fun k1=>?_)
  ·have k1':d.kind=1:=by simpa using k1
   rw [w0c k1'] at hB hlen;skip;refine Run.zj Z Z k1 ?_;refine fR Z ?_;refine Mid.call (Qh H ds hD d hd (by omega)) Z Z Z Z ?_;skip;generalize z0G ds d.name [] d.fields=M at hB hlen;refine apM zn.enc (B++W) M Z Z Z Z Z ?_ (h1:=by first |omega|(simp;omega)|(simp;done)) (h2:=by first |omega|(simp;omega)|(simp;done));refine fM rfl ?_;refine aL rfl rfl rfl rfl rfl ?_;refine fM rfl ?_;exact zh 2 rfl (ih (B++W++M) (by rw [←hB];simp)) rfl rfl rfl
  ·have k1':¬ d.kind=1:=by simpa using k1
   rw [w0d k1'] at hB hlen;refine fR Z ?_;refine Run.cond Z Z (fun k2=>?_) (fun k2=>?_)
   ·have k2':d.kind=2:=by simpa using k2
    rw [w0c k2'] at hB hlen;refine fR Z ?_;refine Mid.call (Qh H ds hD d hd (by omega)) Z Z Z Z ?_;skip;generalize z0G ds d.name [] d.fields=M at hB hlen;refine apM zn.enc (B++W) M Z Z Z Z Z ?_ (h1:=by first |omega|(simp;omega)|(simp;done)) (h2:=by first |omega|(simp;omega)|(simp;done));refine fM rfl ?_;refine aL rfl rfl rfl rfl rfl ?_;refine fM rfl ?_;exact zh 2 rfl (ih (B++W++M) (by rw [←hB];simp)) rfl rfl rfl
   ·have k2':¬ d.kind=2:=by simpa using k2
    rw [w0d k2'] at hB hlen;refine fR Z ?_;refine Run.cond Z Z (fun k4=>?_) (fun k4=>?_)
    ·have k4':d.kind=4:=by simpa using k4
     rw [w0c k4'] at hB hlen;refine fR Z ?_;refine Mid.call (q5 H d hd (by omega)) Z Z Z Z ?_;skip;generalize z21 d.name [] d.members=M at hB hlen;refine apM zn.enc (B++W) M Z Z Z Z Z ?_ (h1:=by first |omega|(simp;omega)|(simp;done)) (h2:=by first |omega|(simp;omega)|(simp;done));refine fM rfl ?_;refine aL rfl rfl rfl rfl rfl ?_;refine fM rfl ?_;exact zh 2 rfl (ih (B++W++M) (by rw [←hB];simp)) rfl rfl rfl
    ·have k4':¬ d.kind=4:=by simpa using k4
     rw [w0d k4'] at hB hlen;refine fR Z ?_;refine Run.cond Z Z (fun k5=>?_) (fun k5=>?_)
     ·have k5':d.kind=5:=by simpa using k5
      rw [w0c k5'] at hB hlen;refine fR Z ?_;refine pu Z ?_;refine Mid.call (YV H ds hD d.zp hnl hd.n (d.name++[46]) [] (by simp;omega) (by decide) (by omega)) Z Z Z Z ?_;skip;generalize inF ds (d.name++[46]) [] [] d.zp=M at hB hlen;refine apM zn.enc (B++W) M Z Z Z Z Z ?_ (h1:=by first |omega|(simp;omega)|(simp;done)) (h2:=by first |omega|(simp;omega)|(simp;done));refine fM rfl ?_;refine aL rfl rfl rfl rfl rfl ?_;refine fM rfl ?_;exact zh 2 rfl (ih (B++W++M) (by rw [←hB];simp)) rfl rfl rfl
     ·have k5':¬ d.kind=5:=by simpa using k5
      rw [w0d k5'] at hB hlen;refine fR Z ?_;refine aL Z Z Z Z Z ?_;refine fM Z ?_;exact zh 2 Z (ih (B++W) (by rw [←hB];simp)) Z Z Z
end Go.GB.C11
namespace Go.GB.C29
open Go.GB Go.GB.C11 Go.GB.C18
structure PrS (P:Program):Prop where
 w:PrW P
 mixed:P.follows .mixedOrders=true
 i36:z9 P 36=some (n36,c36.bare,r36)
 i65:z9 P 65=some (n65,c65.bare,r65)
variable {P:Program}
def z60 (ds:List Def) (pl op en:Str) (x:Input):List zn:=if x.has=true then (if (z1d ds x.ty x.YO).2=0 then [] else [⟨23,pl++op++x.name++en⟩]) else []
def z07 (ds:List Def) (pl op en:Str):List Input->List zn
 |[]=>[]
 |x::r=>z60 ds pl op en x++z07 ds pl op en r
theorem zbY (ds:List Def) (pl op en:Str) (x:Input):(z60 ds pl op en x).length<=1:=by
 unfold z60;split<;>try split
 all_goals simp
theorem z3s (ds:List Def) (pl op en:Str):∀l:List Input,(z07 ds pl op en l).length<=l.length
 |[]=>by simp [z07]
 |x::r=>by
  have:=z3s ds pl op en r;have:=zbY ds pl op en x;simp only [z07,w0g,w0b];omega
theorem z1E (H:PrW P) (ds:List Def) (hD:Z6 ds) (hni:∀d,d∈ds->d.zp.length<=1099511627776) (l:List Input) (hl:l.length<=1099511627776) (ho:∀x,x∈l->x.Ok) (pl op en:Str) (h1:pl.length<=1000000000000000) (h2:op.length<=10) (h3:en.length<=10):
  z6 P 97 [yT ds,.t (.lst (l.map Input.enc)),.t (.str pl),.t (.str op),.t (.str en)] ⟨[],0⟩ {v:= .t (.lst ((z07 ds pl op en l).map zn.enc))}:=by
 generalize hR:z07 ds pl op en l=R;refine z6.run H.i97 H.mixed Z Z ?_;refine fR Z ?_;refine zu l (fun i (B:List zn)=>{env:=[(1,.t (.lst (l.map Input.enc))),(2,.t (.str pl)),(3,.t (.str op)),(4,.t (.str en)),(5,.ptr 0 0),(11,.own 1 2 (B.map zn.enc)),(12,.t (.int .i64 i))],s:=⟨[(0,.cells [.t (.lst (ds.map Def.enc))]),(1,.arr B.length)],2⟩}) (fun r i B=>B.length<=i/\B++z07 ds pl op en r=R) 1 [] Z ⟨w07 _,hR⟩ Z Z Z ?_ ?_
 ·rintro B ⟨_,hB⟩;simp only [z07,w18] at hB;refine fR Z ?_;refine lM Z Z Z ?_;refine fM Z ?_;refine Run.zf Z Z (by simp) ?_;refine fR Z ?_;refine Run.fin Z (z4.go ?_);exact .own (by rw [hB])
 ·rintro i x r B k1 hi hd ⟨hBl,hB⟩ ih;have hBl':B.length<=i:=hBl;have hxo:=ho x (zMG k1);have hxn:=hxo.nm;simp only [z07] at hB;refine fR Z ?_;refine lM Z Z Z ?_;refine fM Z ?_;refine Run.zj Z Z (by simp;omega) ?_;refine fR Z ?_;refine Mid.za Z Z Z k1 Z Z ?_;refine fM Z ?_;refine Run.cond Z Z (fun h4=>?_) (fun h4=>?_)
  ·have h4':x.has=false:=by simpa using h4
   have e:z60 ds pl op en x=[]:=by unfold z60;rw [w0d (by rw [h4'];simp)]
   rw [e,w1y] at hB;refine fR Z ?_;refine aL Z Z Z Z Z ?_;refine fM Z ?_;exact zh 2 Z (ih B ⟨by omega,hB⟩) rfl rfl rfl
  have h4':x.has=true:=by simpa using h4
  refine fR Z ?_;refine Mid.za Z Z Z k1 Z Z ?_;refine fM Z ?_;refine Mid.za Z Z Z k1 Z Z ?_;refine fM Z ?_;refine Mid.call (z5N H ds hD hni x.ty hxo.t x.YO hxo.v) Z Z Z Z ?_;refine fM Z ?_;refine Run.cond Z Z (fun h5=>?_) (fun h5=>?_)
  ·have h5':¬ (z1d ds x.ty x.YO).2=0:=by simpa using h5
   have e:z60 ds pl op en x=[⟨23,pl++op++x.name++en⟩]:=by unfold z60;rw [w0c h4',w0d h5']
   rw [e] at hB;refine fR Z ?_;refine pu Z ?_;refine fM Z ?_;refine Mid.za Z Z Z k1 Z Z ?_;refine fM Z ?_;refine pu Z ?_;refine fM Z ?_;refine pu Z ?_;refine fM Z ?_;refine apM zn.enc B [(⟨23,pl++op++x.name++en⟩:zn)] Z Z Z Z Z ?_ (h1:=by first |omega|(simp;omega)|(simp;done)) (h2:=by first |omega|(simp;omega)|(simp;done));refine fM rfl ?_;refine aL rfl rfl rfl rfl rfl ?_;refine fM rfl ?_;exact zh 2 rfl (ih (B++[⟨23,pl++op++x.name++en⟩]) ⟨by simp;omega,by rw [←hB];simp⟩) rfl rfl rfl
  ·have h5':(z1d ds x.ty x.YO).2=0:=by simpa using h5
   have e:z60 ds pl op en x=[]:=by unfold z60;rw [w0c h4',w0c h5']
   rw [e,w1y] at hB;refine fR Z ?_;refine aL Z Z Z Z Z ?_;refine fM Z ?_;exact zh 2 Z (ih B ⟨by omega,hB⟩) rfl rfl rfl
def z0e (ds:List Def) (t:Str):List Field->List zn
 |[]=>[]
 |f::r=>z07 ds (t++[46]++f.name) [40] [41] f.args++z0e ds t r
def W0 (ds:List Def):List Def->List zn
 |[]=>[]
 |d::r=>z0e ds d.name d.fields++z07 ds d.name [46] [] d.zp++W0 ds r
theorem z5V (H:PrS P) (ds:List Def) (hD:Z6 ds) (hni:∀d,d∈ds->d.zp.length<=1099511627776) (hnf:∀d,d∈ds->∀f,f∈d.fields->f.args.length<=1099511627776) (hl:(W0 ds ds).length<=4398046511104):
  z6 P 65 [yT ds] ⟨[],0⟩ {v:= .t (.lst ((W0 ds ds).map zn.enc))}:=by
 have hdl:=hD.l;generalize hR:W0 ds ds=R at hl;refine z6.run H.i65 H.mixed Z Z ?_;refine fR Z ?_;refine zu ds (fun i (B:List zn)=>{env:=[(1,.ptr 0 0),(3,.own 1 2 (B.map zn.enc)),(4,.t (.int .i64 i))],s:=⟨[(0,.cells [.t (.lst (ds.map Def.enc))]),(1,.arr B.length)],2⟩}) (fun r i B=>B++W0 ds r=R) 1 [] Z hR Z Z Z ?_ ?_
 ·rintro B hB;simp only [W0,w18] at hB;refine fR Z ?_;refine lM Z Z Z ?_;refine fM Z ?_;refine Run.zf Z Z (by simp) ?_;refine fR Z ?_;refine Run.fin Z (z4.go ?_);exact .own (by rw [hB])
 ·rintro i t r B k1 hi hd hB ih;have htm:=zMG k1;have hto:=hD.d t htm;have htn:=hto.nm;have htfl:=hto.fl;have htnl:=hni t htm;simp only [W0] at hB;refine fR Z ?_;refine lM Z Z Z ?_;refine fM Z ?_;refine Run.zj Z Z (by simp;omega) ?_;refine fR Z ?_;refine Mid.za Z Z Z k1 Z Z ?_;refine fM Z ?_;generalize hS:B++z0e ds t.name t.fields=S;refine zu t.fields (fun j (C:List zn)=>{env:=[(1,.ptr 0 0),(3,.own 1 2 (C.map zn.enc)),(4,.t (.int .i64 i)),(5,.ptr 2 0),(6,.t (.int .i64 j))],s:=⟨[(0,.cells [.t (.lst (ds.map Def.enc))]),(1,.arr C.length),(2,(TCo t))],3⟩}) (fun r j C=>C++z0e ds t.name r=S) 3 B Z hS Z Z Z ?_ ?_
  ·rintro C hC;simp only [z0e,w18] at hC;subst hC
   have hB':C++z07 ds t.name [46] [] t.zp++W0 ds r=R:=by rw [←hB,←hS];simp
   have hlen:=congrArg List.length hB';simp only [w0g] at hlen;refine fR Z ?_;refine lM Z Z Z ?_;refine fM Z ?_;refine Run.zf Z Z (by simp) ?_;refine fR Z ?_;refine Mid.call (z1E H.w ds hD hni t.zp htnl hto.n t.name [46] [] (by omega) (by simp) (by simp)) Z Z Z Z ?_;skip;refine apM zn.enc C (z07 ds t.name [46] [] t.zp) Z Z Z Z Z ?_ (h1:=by first |omega|(simp;omega)|(simp;done)) (h2:=by first |omega|(simp;omega)|(simp;done));refine fM rfl ?_;refine aL rfl rfl rfl rfl rfl ?_;refine fM rfl ?_;exact zh 2 rfl (ih _ hB') rfl rfl rfl
  ·rintro j f r2 C j1 hj hd2 hC ih2;have hfm:=zMG j1;have hfo:=hto.f f hfm;have hfn:=hfo.nm;simp only [z0e] at hC;have hlen:=congrArg List.length hC;have hlen2:=congrArg List.length hS;have hlen3:=congrArg List.length hB;simp only [w0g] at hlen hlen2 hlen3;refine fR Z ?_;refine lM Z Z Z ?_;refine fM Z ?_;refine Run.zj Z Z (by simp;omega) ?_;refine fR Z ?_;refine Mid.za Z Z Z j1 Z Z ?_;refine fM Z ?_;refine pu Z ?_;refine fM Z ?_;refine Mid.za Z Z Z j1 Z Z ?_;refine fM Z ?_;refine pu Z ?_;refine Mid.call (z1E H.w ds hD hni f.args (hnf t htm f hfm) hfo.a (t.name++[46]++f.name) [40] [41] (by simp;omega) (by simp) (by simp)) Z Z Z Z ?_;skip;refine apM zn.enc C (z07 ds (t.name++[46]++f.name) [40] [41] f.args) Z Z Z Z Z ?_ (h1:=by first |omega|(simp;omega)|(simp;done)) (h2:=by first |omega|(simp;omega)|(simp;done));refine fM rfl ?_;refine aL rfl rfl rfl rfl rfl ?_;refine fM rfl ?_;exact zh 3 rfl (ih2 (C++z07 ds (t.name++[46]++f.name) [40] [41] f.args) (by rw [←hC];simp)) rfl rfl rfl
def z9Q (ds:List Def):List zn:=if (Ym ds true).length=0 then WU ds++W0 ds ds else Ym ds true
theorem zax (H:PrS P) (ds:List Def) (hD:Z6 ds) (hni:∀d,d∈ds->d.zp.length<=1099511627776) (hnf:∀d,d∈ds->∀f,f∈d.fields->f.args.length<=1099511627776) (h1:(Ym ds true).length<=4398046511104) (h2:(WU ds).length<=4398046511104) (h3:(W0 ds ds).length<=1000000000000):
  z6 P 36 [yT ds] ⟨[],0⟩ {v:= .t (.lst ((z9Q ds).map zn.enc))}:=by
 generalize hR:z9Q ds=R;unfold z9Q at hR;refine z6.run H.i36 H.mixed Z Z ?_;refine fR Z ?_
 refine Mid.z4b [] (zai H.w.p18.toPr13.toPr ds hD (fun o ho=>by have:=hni o ho;omega) true h1) rfl rfl rfl rfl (by simp [zP]) (by repeat' (first |exact trivial|exact rfl|refine And.intro ?_ ?_|exact (congrArg some (z5.zD _ _ _ _ _ _)).symm|exact (congrArg some (z5.zE _ _ _)).symm|(refine (congrArg some (z5.zW ?_ _ _)).symm;intro _;rfl))) rfl rfl (ob':=[(2,.arr (Ym ds true).length)]) (rfl) rfl rfl ?_
 refine fM Z ?_;refine lM Z Z Z ?_;refine fM Z ?_;refine Run.cond Z Z (fun h4=>?_) (fun h4=>?_)
 ·have h4':¬ (Ym ds true).length=0:=by have:=zDT h4;omega
  rw [w0d h4'] at hR;subst hR;refine fR Z ?_;refine Run.fin Z (z4.go ?_);exact .own Z
 ·have h4':(Ym ds true).length=0:=by have:=of_decide_eq_false h4;omega
  have h5:Ym ds true=[]:=w0q.1 h4';rw [w0c h4'] at hR;subst hR;rw [h5];refine fR Z ?_;refine Mid.call (za7 H.w.p18.toPr13 ds hD (by omega)) Z Z Z Z ?_;skip;refine apM zn.enc ([]:List zn) (WU ds) Z Z Z Z Z ?_ (h1:=by first |omega|(simp;omega)|(simp;done)) (h2:=by first |omega|(simp;omega)|(simp;done));refine fM rfl ?_;refine Mid.call (z5V H ds hD hni hnf (by omega)) rfl rfl rfl rfl ?_;skip;refine apM zn.enc ([]++WU ds) (W0 ds ds) rfl rfl rfl rfl rfl ?_ (h1:=by first |omega|(simp;omega)|(simp;done)) (h2:=by first |omega|(simp;omega)|(simp;done));refine fM rfl ?_;refine Run.fin rfl (z4.go ?_);exact .own rfl
end Go.GB.C29
namespace Go.GB.C35
open Go.GB
structure Pr (P:Program):Prop where
 mixed:P.follows .mixedOrders=true
 i130:z9 P 130=some (n130,c130.bare,r130)
 i31:z9 P 31=some (n31,c31.bare,r31)
 i55:z9 P 55=some (n55,c55.bare,r55)
 i155:z9 P 155=some (n155,c155.bare,r155)
 i147:z9 P 147=some (n147,c147.bare,r147)
 i70:z9 P 70=some (n70,c70.bare,r70)
 i76:z9 P 76=some (n76,c76.bare,r76)
 i77:z9 P 77=some (n77,c77.bare,r77)
 i78:z9 P 78=some (n78,c78.bare,r78)
variable {P:Program}
end Go.GB.C35
namespace Go.GB.C35
open Go.GB
variable {P:Program}
def Wx (a b:Int):Int:=if a<b then -1 else if a>b then 1 else 0
def z1m (a b:Str):Int:=if Op.bytesLess a b=true then -1 else if a=b then 0 else 1
theorem qH:∀s:List UInt8,Op.bytesLess s s=false
 |[]=>rfl
 |a::r=>by simp [Op.bytesLess,qH r]
theorem zaM {a b:Str}:z1m a b=0↔a=b:=by
 unfold z1m;constructor
 ·intro h;split at h
  ·omega
  ·split at h
   ·assumption
   ·omega
 ·rintro rfl;simp [qH]
theorem nz {p q:Int}:(if p≠0 then p else q)=0↔p=0/\q=0:=by
 by_cases h:p=0
 ·simp [h]
 ·simp [h]
def qJ (l:List Str) (i:Nat):Str:=(l[i]?).getD []
mutual
def z0X (c:Str->Str->Int):Val->Val->Int
 | .mk k i t its ks,b=>if Wx k b.kind≠0 then Wx k b.kind else if Wx i b.int≠0 then Wx i b.int else if c t b.text≠0 then c t b.text else YQ c its b.items ks b.keys 0 (Wx its.length b.items.length)
def YQ (c:Str->Str->Int):List Val->List Val->List Str->List Str->Nat->Int->Int
 |[],_,_,_,_,z=>z
 |x::r,l,ka,kb,j,z=>
  match l with
  |[]=>z
  |y::s=>if c (qJ ka j) (qJ kb j)≠0 then c (qJ ka j) (qJ kb j) else if z0X c x y≠0 then z0X c x y else YQ c r s ka kb (j+1) z
end
theorem z27 (c:Str->Str->Int) (a b:Val):z0X c a b=if Wx a.kind b.kind≠0 then Wx a.kind b.kind else if Wx a.int b.int≠0 then Wx a.int b.int else if c a.text b.text≠0 then c a.text b.text else YQ c a.items b.items a.keys b.keys 0 (Wx a.items.length b.items.length):=by
 cases a;rfl
def z9g (a b:Str):Int:=if a=b then 0 else 1
theorem z2W {a b:Str}:z9g a b=0↔a=b:=by unfold z9g;split<;>simp_all
def z4v (a b:Val):Bool:=decide (z0X z9g a b=0)
theorem z8X {c d:Str->Str->Int} (hc:∀{a b},c a b=0↔a=b) (hd:∀{a b},d a b=0↔a=b):∀k:Nat,(∀a b:Val,SizeOf.sizeOf a<=k->(z0X c a b=0↔z0X d a b=0))/\
  ∀(l m:List Val) (ka kb:List Str) (j:Nat) (z:Int),SizeOf.sizeOf l<=k->(YQ c l m ka kb j z=0↔YQ d l m ka kb j z=0)
 |0=>⟨fun a b h=>by cases a;simp at h,fun l m ka kb j z h=>by cases l<;>simp at h⟩
 |k+1=>by
  have ih:=z8X (c:=c) (d:=d) hc hd k;have hcd:∀a b,c a b=0↔d a b=0:=fun a b=>hc.trans hd.symm;refine ⟨fun a b h=>?_,fun l m ka kb j z h=>?_⟩
  ·have h2:=ih.2 a.items b.items a.keys b.keys 0 (Wx a.items.length b.items.length) (by cases a;simp only [Val.items];simp only [Val.mk.sizeOf_spec] at h;omega);rw [z27,z27];simp only [nz,h2,hcd]
  ·cases l with
   |nil=>simp [YQ]
   |cons x r=>
    cases m with
    |nil=>simp [YQ]
    |cons y s=>
     have h1:=ih.1 x y (by simp only [List.cons.sizeOf_spec] at h;omega);have h2:=ih.2 r s ka kb (j+1) z (by simp only [List.cons.sizeOf_spec] at h;omega);simp only [YQ,nz,h1,h2,hcd]
theorem zbM {c:Str->Str->Int} (hc:∀{a b},c a b=0↔a=b) (a b:Val):(z0X c a b==0)=z4v a b:=by
 have:=(z8X (c:=c) (d:=z9g) hc z2W _).1 a b (w07 _);rw [w2b];simp [z4v,this]
theorem z5m (H:Pr P) (a b:Int):z6 P 76 [.t (.int .i64 a),.t (.int .i64 b)] ⟨[],0⟩ {v:= .t (.int .i64 (Wx a b))}:=by
 refine z6.run H.i76 H.mixed Z Z ?_;refine fR Z ?_;by_cases h1:a<b
 ·refine Run.zj Z Z (by simp [h1]) ?_;refine fR Z ?_;refine Run.fin Z (z4.go ?_);exact .t (by simp [Wx,h1])
 ·refine Run.zf Z Z (by simp;omega) ?_;refine fR Z ?_;by_cases h2:b<a
  ·refine Run.zj Z Z (by simp [h2]) ?_;refine fR Z ?_;refine Run.fin Z (z4.go ?_);exact .t (by simp [Wx,h1,h2])
  ·refine Run.zf Z Z (by simp;omega) ?_;refine fR Z ?_;refine Run.fin Z (z4.go ?_);exact .t (by simp [Wx,h1,h2])
theorem z2U (H:Pr P) (a b:Str):z6 P 77 [.t (.str a),.t (.str b)] ⟨[],0⟩ {v:= .t (.int .i64 (z1m a b))}:=by
 refine z6.run H.i77 H.mixed Z Z ?_;refine fR Z ?_;by_cases h1:Op.bytesLess a b=true
 ·refine Run.zj Z Z h1 ?_;refine fR Z ?_;refine Run.fin Z (z4.go ?_);exact .t (by simp [z1m,h1])
 ·refine Run.zf Z Z (by simpa using h1) ?_;refine fR Z ?_;by_cases h2:a=b
  ·refine Run.zf Z Z (by simp [h1,h2]) ?_;refine fR Z ?_;refine Run.fin Z (z4.go ?_);exact .t (by simp [z1m,h2,qH])
  ·refine Run.zj Z Z (by simp [h1,h2]) ?_;refine fR Z ?_;refine Run.fin Z (z4.go ?_);exact .t (by simp [z1m,h1,h2])
theorem z3D (H:Pr P) (v:Val) (hv:v.Ok) (i:Nat) (hi:i<=140737488355328):z6 P 78 [v.v,.t (.int .i64 i)] ⟨[],0⟩ {v:= .t (.str (qJ v.keys i))}:=by
 have hkl:=hv.kl;refine z6.run H.i78 H.mixed Z Z ?_;refine fR Z ?_;refine lM Z Z Z ?_;refine fM Z ?_;refine Run.cond Z Z (fun h=>?_) (fun h=>?_)
 ·have h':i<v.keys.length:=by simpa using h
  have h1:v.keys[i]?=some (v.keys[i]'h'):=by simp
  have hk:qJ v.keys i=v.keys[i]'h':=by simp [qJ,h1]
  generalize v.keys[i]'h'=x at h1 hk;refine fR Z ?_;refine Mid.za Z Z Z h1 Z Z ?_;refine fM Z ?_;refine Run.fin Z (z4.go ?_);exact .t (by simp [hk])
 ·have h':¬ i<v.keys.length:=by simpa using h
  have hk:qJ v.keys i=[]:=by simp [qJ,w12 (Nat.le_of_not_lt h')]
  refine fR Z ?_;refine Run.fin Z (z4.go ?_);exact .t (by simp [hk])
end Go.GB.C35
namespace Go.GB.C35
open Go.GB
variable {P:Program}
theorem Qc {α:Type} {l:List α} {i:Nat} {x:α} (h:l[i]?=some x):l.drop i=x::l.drop (i+1):=by
 obtain ⟨h1,rfl⟩:=w02.1 h;exact w1k h1
theorem zb4 {c:Str->Str->Int} {l m:List Val} {ka kb:List Str} {j:Nat} {z:Int} (h:l=[]∨m=[]):YQ c l m ka kb j z=z:=by
 rcases h with rfl|rfl
 ·simp [YQ]
 ·cases l<;>simp [YQ]
theorem zek {l m:List Val} {i:Nat} (h:i=(l.zip m).length):l.drop i=[]∨m.drop i=[]:=by
 simp only [List.length_zip] at h;by_cases h2:l.length<=m.length
 ·exact .inl (w2g (by omega))
 ·exact .inr (w2g (by omega))
theorem zcA {c:Str->Str->Int} {l m:List Val} {ka kb:List Str} {i:Nat} {z:Int} {x y:Val} (h1:l[i]?=some x) (h2:m[i]?=some y):YQ c (l.drop i) (m.drop i) ka kb i z=if c (qJ ka i) (qJ kb i)≠0 then c (qJ ka i) (qJ kb i) else if z0X c x y≠0 then z0X c x y else YQ c (l.drop (i+1)) (m.drop (i+1)) ka kb (i+1) z:=by
 rw [Qc h1,Qc h2];simp only [YQ]
def zcd (P:Program) (a:Val):Prop:=∀b:Val,b.Ok->z6 P 55 [a.v,b.v] ⟨[],0⟩ {v:= .t (.int .i64 (z0X z1m a b))}
theorem zaZ (H:Pr P) (a:Val) (ha:a.Ok) (hrec:∀x,x∈a.items->zcd P x):zcd P a:=by
 intro b hb;have hil:=ha.il;have hil2:=hb.il;have hk:=z5m H a.kind b.kind;have hi:=z5m H a.int b.int;have ht:=z2U H a.text b.text;have hz:=z5m H (a.items.length:Nat) (b.items.length:Nat);have hR:=z27 z1m a b;generalize z0X z1m a b=R at hR⊢;refine z6.run H.i55 H.mixed Z Z ?_;refine fR Z ?_;by_cases h1:Wx a.kind b.kind=0
 ·rw [h1] at hk hR;rw [w0d (by simp)] at hR;refine Mid.call (hk) Z Z Z Z ?_;refine fM Z ?_;refine Run.zj Z Z Z ?_;refine fR Z ?_;by_cases h2:Wx a.int b.int=0
  ·rw [h2] at hi hR;rw [w0d (by simp)] at hR;refine Mid.call (hi) Z Z Z Z ?_;refine fM Z ?_;refine Run.zj Z Z Z ?_;refine fR Z ?_;by_cases h3:z1m a.text b.text=0
   ·rw [h3] at ht hR;rw [w0d (by simp)] at hR;generalize Wx (a.items.length:Nat) (b.items.length:Nat)=z at hz hR;refine Mid.call (ht) Z Z Z Z ?_;refine fM Z ?_;refine zu (a.items.zip b.items) (fun i (_:Unit)=>{env:=[(2,.ptr 0 0),(3,.ptr 1 0),(5,.t (.int .i64 0)),(6,.t (.int .i64 i))],s:=⟨[(0,(VCo a)),(1,(VCo b))],2⟩}) (fun r i _=>R=YQ z1m (a.items.drop i) (b.items.drop i) a.keys b.keys i z) 2 () Z hR Z Z Z ?_ ?_
    ·intro _ hinv;rw [zb4 (zek rfl)] at hinv;subst hinv;refine fR Z ?_;refine Run.zj Z Z (by simp) ?_;refine fR Z ?_;refine lM Z Z Z ?_;refine fM Z ?_;refine lMG Z Z Z Z ?_;refine fM Z ?_;refine Run.zj Z Z (by simp [List.length_zip];omega) ?_;refine fR Z ?_;refine lM Z Z Z ?_;refine fM Z ?_;refine lM Z Z Z ?_;refine Mid.call (hz) Z Z Z Z ?_;refine fM Z ?_;refine Run.fin Z (z4.go ?_);exact .t Z
    ·intro i p r _ g1 gi gd hinv ih;obtain ⟨e1,e2⟩:=List.getElem?_zip_eq_some.1 g1;obtain ⟨x,y⟩:=p;simp only at e1 e2;have b1:=(w02.1 e1).1;have b2:=(w02.1 e2).1;rw [zcA e1 e2] at hinv;have hc:=hrec x (zMG e1) y (hb.it y (zMG e2));have hs:=z2U H (qJ a.keys i) (qJ b.keys i);refine fR Z ?_;refine Run.zj Z Z (by simp) ?_;refine fR Z ?_;refine lM Z Z Z ?_;refine fM Z ?_;refine lMG Z Z Z Z ?_;refine fM Z ?_;refine Run.zf Z Z (by simp;omega) ?_;refine fR Z ?_;refine Mid.call (z3D H a ha i (by omega)) Z Z Z Z ?_;refine fM Z ?_;refine Mid.call (z3D H b hb i (by omega)) Z Z Z Z ?_;skip;by_cases h4:z1m (qJ a.keys i) (qJ b.keys i)=0
     ·rw [h4] at hs hinv;rw [w0d (by simp)] at hinv;refine Mid.call (hs) Z Z Z Z ?_;refine fM Z ?_;refine Run.zj Z Z Z ?_;refine fR Z ?_;refine Mid.Z2 (Val.zx x) Z Z Z e1 Z Z ?_;refine fM Z ?_;refine Mid.Z2 (Val.zx y) Z Z Z e2 Z Z ?_;refine fM Z ?_;by_cases h5:z0X z1m x y=0
      ·rw [h5] at hc hinv;rw [w0d (by simp)] at hinv;refine Mid.call (hc) Z Z Z Z ?_;refine fM Z ?_;refine aL Z Z Z Z Z ?_;refine fM Z ?_;exact zh 2 Z (ih () hinv) Z Z Z
      ·rw [w0c h5] at hinv;refine Mid.call (hc) Z Z Z Z ?_;refine fM Z ?_;refine aL Z Z Z Z Z ?_;refine fM Z ?_;skip;refine Run.adv 200 Z (Run.wQ ?_);refine fR Z ?_;refine Run.zf Z Z (by simpa using h5) ?_;refine fR Z ?_;refine Run.fin Z (z4.go ?_);exact .t (by rw [hinv])
     ·rw [w0c h4] at hinv;refine Mid.call (hs) Z Z Z Z ?_;refine fM Z ?_;refine Run.zf Z Z (by simpa using h4) ?_;refine fR Z ?_;refine aL Z Z Z Z Z ?_;refine fM Z ?_;refine Run.adv 200 Z (Run.wQ ?_);refine fR Z ?_;refine Run.zf Z Z (by simpa using h4) ?_;refine fR Z ?_;refine Run.fin Z (z4.go ?_);exact .t (by rw [hinv])
   ·rw [w0c h3] at hR;refine Mid.call (ht) Z Z Z Z ?_;refine fM Z ?_;skip;refine Run.loop Z ?_;refine Run.wQ ?_;refine fR Z ?_;refine Run.zf Z Z (by simpa using h3) ?_;refine fR Z ?_;refine Run.fin Z (z4.go ?_);exact .t (by rw [hR])
  ·rw [w0c h2] at hR;refine Mid.call (hi) Z Z Z Z ?_;refine fM Z ?_;refine Run.zf Z Z (by simpa using h2) ?_;refine fR Z ?_;refine Run.loop Z ?_;refine Run.wQ ?_;refine fR Z ?_;refine Run.zf Z Z (by simpa using h2) ?_;refine fR Z ?_;refine Run.fin Z (z4.go ?_);exact .t (by rw [hR])
 ·rw [w0c h1] at hR;refine Mid.call (hk) Z Z Z Z ?_;refine fM Z ?_;refine Run.zf Z Z (by simpa using h1) ?_;refine fR Z ?_;refine Run.zf Z Z (by simpa using h1) ?_;refine fR Z ?_;refine Run.loop Z ?_;refine Run.wQ ?_;refine fR Z ?_;refine Run.zf Z Z (by simpa using h1) ?_;refine fR Z ?_;refine Run.fin Z (z4.go ?_);exact .t (by rw [hR])
theorem z6h (H:Pr P):∀(k:Nat) (v:Val),SizeOf.sizeOf v<=k->v.Ok->zcd P v
 |0,v,h,_=>by cases v;simp at h
 |k+1,v,h,hv=>zaZ H v hv fun x hx=>z6h H k x (by have:=Val.yE v hx;omega) (hv.it x hx)
theorem z7r (H:Pr P) (a b:Val) (ha:a.Ok) (hb:b.Ok):z6 P 31 [a.v,b.v] ⟨[],0⟩ {v:= .t (.bool (z4v a b))}:=by
 have h:=z6h H _ a (w07 _) ha b hb;have e:=zbM (fun {a b}=>zaM (a:=a) (b:=b)) a b;refine z6.run H.i31 H.mixed Z Z ?_;refine fR Z ?_;refine Mid.call (h) Z Z Z Z ?_;refine fM Z ?_;refine Run.fin Z (z4.go ?_);exact .t (by rw [←e])
end Go.GB.C35
namespace Go.GB.C29
open Go.GB
structure PrR (P:Program):Prop where
 mixed:P.follows .mixedOrders=true
 i35:z9 P 35=some (n35,c35.bare,r35)
 i62:z9 P 62=some (n62,c62.bare,r62)
 i87:z9 P 87=some (n87,c87.bare,r87)
 i88:z9 P 88=some (n88,c88.bare,r88)
 i89:z9 P 89=some (n89,c89.bare,r89)
 i90:z9 P 90=some (n90,c90.bare,r90)
 i113:z9 P 113=some (n113,c113.bare,r113)
 i115:z9 P 115=some (n115,c115.bare,r115)
structure R6 (P:Program) (zt:Str->Bool) (litF:Val->Bool) (refF:Ref->Bool):Prop where
 nm:∀s,z6 P 86 [.t (.str s)] ⟨[],0⟩ {v:= .t (.bool (zt s))}
 lit:∀v:Val,v.Ok->z6 P 112 [v.v] ⟨[],0⟩ {v:= .t (.bool (litF v))}
 rf:∀r:Ref,r.Ok->z6 P 114 [r.v] ⟨[],0⟩ {v:= .t (.bool (refF r))}
variable {P:Program} {zt:Str->Bool} {litF:Val->Bool} {refF:Ref->Bool}
theorem qI {α:Type} {p:α->Bool} {l:List α} {i:Nat} {x:α} (h:l[i]?=some x):(l.drop i).all p=(p x&&(l.drop (i+1)).all p):=by
 obtain ⟨h1,rfl⟩:=w02.1 h;rw [w1k h1];rfl
theorem W9 {α:Type} {p:α->Bool} {l:List α}:(l.drop l.length).all p=true:=by simp
mutual
def yK:Val->Bool
 | .mk k _ _ its _=>z0s its&&!(k==7)
def z0s:List Val->Bool
 |[]=>true
 |v::r=>yK v&&z0s r
end
theorem z0g:∀l:List Val,z0s l=l.all yK
 |[]=>rfl
 |v::r=>by simp [z0s,z0g r]
theorem z8q (v:Val):yK v=(v.items.all yK&&!(v.kind==7)):=by
 cases v;simp only [yK,z0g];rfl
def ClC (P:Program) (v:Val):Prop:=z6 P 113 [v.v] ⟨[],0⟩ {v:= .t (.bool (yK v))}
theorem z7h (H:PrR P) (v:Val) (hv:v.Ok) (hrec:∀x,x∈v.items->ClC P x):ClC P v:=by
 have hil:=hv.il;have hR:=z8q v;unfold ClC;generalize yK v=R at hR⊢;refine z6.run H.i113 H.mixed Z Z ?_;refine fR Z ?_;refine zu v.items (fun i (_:Unit)=>{env:=[(1,.ptr 0 0),(3,.t (.int .i64 i))],s:=⟨[(0,(VCo v))],1⟩}) (fun r i _=>v.items.all yK=(v.items.drop i).all yK) 1 () Z Z Z Z Z ?_ ?_
 ·intro _ hinv;rw [W9] at hinv;rw [hinv,w13] at hR;refine fR Z ?_;refine lM Z Z Z ?_;refine fM Z ?_;refine Run.zf Z Z (by simp) ?_;refine fR Z ?_;refine Run.fin Z (z4.go ?_);exact .t (by rw [hR];rfl)
 ·intro i x r _ h1 hi hd hinv ih;have hc:=hrec x (zMG h1);unfold ClC at hc;rw [qI h1] at hinv;refine fR Z ?_;refine lM Z Z Z ?_;refine fM Z ?_;refine Run.zj Z Z (by simp;omega) ?_;refine fR Z ?_;refine Mid.Z2 (Val.zx x) Z Z Z h1 Z Z ?_;refine fM Z ?_
  cases hx:yK x with
  |true=>
   rw [hx] at hc hinv;refine Mid.call (hc) Z Z Z Z ?_;refine fM Z ?_;refine Run.zf Z Z Z ?_;refine fR Z ?_;refine aL Z Z Z Z Z ?_;refine fM Z ?_;exact zh 1 Z (ih () (by rw [hinv];rfl)) Z Z Z
  |false=>
   rw [hx] at hc hinv;rw [hinv,w15,w15] at hR;refine Mid.call (hc) Z Z Z Z ?_;refine fM Z ?_;refine Run.zj Z Z Z ?_;refine fR Z ?_;refine Run.fin Z (z4.go ?_);exact .t (by rw [hR])
theorem z2p (H:PrR P):∀(k:Nat) (v:Val),SizeOf.sizeOf v<=k->v.Ok->ClC P v
 |0,v,h,_=>by cases v;simp at h
 |k+1,v,h,hv=>z7h H v hv fun x hx=>z2p H k x (by have:=Val.yE v hx;omega) (hv.it x hx)
theorem z44 (H:PrR P) (v:Val) (hv:v.Ok):z6 P 113 [v.v] ⟨[],0⟩ {v:= .t (.bool (yK v))}:=z2p H _ v (w07 _) hv
def z9h (v:Val):Bool:=v.kind==0&&v.int==0&&v.text==[]&&v.items.length==0&&v.keys.length==0
theorem zes (H:PrR P) (v:Val):z6 P 115 [v.v] ⟨[],0⟩ {v:= .t (.bool (z9h v))}:=by
 refine z6.run H.i115 H.mixed Z Z ?_;refine fR Z ?_;refine lMG Z Z Z Z ?_;refine fM Z ?_;refine lMG Z Z Z Z ?_;refine fM Z ?_
 have e:∀n:Nat,((n:Int)==0)=(n==0):=fun n=>by rw [w2b];simp
 refine Run.fin Z (z4.go ?_);exact .t (by simp [z9h,e])
section
variable (zt litF refF)
def zfh (a:Arg):Bool:=zt a.name&&litF a.val&&yK a.val
def z9S (d:Dir):Bool:=zt d.name&&decide (d.args.length<=16)&&d.args.all (zfh zt litF)
def Wc (l:List Dir):Bool:=decide (l.length<=16)&&l.all (z9S zt litF)
def inR (x:Input):Bool:=zt x.name&&refF x.ty&&Wc zt litF x.Zp&&(if x.has then litF x.YO&&yK x.YO else z9h x.YO)
def YE (l:List Input):Bool:=decide (l.length<=16)&&l.all (inR zt litF refF)
def z1h (f:Field):Bool:=zt f.name&&YE zt litF refF f.args&&refF f.ty&&Wc zt litF f.Zp
def wa (l:List Field):Bool:=decide (1<=l.length)&&decide (l.length<=64)&&l.all (z1h zt litF refF)
def zbW (plain:Bool) (m:ZA):Bool:=zt m.name&&Wc zt litF m.Zp&&!(plain&&decide (m.Zp.length>0))
def Y0 (l:List ZA) (plain:Bool):Bool:=decide (1<=l.length)&&decide (l.length<=64)&&l.all (zbW zt litF plain)
end
theorem z2f (H:PrR P) (K:R6 P zt litF refF) (l:List Dir) (hl:l.length<=140737488355328) (ho:∀d,d∈l->d.Ok):z6 P 87 [.t (.lst (l.map Dir.enc))] ⟨[],0⟩ {v:= .t (.bool (Wc zt litF l))}:=by
 by_cases hb:l.length<=16
 ·have hR:Wc zt litF l=l.all (z9S zt litF):=by simp [Wc,hb]
  rw [hR];generalize hR2:l.all (z9S zt litF)=R;refine z6.run H.i87 H.mixed Z Z ?_;refine fR Z ?_;refine lM Z Z Z ?_;refine fM Z ?_;refine Run.zf Z Z (by simp;omega) ?_;refine fR Z ?_;refine zu l (fun i (_:Unit)=>{env:=[(0,.t (.lst (l.map Dir.enc))),(3,.t (.int .i64 i))],s:=⟨[],0⟩}) (fun r i _=>(l.drop i).all (z9S zt litF)=R) 0 () Z hR2 Z Z Z ?_ ?_
  ·intro _ hinv;rw [W9] at hinv;subst hinv;refine fR Z ?_;refine lM Z Z Z ?_;refine fM Z ?_;refine Run.zf Z Z (by simp) ?_;refine fR Z ?_;refine Run.fin Z (z4.go ?_);exact .t Z
  ·intro i d r _ h1 hi hd hinv ih;have hdk:=ho d (zMG h1);have hal:=hdk.l;have hn:=K.nm d.name;rw [qI h1] at hinv;unfold z9S at hinv;refine fR Z ?_;refine lM Z Z Z ?_;refine fM Z ?_;refine Run.zj Z Z (by simp;omega) ?_;refine fR Z ?_;refine Mid.za Z Z Z h1 Z Z ?_;refine fM Z ?_
   cases hx:zt d.name with
   |false=>
    rw [hx] at hn hinv;simp only [w15] at hinv;subst hinv;refine Mid.call (hn) Z Z Z Z ?_;refine fM Z ?_;refine elG Z Z Z Z h1 Z Z ?_;refine fM Z ?_;refine lMG Z Z Z Z ?_;refine fM Z ?_;refine Run.zj Z Z Z ?_;refine fR Z ?_;refine Run.fin Z (z4.go ?_);exact .t Z
   |true=>
    rw [hx] at hn hinv;simp only [w13] at hinv;refine Mid.call (hn) Z Z Z Z ?_;refine fM Z ?_;refine elG Z Z Z Z h1 Z Z ?_;refine fM Z ?_;refine lMG Z Z Z Z ?_;refine fM Z ?_;by_cases ha:d.args.length<=16
    ·rw [decide_eq_true ha,w13] at hinv;refine Run.zf Z Z (by simp;omega) ?_;refine fR Z ?_;refine zu d.args (fun j (_:Unit)=>{env:=[(0,.t (.lst (l.map Dir.enc))),(3,.t (.int .i64 i)),(4,.t (.int .i64 j))],s:=⟨[],0⟩}) (fun r2 j _=>((d.args.drop j).all (zfh zt litF)&&(l.drop (i+1)).all (z9S zt litF))=R) 0 () Z hinv Z Z Z ?_ ?_
     ·intro _ hinv2;rw [W9,w13] at hinv2;refine fR Z ?_;refine Mid.za Z Z Z h1 Z Z ?_;refine fM Z ?_;refine lM Z Z Z ?_;refine fM Z ?_;refine Run.zf Z Z (by simp) ?_;refine fR Z ?_;refine aL Z Z Z Z Z ?_;refine fM Z ?_;exact zh 0 Z (ih () hinv2) Z Z Z
     ·intro j a r2 _ k1 hj kd hinv2 ih2;have hak:=hdk.a a (zMG k1);have hn2:=K.nm a.name;have hl2:=K.lit a.val hak;have hc2:=z44 H a.val hak;rw [qI k1] at hinv2;unfold zfh at hinv2;generalize zt a.name=b1 at hn2 hinv2;generalize litF a.val=b2 at hl2 hinv2;generalize yK a.val=b3 at hc2 hinv2;refine fR Z ?_;refine Mid.za Z Z Z h1 Z Z ?_;refine fM Z ?_;refine lM Z Z Z ?_;refine fM Z ?_;refine Run.zj Z Z (by simp;omega) ?_;refine fR Z ?_;refine Mid.za Z Z Z h1 Z Z ?_;refine fM Z ?_;refine Mid.za Z Z Z k1 Z Z ?_;refine fM Z ?_;refine Mid.call (hn2) Z Z Z Z ?_;refine fM Z ?_;refine caG Z Z (fun hg=>⟨_,rfl,hl2,rfl⟩) Z Z ?_;refine fM Z ?_;refine caG Z Z (fun hg=>⟨_,rfl,hc2,rfl⟩) Z Z ?_;refine fM Z ?_
      cases hb:(b1&&b2&&b3) with
      |true=>
       simp only [w0a] at hb;obtain ⟨⟨rfl,rfl⟩,rfl⟩:=hb;refine Run.zf Z Z Z ?_;refine fR Z ?_;refine aL Z Z Z Z Z ?_;refine fM Z ?_;exact zh 0 Z (ih2 () hinv2) Z Z Z
      |false=>
       rw [hb] at hinv2;simp only [w15] at hinv2;subst hinv2
       refine Run.zj Z Z (by revert hb;cases b1<;>cases b2<;>cases b3<;>simp) ?_
       refine fR Z ?_;refine Run.fin Z (z4.go ?_);exact .t Z
    ·rw [decide_eq_false ha,w15,w15] at hinv;subst hinv;refine Run.zj Z Z (by simp;omega) ?_;refine fR Z ?_;refine Run.fin Z (z4.go ?_);exact .t Z
 ·have hR:Wc zt litF l=false:=by simp [Wc];omega
  rw [hR];refine z6.run H.i87 H.mixed Z Z ?_;refine fR Z ?_;refine lM Z Z Z ?_;refine fM Z ?_;refine Run.zj Z Z (by simp;omega) ?_;refine fR Z ?_;refine Run.fin Z (z4.go ?_);exact .t Z
end Go.GB.C29
namespace Go.GB.C29
open Go.GB
variable {P:Program} {zt:Str->Bool} {litF:Val->Bool} {refF:Ref->Bool}
theorem YV (H:PrR P) (K:R6 P zt litF refF) (l:List Input) (hl:l.length<=140737488355328) (ho:∀d,d∈l->d.Ok):z6 P 90 [.t (.lst (l.map Input.enc))] ⟨[],0⟩ {v:= .t (.bool (YE zt litF refF l))}:=by
 by_cases hb:l.length<=16
 ·have hR:YE zt litF refF l=l.all (inR zt litF refF):=by simp [YE,hb]
  rw [hR];generalize hR2:l.all (inR zt litF refF)=R;refine z6.run H.i90 H.mixed Z Z ?_;refine fR Z ?_;refine lM Z Z Z ?_;refine fM Z ?_;refine Run.zf Z Z (by simp;omega) ?_;refine fR Z ?_;refine zu l (fun i (_:Unit)=>{env:=[(0,.t (.lst (l.map Input.enc))),(3,.t (.int .i64 i))],s:=⟨[],0⟩}) (fun r i _=>(l.drop i).all (inR zt litF refF)=R) 0 () Z hR2 Z Z Z ?_ ?_
  ·intro _ hinv;rw [W9] at hinv;subst hinv;refine fR Z ?_;refine lM Z Z Z ?_;refine fM Z ?_;refine Run.zf Z Z (by simp) ?_;refine fR Z ?_;refine Run.fin Z (z4.go ?_);exact .t Z
  ·intro i x r _ h1 hi hd hinv ih;have hxk:=ho x (zMG h1);have hn:=K.nm x.name;have hr:=K.rf x.ty hxk.t;have hds:=z2f H K x.Zp hxk.l hxk.d;have hl2:=K.lit x.YO hxk.v;have hc2:=z44 H x.YO hxk.v;have hz2:=zes H x.YO;rw [qI h1] at hinv;unfold inR at hinv;generalize zt x.name=b1 at hn hinv;generalize refF x.ty=b2 at hr hinv;generalize Wc zt litF x.Zp=b3 at hds hinv;generalize litF x.YO=b4 at hl2 hinv;generalize yK x.YO=b5 at hc2 hinv;generalize z9h x.YO=b6 at hz2 hinv;refine fR Z ?_;refine lM Z Z Z ?_;refine fM Z ?_;refine Run.zj Z Z (by simp;omega) ?_;refine fR Z ?_;refine Mid.za Z Z Z h1 Z Z ?_;refine fM Z ?_;refine Mid.call (hn) Z Z Z Z ?_;refine fM Z ?_;refine caG Z Z (fun hg=>⟨_,rfl,hr,rfl⟩) Z Z ?_;refine fM Z ?_;refine caG Z Z (fun hg=>⟨_,rfl,hds,rfl⟩) Z Z ?_;refine fM Z ?_
   cases hb2:(b1&&b2&&b3) with
   |false=>
    rw [hb2,w15,w15] at hinv;subst hinv
    refine Run.zj Z Z (by revert hb2;cases b1<;>cases b2<;>cases b3<;>simp) ?_
    refine fR Z ?_;refine Run.fin Z (z4.go ?_);exact .t Z
   |true=>
    rw [hb2,w13] at hinv;simp only [w0a] at hb2;obtain ⟨⟨rfl,rfl⟩,rfl⟩:=hb2;refine Run.zf Z Z Z ?_;refine fR Z ?_;refine caG Z Z (fun hg=>⟨_,rfl,hl2,rfl⟩) Z Z ?_;refine fM Z ?_;refine caG Z Z (fun hg=>⟨_,rfl,hc2,rfl⟩) Z Z ?_;refine fM Z ?_;refine caG Z Z (fun hg=>⟨_,rfl,hz2,rfl⟩) Z Z ?_;refine fM Z ?_;refine Run.cond Z Z (fun h=>?_) (fun h=>?_)
    ·have e:(if x.has=true then b4&&b5 else b6)=false:=by
      revert h;clear hinv;generalize x.has=b7;cases b7<;>cases b4<;>cases b5<;>cases b6<;>simp
     rw [e,w15] at hinv;subst hinv;refine fR Z ?_;refine Run.fin Z (z4.go ?_);exact .t Z
    ·have e:(if x.has=true then b4&&b5 else b6)=true:=by
      revert h;clear hinv;generalize x.has=b7;cases b7<;>cases b4<;>cases b5<;>cases b6<;>simp
     rw [e,w13] at hinv;refine fR Z ?_;refine aL Z Z Z Z Z ?_;refine fM Z ?_;exact zh 0 Z (ih () hinv) Z Z Z
 ·have hR:YE zt litF refF l=false:=by simp [YE];omega
  rw [hR];refine z6.run H.i90 H.mixed Z Z ?_;refine fR Z ?_;refine lM Z Z Z ?_;refine fM Z ?_;refine Run.zj Z Z (by simp;omega) ?_;refine fR Z ?_;refine Run.fin Z (z4.go ?_);exact .t Z
theorem Qh (H:PrR P) (K:R6 P zt litF refF) (l:List Field) (hl:l.length<=140737488355328) (ho:∀d,d∈l->d.Ok):z6 P 88 [.t (.lst (l.map Field.enc))] ⟨[],0⟩ {v:= .t (.bool (wa zt litF refF l))}:=by
 by_cases hb:1<=l.length/\l.length<=64
 ·have hR:wa zt litF refF l=l.all (z1h zt litF refF):=by simp [wa,hb.1,hb.2]
  rw [hR];generalize hR2:l.all (z1h zt litF refF)=R;refine z6.run H.i88 H.mixed Z Z ?_;refine fR Z ?_;refine lM Z Z Z ?_;refine fM Z ?_;refine lMG Z Z Z Z ?_;refine fM Z ?_;refine Run.zf Z Z (by simp;omega) ?_;refine fR Z ?_;refine zu l (fun i (_:Unit)=>{env:=[(0,.t (.lst (l.map Field.enc))),(3,.t (.int .i64 i))],s:=⟨[],0⟩}) (fun r i _=>(l.drop i).all (z1h zt litF refF)=R) 0 () Z hR2 Z Z Z ?_ ?_
  ·intro _ hinv;rw [W9] at hinv;subst hinv;refine fR Z ?_;refine lM Z Z Z ?_;refine fM Z ?_;refine Run.zf Z Z (by simp) ?_;refine fR Z ?_;refine Run.fin Z (z4.go ?_);exact .t Z
  ·intro i x r _ h1 hi hd hinv ih;have hxk:=ho x (zMG h1);have hn:=K.nm x.name;have hr:=K.rf x.ty hxk.t;have hds:=z2f H K x.Zp hxk.l hxk.d;have hin:=YV H K x.args hxk.al hxk.a;rw [qI h1] at hinv;unfold z1h at hinv;generalize zt x.name=b1 at hn hinv;generalize refF x.ty=b2 at hr hinv;generalize Wc zt litF x.Zp=b3 at hds hinv;generalize YE zt litF refF x.args=b4 at hin hinv;refine fR Z ?_;refine lM Z Z Z ?_;refine fM Z ?_;refine Run.zj Z Z (by simp;omega) ?_;refine fR Z ?_;refine Mid.za Z Z Z h1 Z Z ?_;refine fM Z ?_;refine Mid.call (hn) Z Z Z Z ?_;refine fM Z ?_;refine elG Z Z Z Z h1 Z Z ?_;refine fM Z ?_;refine caG Z Z (fun hg=>⟨_,rfl,hin,rfl⟩) Z Z ?_;refine fM Z ?_;refine elG Z Z Z Z h1 Z Z ?_;refine fM Z ?_;refine caG Z Z (fun hg=>⟨_,rfl,hr,rfl⟩) Z Z ?_;refine fM Z ?_;refine elG Z Z Z Z h1 Z Z ?_;refine fM Z ?_;refine caG Z Z (fun hg=>⟨_,rfl,hds,rfl⟩) Z Z ?_;refine fM Z ?_
   cases hb2:(b1&&b4&&b2&&b3) with
   |false=>
    rw [hb2,w15] at hinv;subst hinv
    refine Run.zj Z Z (by revert hb2;cases b1<;>cases b2<;>cases b3<;>cases b4<;>simp) ?_
    refine fR Z ?_;refine Run.fin Z (z4.go ?_);exact .t Z
   |true=>
    rw [hb2,w13] at hinv;simp only [w0a] at hb2;obtain ⟨⟨⟨rfl,rfl⟩,rfl⟩,rfl⟩:=hb2;refine Run.zf Z Z Z ?_;refine fR Z ?_;refine aL Z Z Z Z Z ?_;refine fM Z ?_;exact zh 0 Z (ih () hinv) Z Z Z
 ·have hR:wa zt litF refF l=false:=by
   simp only [wa,Bool.and_eq_false_iff,w1u];omega
  rw [hR];refine z6.run H.i88 H.mixed Z Z ?_;refine fR Z ?_;refine lM Z Z Z ?_;refine fM Z ?_;refine lMG Z Z Z Z ?_;refine fM Z ?_;refine Run.zj Z Z (by simp;omega) ?_;refine fR Z ?_;refine Run.fin Z (z4.go ?_);exact .t Z
theorem q5 (H:PrR P) (K:R6 P zt litF refF) (l:List ZA) (hl:l.length<=140737488355328) (ho:∀d,d∈l->d.Ok) (plain:Bool):z6 P 89 [.t (.lst (l.map ZA.enc)),.t (.bool plain)] ⟨[],0⟩ {v:= .t (.bool (Y0 zt litF l plain))}:=by
 by_cases hb:1<=l.length/\l.length<=64
 ·have hR:Y0 zt litF l plain=l.all (zbW zt litF plain):=by simp [Y0,hb.1,hb.2]
  rw [hR];generalize hR2:l.all (zbW zt litF plain)=R;refine z6.run H.i89 H.mixed Z Z ?_;refine fR Z ?_;refine lM Z Z Z ?_;refine fM Z ?_;refine lMG Z Z Z Z ?_;refine fM Z ?_;refine Run.zf Z Z (by simp;omega) ?_;refine fR Z ?_;refine zu l (fun i (_:Unit)=>{env:=[(0,.t (.lst (l.map ZA.enc))),(1,.t (.bool plain)),(5,.t (.int .i64 i))],s:=⟨[],0⟩}) (fun r i _=>(l.drop i).all (zbW zt litF plain)=R) 0 () Z hR2 Z Z Z ?_ ?_
  ·intro _ hinv;rw [W9] at hinv;subst hinv;refine fR Z ?_;refine lM Z Z Z ?_;refine fM Z ?_;refine Run.zf Z Z (by simp) ?_;refine fR Z ?_;refine Run.fin Z (z4.go ?_);exact .t Z
  ·intro i x r _ h1 hi hd hinv ih;have hxk:=ho x (zMG h1);have hn:=K.nm x.name;have hds:=z2f H K x.Zp hxk.l hxk.d;rw [qI h1] at hinv;unfold zbW at hinv;generalize zt x.name=b1 at hn hinv;generalize Wc zt litF x.Zp=b3 at hds hinv;refine fR Z ?_;refine lM Z Z Z ?_;refine fM Z ?_;refine Run.zj Z Z (by simp;omega) ?_;refine fR Z ?_;refine Mid.za Z Z Z h1 Z Z ?_;refine fM Z ?_;refine Mid.call (hn) Z Z Z Z ?_;refine fM Z ?_;refine elG Z Z Z Z h1 Z Z ?_;refine fM Z ?_;refine caG Z Z (fun hg=>⟨_,rfl,hds,rfl⟩) Z Z ?_;refine fM Z ?_;refine elG Z Z Z Z h1 Z Z ?_;refine fM Z ?_;refine lMG Z Z Z Z ?_;refine fM Z ?_;refine Run.cond Z Z (fun h=>?_) (fun h=>?_)
   ·have e:(b1&&b3&&!(plain&&decide (x.Zp.length>0)))=false:=by
     revert h;clear hinv;rw [show decide ((x.Zp.length:Int)>0)=decide (x.Zp.length>0) from decide_eq_decide.2 (by omega)];generalize decide (x.Zp.length>0)=b7;cases b7<;>cases b1<;>cases b3<;>cases plain<;>simp
    rw [e,w15] at hinv;subst hinv;refine fR Z ?_;refine Run.fin Z (z4.go ?_);exact .t Z
   ·have e:(b1&&b3&&!(plain&&decide (x.Zp.length>0)))=true:=by
     revert h;clear hinv;rw [show decide ((x.Zp.length:Int)>0)=decide (x.Zp.length>0) from decide_eq_decide.2 (by omega)];generalize decide (x.Zp.length>0)=b7;cases b7<;>cases b1<;>cases b3<;>cases plain<;>simp
    rw [e,w13] at hinv;refine fR Z ?_;refine aL Z Z Z Z Z ?_;refine fM Z ?_;exact zh 0 Z (ih () hinv) Z Z Z
 ·have hR:Y0 zt litF l plain=false:=by
   simp only [Y0,Bool.and_eq_false_iff,w1u];omega
  rw [hR];refine z6.run H.i89 H.mixed Z Z ?_;refine fR Z ?_;refine lM Z Z Z ?_;refine fM Z ?_;refine lMG Z Z Z Z ?_;refine fM Z ?_;refine Run.zj Z Z (by simp;omega) ?_;refine fR Z ?_;refine Run.fin Z (z4.go ?_);exact .t Z
end Go.GB.C29
namespace Go.GB.C29
open Go.GB
variable {P:Program} {zt:Str->Bool} {litF:Val->Bool} {refF:Ref->Bool}
section
variable (zt litF refF)
def z8W (d:Def):Bool:=
 if d.kind=1 then wa zt litF refF d.fields&&decide (d.members.length=0)&&decide (d.zp.length=0)
 else if d.kind=2 then decide (d.implements.length=0)&&wa zt litF refF d.fields&&decide (d.members.length=0)&&decide (d.zp.length=0)
 else if d.kind=3 then decide (d.implements.length=0)&&decide (d.fields.length=0)&&Y0 zt litF d.members true&&decide (d.zp.length=0)
 else if d.kind=4 then decide (d.implements.length=0)&&decide (d.fields.length=0)&&Y0 zt litF d.members false&&decide (d.zp.length=0)
 else if d.kind=5 then decide (d.implements.length=0)&&decide (d.fields.length=0)&&decide (d.members.length=0)&&decide (d.zp.length>0)&&YE zt litF refF d.zp
 else false
def z3S (d:Def):Bool:=zt d.name&&Wc zt litF d.Zp&&decide (d.implements.length<=64)&&d.implements.all zt&&z8W zt litF refF d
def z3F (ds:List Def):Bool:=decide (1<=ds.length)&&decide (ds.length<=64)&&ds.all (z3S zt litF refF)
end
theorem zfZ (H:PrR P) (K:R6 P zt litF refF) (d:Def) (hd:d.Ok):z6 P 62 [d.v] ⟨[],0⟩ {v:= .t (.bool (z3S zt litF refF d))}:=by
 have hil:=hd.il;have hn:=K.nm d.name;have hds:=z2f H K d.Zp hd.dl hd.d;have hfl:=Qh H K d.fields hd.fl hd.f;have hm1:=q5 H K d.members hd.ml hd.m true;have hm2:=q5 H K d.members hd.ml hd.m false;have hin:=YV H K d.zp hd.nl hd.n;have hR:z3S zt litF refF d=(zt d.name&&Wc zt litF d.Zp&&decide (d.implements.length<=64)&&d.implements.all zt&&z8W zt litF refF d):=rfl;unfold z8W at hR;generalize z3S zt litF refF d=R at hR⊢;generalize hb1:zt d.name=b1 at hn hR;generalize Wc zt litF d.Zp=b2 at hds hR;generalize wa zt litF refF d.fields=b3 at hfl hR;generalize Y0 zt litF d.members true=b4 at hm1 hR;generalize Y0 zt litF d.members false=b5 at hm2 hR;generalize YE zt litF refF d.zp=b6 at hin hR;refine z6.run H.i62 H.mixed Z Z ?_;refine fR Z ?_;refine Mid.call (hn) Z Z Z Z ?_;refine fM Z ?_;refine caG Z Z (fun hg=>⟨_,rfl,hds,rfl⟩) Z Z ?_;refine fM Z ?_;refine lMG Z Z Z Z ?_;refine fM Z ?_
 have z0:∀n:Nat,((n:Int)==0)=decide (n=0):=fun n=>by rw [w2b];simp
 have z1:∀n:Nat,decide ((n:Int)>0)=decide (n>0):=fun n=>decide_eq_decide.2 (by omega)
 have z2:∀n:Nat,decide ((n:Int)>64)=!decide (n<=64):=fun n=>by rw [←decide_not];exact decide_eq_decide.2 (by omega)
 refine Run.cond Z Z (fun h=>?_) (fun h=>?_)
 ·have e:(b1&&b2&&decide (d.implements.length<=64))=false:=by
   revert h;rw [z2];generalize decide (d.implements.length<=64)=b7;cases b7<;>cases b1<;>cases b2<;>simp
  rw [e] at hR;simp only [w15] at hR;subst hR;refine fR Z ?_;refine Run.fin Z (z4.go ?_);exact .t Z
 ·have e:(b1&&b2&&decide (d.implements.length<=64))=true:=by
   revert h;rw [z2];generalize decide (d.implements.length<=64)=b7;cases b7<;>cases b1<;>cases b2<;>simp
  rw [e] at hR;simp only [w13] at hR;refine fR Z ?_;refine zu d.implements (fun i (_:Unit)=>{env:=[(1,.ptr 0 0),(3,.t (.int .i64 i))],s:=⟨[(0,(TCo d))],1⟩}) (fun r i _=>d.implements.all zt=(d.implements.drop i).all zt) 1 () Z Z Z Z Z ?_ ?_
  ·intro _ hinv;rw [W9] at hinv;rw [hinv,w13] at hR;refine fR Z ?_;refine lM Z Z Z ?_;refine fM Z ?_;refine Run.zf Z Z (by simp) ?_;refine fR Z ?_;refine lM Z Z Z ?_;refine fM Z ?_;refine lM Z Z Z ?_;refine fM Z ?_;refine lM Z Z Z ?_;refine fM Z ?_;refine lM Z Z Z ?_;refine fM Z ?_;refine Run.cond Z Z (fun k1=>?_) (fun k1=>?_)
   ·have h':d.kind=1:=by simpa using k1
    rw [w0c h'] at hR;refine fR Z ?_;refine Mid.call (hfl) Z Z Z Z ?_;refine fM Z ?_;refine Run.fin Z (z4.go ?_);exact .t (by rw [hR];try simp only [z0,z1])
   have n1:¬ d.kind=1:=by simpa using k1
   rw [w0d n1] at hR;refine fR Z ?_;refine Run.cond Z Z (fun k1=>?_) (fun k1=>?_)
   ·have h':d.kind=2:=by simpa using k1
    rw [w0c h'] at hR;refine fR Z ?_;refine caG Z Z (fun hg=>⟨_,rfl,hfl,rfl⟩) Z Z ?_;refine fM Z ?_;refine Run.fin Z (z4.go ?_);exact .t (by rw [hR];try simp only [z0,z1])
   have n2:¬ d.kind=2:=by simpa using k1
   rw [w0d n2] at hR;refine fR Z ?_;refine Run.cond Z Z (fun k1=>?_) (fun k1=>?_)
   ·have h':d.kind=3:=by simpa using k1
    rw [w0c h'] at hR;refine fR Z ?_;refine caG Z Z (fun hg=>⟨_,rfl,hm1,rfl⟩) Z Z ?_;refine fM Z ?_;refine Run.fin Z (z4.go ?_);exact .t (by rw [hR];try simp only [z0,z1])
   have n3:¬ d.kind=3:=by simpa using k1
   rw [w0d n3] at hR;refine fR Z ?_;refine Run.cond Z Z (fun k1=>?_) (fun k1=>?_)
   ·have h':d.kind=4:=by simpa using k1
    rw [w0c h'] at hR;refine fR Z ?_;refine caG Z Z (fun hg=>⟨_,rfl,hm2,rfl⟩) Z Z ?_;refine fM Z ?_;refine Run.fin Z (z4.go ?_);exact .t (by rw [hR];try simp only [z0,z1])
   have n4:¬ d.kind=4:=by simpa using k1
   rw [w0d n4] at hR;refine fR Z ?_;refine Run.cond Z Z (fun k1=>?_) (fun k1=>?_)
   ·have h':d.kind=5:=by simpa using k1
    rw [w0c h'] at hR;refine fR Z ?_;refine lMG Z Z Z Z ?_;refine fM Z ?_;refine caG Z Z (fun hg=>⟨_,rfl,hin,rfl⟩) Z Z ?_;refine fM Z ?_;refine Run.fin Z (z4.go ?_);exact .t (by rw [hR];try simp only [z0,z1])
   have n5:¬ d.kind=5:=by simpa using k1
   rw [w0d n5] at hR;refine fR Z ?_;refine Run.fin Z (z4.go ?_);exact .t (by rw [hR];try simp only [z0,z1])
  ·intro i x r _ h1 hi hd2 hinv ih;have hc:=K.nm x;rw [qI h1] at hinv;generalize zt x=b8 at hc hinv;refine fR Z ?_;refine lM Z Z Z ?_;refine fM Z ?_;refine Run.zj Z Z (by simp;omega) ?_;refine fR Z ?_;refine Mid.za Z Z Z h1 Z Z ?_;refine fM Z ?_;refine Mid.call (hc) Z Z Z Z ?_;refine fM Z ?_
   cases b8 with
   |false=>
    rw [w15] at hinv;rw [hinv,w15] at hR;subst hR;refine Run.zj Z Z Z ?_;refine fR Z ?_;refine Run.fin Z (z4.go ?_);exact .t Z
   |true=>
    rw [w13] at hinv;refine Run.zf Z Z Z ?_;refine fR Z ?_;refine aL Z Z Z Z Z ?_;refine fM Z ?_;exact zh 1 Z (ih () hinv) Z Z Z
theorem z3C (H:PrR P) (K:R6 P zt litF refF) (ds:List Def) (hD:Z6 ds):z6 P 35 [yT ds] ⟨[],0⟩ {v:= .t (.bool (z3F zt litF refF ds))}:=by
 by_cases hb:1<=ds.length/\ds.length<=64
 ·have hR:z3F zt litF refF ds=ds.all (z3S zt litF refF):=by simp [z3F,hb.1,hb.2]
  rw [hR];generalize hR2:ds.all (z3S zt litF refF)=R;refine z6.run H.i35 H.mixed Z Z ?_;refine fR Z ?_;refine lM Z Z Z ?_;refine fM Z ?_;refine lMG Z Z Z Z ?_;refine fM Z ?_;refine Run.zf Z Z (by simp;omega) ?_;refine fR Z ?_;refine zu ds (fun i (_:Unit)=>{env:=[(1,.ptr 0 0),(3,.t (.int .i64 i))],s:=⟨[(0,.cells [.t (.lst (ds.map Def.enc))])],1⟩}) (fun r i _=>(ds.drop i).all (z3S zt litF refF)=R) 1 () Z hR2 Z Z Z ?_ ?_
  ·intro _ hinv;rw [W9] at hinv;subst hinv;refine fR Z ?_;refine lM Z Z Z ?_;refine fM Z ?_;refine Run.zf Z Z (by simp) ?_;refine fR Z ?_;refine Run.fin Z (z4.go ?_);exact .t Z
  ·intro i x r _ h1 hi hd hinv ih;have hc:=zfZ H K x (hD.d x (zMG h1));rw [qI h1] at hinv;generalize z3S zt litF refF x=b1 at hc hinv;refine fR Z ?_;refine lM Z Z Z ?_;refine fM Z ?_;refine Run.zj Z Z (by simp;omega) ?_;refine fR Z ?_;refine Mid.za Z Z Z h1 Z Z ?_;refine fM Z ?_;refine Mid.call (hc) Z Z Z Z ?_;refine fM Z ?_
   cases b1 with
   |false=>
    rw [w15] at hinv;subst hinv;refine Run.zj Z Z Z ?_;refine fR Z ?_;refine Run.fin Z (z4.go ?_);exact .t Z
   |true=>
    rw [w13] at hinv;refine Run.zf Z Z Z ?_;refine fR Z ?_;refine aL Z Z Z Z Z ?_;refine fM Z ?_;exact zh 1 Z (ih () hinv) Z Z Z
 ·have hR:z3F zt litF refF ds=false:=by
   simp only [z3F,Bool.and_eq_false_iff,w1u];omega
  rw [hR];refine z6.run H.i35 H.mixed Z Z ?_;refine fR Z ?_;refine lM Z Z Z ?_;refine fM Z ?_;refine lMG Z Z Z Z ?_;refine fM Z ?_;refine Run.zj Z Z (by simp;omega) ?_;refine fR Z ?_;refine Run.fin Z (z4.go ?_);exact .t Z
end Go.GB.C29
namespace Go.GB.C29
open Go.GB Go.GB.C11 Go.GB.C18
structure PrP (P:Program):Prop where
 s:PrS P
 r:PrR P
 c:C35.Pr P
 p29:YX P
 mixed:P.follows .mixedOrders=true
 i17:z9 P 17=some (n17,c17.bare,r17)
 i19:z9 P 19=some (n19,c19.bare,r19)
 i20:z9 P 20=some (n20,c20.bare,r20)
 i38:z9 P 38=some (n38,c38.bare,r38)
 i66:z9 P 66=some (n66,c66.bare,r66)
 i67:z9 P 67=some (n67,c67.bare,r67)
 i100:z9 P 100=some (n100,c100.bare,r100)
 i102:z9 P 102=some (n102,c102.bare,r102)
 i128:z9 P 128=some (n128,c128.bare,r128)
variable {P:Program}
section
variable {n m:Nat} {R:St->Prop} {draw:Bool} {all:List AO} {after:List (List Nat)} {live:List Nat} {k:List It} {b:Nat} {fl:List (Bool×Bool)} {ops:List AO} {st st':St} {d:Option Nat}
theorem _root_.Go.GB.Mid.zbK {α:Type} {f:α->List T} {l:List α} {sz j:Nat} {s:Nat} {want gc:Bool} {x i:Ar} {v:V} {kd:IntKind} {p1 p2:List Bool} (hg:ZZ want (look st.env s)=some gc) (hf:gc=false) (hx:rd gc st x=(v,p1)) (hv:v.zF=some (.lst (l.map f))) (hi:rd gc st i=(.t (.int kd j),p2)) (hc:l[j]?=none)
  (hs:zQ st d (.gd false .top) some=some st') (h':Mid P n m R draw all after live k b ((false,false)::fl) ops st'):Mid P n m R draw all after live k b fl (⟨d,some (s,want),.ia sz x i⟩::ops) st:=by
 refine Mid.Wi hg hf ?_ (by simp only [Z8];exact Yu hx hv) hs h';simp only [zk,hx,hi]
 have hn:(l.map f)[((j:Int)).toNat]?=none:=by simp;simpa using hc
 cases v<;>simp_all [V.zF]
end
theorem z6o (H:Pr P) (s:Str):z6 P 86 [.t (.str s)] ⟨[],0⟩ {v:= .t (.bool (zt s))}:=by
 by_cases h':s.length<=140737488355328
 ·exact Qu H s h'
 ·have e:zt s=false:=by unfold zt;rw [show decide (1<=s.length/\s.length<=64)=false from by simp;omega];rfl
  rw [e];refine z6.run H.i86 H.mixed Z Z ?_;refine fR Z ?_;refine Run.zj Z Z (by simp;omega) ?_;refine fR Z ?_;refine Run.fin Z (z4.go ?_);exact .t Z
theorem zdF (H:Pr P) (s:Str):z6 P 99 [.t (.str s)] ⟨[],0⟩ {v:= .t (.bool (zdq s))}:=by
 match s with
 |[]=>exact Q7 H [] (by decide)
 |[a]=>exact Q7 H [a] (by simp)
 |a::b::r=>
  refine z6.run H.i99 H.mixed Z Z ?_;refine fR Z ?_;refine gr Z ?_;refine fM Z ?_;refine gr Z ?_;refine fM Z ?_
  refine Run.fin Z (z4.go ?_);exact .t (by
   have:decide (((a::b::r).length:Int)≥2)=true:=by simp;omega
   rw [this];rfl)
theorem zfF (H:PrS P):R6 P zt C11.QZ YW:=⟨z6o H.w.p18.toPr13.toPr,C11.z8E H.w.p18.toPr13,C11.z3C H.w.p18.toPr13.toPr⟩
def z9f:Ref:=⟨[83,116,114,105,110,103],[1]⟩
theorem zgj (H:PrP P):z6 P 100 [] ⟨[],0⟩ {v:=z9f.v}:=by
 refine z6.run H.i100 H.mixed Z Z ?_;refine fR Z ?_;refine Run.fin Z (z4.go ?_);exact .agg (.cons (.t Z) (.cons (.own Z) .nil))
theorem z7E (H:PrP P) (l:List Str) (hl:l.length<=140737488355328) (s:Str):z6 P 66 [.t (.lst (l.map sE)),.t (.str s)] ⟨[],0⟩ {v:= .t (.int .i64 (Zi s l 0))}:=by
 refine z6.run H.i66 H.mixed Z Z ?_;refine fR Z ?_;refine zu l (fun i (_:Unit)=>{env:=[(0,.t (.lst (l.map sE))),(1,.t (.str s)),(5,.t (.int .i64 i))],s:=⟨[],0⟩}) (fun r i _=>Zi s l 0=Zi s r i) 0 () Z Z Z Z Z ?_ ?_
 ·intro _ hinv;refine fR Z ?_;refine lM Z Z Z ?_;refine fM Z ?_;refine Run.zf Z Z (by simp) ?_;refine fR Z ?_;refine Run.fin Z (z4.go ?_);exact .t (by rw [hinv];rfl)
 ·intro i x r _ h1 hi hd hinv ih;refine fR Z ?_;refine lM Z Z Z ?_;refine fM Z ?_;refine Run.zj Z Z (by simp;omega) ?_;refine fR Z ?_;refine Mid.za Z Z Z h1 Z Z ?_;refine fM Z ?_;refine Run.cond Z Z (fun h=>?_) (fun h=>?_)
  ·have h':(s==x)=true:=by rw [beq_iff_eq] at h⊢;exact h.symm
   refine fR Z ?_;refine Run.fin Z (z4.go ?_);exact .t (by rw [hinv];simp only [Zi];rw [w0c h'])
  ·have h':¬ (s==x)=true:=by intro e;rw [beq_iff_eq] at e;rw [e] at h;simp at h
   refine fR Z ?_;refine aL Z Z Z Z Z ?_;refine fM Z ?_;exact zh 0 Z (ih () (by rw [hinv];simp only [Zi];rw [w0d h'];rfl)) Z Z Z
def zgE (v:Val):Bool:=(decide (szV v<=4096)&&decide (dpV v<=24))&&z3b false v
theorem z85 (H:PrP P) (v:Val) (hv:v.Ok):z6 P 128 [v.v] ⟨[],0⟩ {v:= .t (.bool (zgE v))}:=by
 have h1:=z15 H.s.w.p18.toPr13 v hv;have h2:=z00 H.s.w.p18.toPr13 v hv;have h3:=z01 H.s.w.p18.toPr13 false v hv;unfold SzC at h1;unfold DpC at h2;unfold WhC at h3;refine z6.run H.i128 H.mixed Z Z ?_;refine fR Z ?_;refine Mid.call (h1) Z Z Z Z ?_;refine fM Z ?_;refine caG Z Z (fun hg=>⟨_,rfl,h2,rfl⟩) Z Z ?_;refine fM Z ?_;refine caG Z Z (fun hg=>⟨_,rfl,h3,rfl⟩) Z Z ?_;refine fM Z ?_;refine Run.fin Z (z4.go ?_);exact .t Z
def CoK (F:Co):Prop:=∀lit t v w,t.Ok->v.Ok->(F lit t v w).1.Ok
theorem z6u {rec:Val->W2->Val×W2} (h:∀x w,x.Ok->(rec x w).1.Ok):∀(l:List Val) (w:W2),(∀x,x∈l->x.Ok)->(YB rec l w).1.length<=l.length/\∀x,x∈(YB rec l w).1->x.Ok
 |[],w,_=>by simp [YB]
 |y::r,w,ho=>by
  simp only [YB];split
  ·obtain ⟨i1,i2⟩:=z6u h r (rec y w).2 fun x hx=>ho x (by simp [hx])
   refine ⟨by simp only [w0b];omega,fun x hx=>?_⟩
   simp only [w17] at hx
   rcases hx with rfl|hx
   ·exact h y w (ho y (by simp))
   ·exact i2 x hx
  ·simp
theorem z9T {v:Val} (hv:v.Ok):(Yp v).length*80<=B47/\∀x,x∈Yp v->x.Ok:=by
 unfold Yp;split
 ·exact ⟨hv.il,hv.it⟩
 ·exact ⟨by show 1*80<=140737488355328;decide,by intro x hx;simp at hx;subst hx;exact hv⟩
theorem zdS {rec:Val->W2->Val×W2} (h:∀x w,x.Ok->(rec x w).1.Ok) {v:Val} (hv:v.Ok) (w:W2):(z70 rec v w).1.Ok:=by
 obtain ⟨i1,i2⟩:=z9T hv;obtain ⟨j1,j2⟩:=z6u h (Yp v) w i2;unfold z70;exact .mk (by have:B47=140737488355328:=rfl;omega) (by simp) j2 (by simp) (by simp)
theorem zdm {n:Str} {v:Val} (hv:v.Ok):((z5y n v).getD Val.zero).Ok:=by
 unfold z5y;split
 ·exact hv
 ·split
  ·exact hv
  ·split
   ·exact .mk (by decide) (by decide) (by simp) (by have:=zbS v.int;omega) (by simp)
   ·exact Val.ZF
theorem zdd {t:Def} {lit:Bool} {v:Val} (hv:v.Ok):((z7g t lit v).getD Val.zero).Ok:=by
 unfold z7g;split
 ·exact .mk (by decide) (by decide) (by simp) hv.tl (by simp)
 ·exact Val.ZF
theorem zfK {v:Val} (hv:v.Ok) {n:Str}:((Wl v n).getD Val.zero).Ok:=by
 cases hg:Wl v n with
 |none=>exact Val.ZF
 |some y=>exact z9I hv hg
theorem za9 {F:Co} (h:CoK F) {lit:Bool} {v:Val} (hv:v.Ok) {x:Input} (hx:x.Ok) {w:W2} {y:Val×W2} (he:wT F lit v x w=some y):y.1.Ok:=by
 unfold wT at he;split at he
 ·simp only [w00] at he;subst he;exact h _ _ _ _ hx.t (zfK hv)
 ·split at he
  ·simp only [w00] at he;subst he;exact h _ _ _ _ hx.t hx.v
  ·split at he
   ·simp only [w00] at he;subst he;exact Val.ZF
   ·cases he
theorem z5H {F:Co} (h:CoK F) {lit:Bool} {t:List Input} {v:Val} (hv:v.Ok):∀(l:List Input) (i:Nat) (w:W2),(∀x,x∈l->x.Ok)->(Yc F lit t v i l w).1.length<=l.length/\∀y,y∈(Yc F lit t v i l w).1->y.1.length<=140737488355328/\y.2.Ok
 |[],i,w,_=>by simp [Yc]
 |x::r,i,w,ho=>by
  have hr:∀(i:Nat) (w:W2),(Yc F lit t v i r w).1.length<=(x::r).length/\∀y,y∈(Yc F lit t v i r w).1->y.1.length<=140737488355328/\y.2.Ok:=fun i w=>by
   obtain ⟨i1,i2⟩:=z5H h hv r i w fun x hx=>ho x (by simp [hx])
   exact ⟨by simp only [w0b];omega,i2⟩
  simp only [Yc];split
  ·split
   ·exact hr _ _
   ·split
    ·exact hr _ _
    ·rename_i y he;obtain ⟨i1,i2⟩:=z5H (lit:=lit) (t:=t) h hv r (i+1) y.2 fun x hx=>ho x (by simp [hx])
     refine ⟨by simp only [w0b];omega,fun z hz=>?_⟩
     simp only [w17] at hz
     rcases hz with rfl|hz
     ·exact ⟨(ho x (by simp)).nm,za9 h hv (ho x (by simp)) he⟩
     ·exact i2 z hz
  ·simp
theorem zdG {F:Co} (h:CoK F) {lit:Bool} {t:Def} (ht:t.Ok) (hni:t.zp.length<=1099511627776) {v:Val} (hv:v.Ok) (w:W2):(z3M F lit t v w).1.Ok:=by
 unfold z3M;split
 ·obtain ⟨i1,i2⟩:=z5H h (lit:=lit) (t:=t.zp) hv t.zp 0 (w.1,z2Q t.zp v.keys w.2) ht.n;refine .mk (by have:B47=140737488355328:=rfl;simp;omega) (by have:B47=140737488355328:=rfl;simp;omega) (fun x hx=>?_) (by simp) (fun x hx=>?_)
  ·obtain ⟨y,hy,rfl⟩:=w1a.1 hx;exact (i2 y hy).2
  ·obtain ⟨y,hy,rfl⟩:=w1a.1 hx;exact (i2 y hy).1
 ·exact Val.ZF
theorem zcC {ds:List Def} (hD:Z6 ds) (hni:∀d,d∈ds->d.zp.length<=1099511627776) {F:Co} (h:CoK F) (l:Int):CoK (coB ds l F):=by
 intro lit t v w ht hv
 have hfo:((zi t.name ds).getD Def.zero).Ok/\((zi t.name ds).getD Def.zero).zp.length<=1099511627776:=by
  cases hg:zi t.name ds with
  |none=>exact ⟨Def.ZF,by simp [Def.zero]⟩
  |some y=>exact ⟨hD.d y (ZN hg),hni y (ZN hg)⟩
 unfold coB
 repeat' split
 all_goals first
  |exact Val.ZF
  |exact zdS (fun x w hx=>h _ _ _ _ (z5L ht) hx) hv _
  |exact zdm hv
  |exact zdd hv
  |exact zdG h hfo.1 hfo.2 hv _
theorem zda {ds:List Def} (hD:Z6 ds) (hni:∀d,d∈ds->d.zp.length<=1099511627776):∀k,CoK (coN ds k)
 |0=>zcC hD hni (fun _ _ _ _ _ _=>Val.ZF) _
 |k+1=>zcC hD hni (zda hD hni k) _
theorem zeS {ds:List Def} (hD:Z6 ds) (hni:∀d,d∈ds->d.zp.length<=1099511627776) {t:Ref} (ht:t.Ok) {v:Val} (hv:v.Ok):(qV ds t v).1.Ok:=by
 unfold qV z6k;split
 ·exact zda hD hni 24 _ _ _ _ ht hv
 ·exact Val.ZF
def z3p (ds:List Def) (x:Input) (a:Arg):Bool:=((qV ds x.ty a.val).2 !=0||!zgE a.val)||!C35.z4v (qV ds x.ty a.val).1 a.val
def w9 (ds:List Def):List Input->List Arg->Bool
 |[],l=>l.isEmpty
 |x::r,[]=>if (x.has||nnF x.ty.zw)=true then false else w9 ds r []
 |x::r,a::l=>if (a.name==x.name)=true then (if z3p ds x a=true then false else w9 ds r l) else if (x.has||nnF x.ty.zw)=true then false else w9 ds r (a::l)
theorem zaU (H:PrP P) (ds:List Def) (hD:Z6 ds) (hni:∀d,d∈ds->d.zp.length<=1099511627776) (xs:List Input) (hx:xs.length<=140737488355328) (hxo:∀x,x∈xs->x.Ok) (l:List Arg) (hl:l.length<=140737488355328) (hlo:∀a,a∈l->a.Ok):
  z6 P 102 [yT ds,.t (.lst (xs.map Input.enc)),.t (.lst (l.map Arg.enc))] ⟨[],0⟩ {v:= .t (.bool (w9 ds xs l))}:=by
 generalize hR:w9 ds xs l=R;refine z6.run H.i102 H.mixed Z Z ?_;refine fR Z ?_;refine zu xs (fun i (k:Nat)=>{env:=[(1,.t (.lst (xs.map Input.enc))),(2,.t (.lst (l.map Arg.enc))),(3,.ptr 0 0),(7,.t (.int .i64 k)),(8,.t (.int .i64 i))],s:=⟨[(0,.cells [.t (.lst (ds.map Def.enc))])],1⟩}) (fun r i k=>k<=l.length/\w9 ds r (l.drop k)=R) 1 0 Z ⟨Nat.zero_le _,hR⟩ Z Z Z ?_ ?_
 ·rintro k ⟨hk,hinv⟩;have hk':k<=l.length:=hk
  have e:((k:Int)==(l.length:Int))=R:=by
   rw [←hinv,w9];by_cases hkl:k=l.length
   ·rw [hkl,List.drop_length];simp
   ·have h1:((k:Int)==(l.length:Int))=false:=by simp;omega
    have h2:(l.drop k).isEmpty=false:=by
     rw [w1k (by omega:k<l.length)];rfl
    rw [h1,h2]
  refine fR Z ?_;refine lM Z Z Z ?_;refine fM Z ?_;refine Run.zf Z Z (by simp) ?_;refine fR Z ?_;refine lM Z Z Z ?_;refine fM Z ?_;refine Run.fin Z (z4.go ?_);exact .t (by rw [e])
 ·rintro i x r k k1 hi hd ⟨hk,hinv⟩ ih;have hk':k<=l.length:=hk;have hxx:=hxo x (zMG k1);by_cases hlt:k<l.length
  ·have ha:l[k]?=some l[k]:=w09 hlt;have hdr:l.drop k=l[k]::l.drop (k+1):=w1k hlt;generalize l[k]=a at ha hdr;have hao:=hlo a (zMG ha);rw [hdr] at hinv;simp only [w9] at hinv
   have hdt:decide ((k:Int)<(l.length:Int))=true:=by simp;omega
   refine fR Z ?_;refine lM Z Z Z ?_;refine fM Z ?_;refine Run.zj Z Z (by simp;omega) ?_;refine fR Z ?_;refine lM Z Z Z ?_;refine fM Z ?_;refine elG Z Z Z Z ha Z Z ?_;refine fM Z ?_;refine elG Z Z Z Z k1 Z Z ?_;refine fM Z ?_;refine Run.cond Z Z (fun h1=>?_) (fun h1=>?_)
   ·have h1':(a.name==x.name)=true:=by rw [hdt,w13] at h1;exact h1
    rw [w0c h1'] at hinv;refine fR Z ?_;refine Mid.za Z Z Z k1 Z Z ?_;refine fM Z ?_;refine Mid.za Z Z Z ha Z Z ?_;refine fM Z ?_;refine Mid.call (z8C H.s.w ds hD hni x.ty hxx.t a.val hao) Z Z Z Z ?_;refine fM Z ?_;refine elG Z Z Z Z ha Z Z ?_;refine fM Z ?_;refine caG Z Z (fun hg=>⟨_,rfl,z85 H a.val hao,rfl⟩) Z Z ?_;refine fM Z ?_;refine elG Z Z Z Z ha Z Z ?_;refine fM Z ?_;refine caG Z Z (fun hg=>⟨_,rfl,C35.z7r H.c (qV ds x.ty a.val).1 a.val (zeS hD hni hxx.t hao) hao,rfl⟩) Z Z ?_;refine fM Z ?_;refine Run.cond Z Z (fun h2=>?_) (fun h2=>?_)
    ·have h2':z3p ds x a=true:=h2;rw [w0c h2'] at hinv;subst hinv;refine fR Z ?_;refine Run.fin Z (z4.go ?_);exact .t Z
    ·have h2':z3p ds x a=false:=h2;rw [w0d (by rw [h2'];simp)] at hinv;refine fR Z ?_;refine aL Z Z Z Z Z ?_;refine fM Z ?_;refine aL Z Z Z Z Z ?_;refine fM Z ?_;exact zh 1 Z (ih (k+1) ⟨by omega,hinv⟩) rfl rfl rfl
   ·have h1':(a.name==x.name)=false:=by rw [hdt,w13] at h1;exact h1
    rw [w0d (by rw [h1'];simp)] at hinv;refine fR Z ?_;refine Mid.za Z Z Z k1 Z Z ?_;refine fM Z ?_;refine elG Z Z Z Z k1 Z Z ?_;refine fM Z ?_;refine caG Z Z (fun hg=>⟨_,rfl,z6m H.s.w.p18.toPr13.toPr x.ty hxx.t,rfl⟩) Z Z ?_;refine fM Z ?_;refine Run.cond Z Z (fun h3=>?_) (fun h3=>?_)
    ·rw [w0c h3] at hinv;subst hinv;refine fR Z ?_;refine Run.fin Z (z4.go ?_);exact .t Z
    ·rw [w0d (by rw [h3];simp),←hdr] at hinv;refine fR Z ?_;refine aL Z Z Z Z Z ?_;refine fM Z ?_;exact zh 1 Z (ih k ⟨by omega,hinv⟩) rfl rfl rfl
  ·have hdr:l.drop k=[]:=w2g (by omega);rw [hdr] at hinv;simp only [w9] at hinv
   have hdf:decide ((k:Int)<(l.length:Int))=false:=by simp;omega
   refine fR Z ?_;refine lM Z Z Z ?_;refine fM Z ?_;refine Run.zj Z Z (by simp;omega) ?_;refine fR Z ?_;refine lM Z Z Z ?_;refine fM Z ?_;rw [hdf];refine Mid.zbK Z Z Z Z Z (by simp;omega) Z ?_;refine Mid.Wi Z Z Z Z Z ?_;refine Mid.Wi Z Z Z Z Z ?_;refine fM Z ?_;refine elG Z Z Z Z k1 Z Z ?_;refine fM Z ?_;refine Mid.Wi Z Z Z Z Z ?_;refine fM Z ?_;refine Run.zf Z Z Z ?_;refine fR Z ?_;refine Mid.za Z Z Z k1 Z Z ?_;refine fM Z ?_;refine elG Z Z Z Z k1 Z Z ?_;refine fM Z ?_;refine caG Z Z (fun hg=>⟨_,rfl,z6m H.s.w.p18.toPr13.toPr x.ty hxx.t,rfl⟩) Z Z ?_;refine fM Z ?_;refine Run.cond Z Z (fun h3=>?_) (fun h3=>?_)
   ·rw [w0c h3] at hinv;subst hinv;refine fR Z ?_;refine Run.fin Z (z4.go ?_);exact .t Z
   ·rw [w0d (by rw [h3];simp),←hdr] at hinv;refine fR Z ?_;refine aL Z Z Z Z Z ?_;refine fM Z ?_;exact zh 1 Z (ih k ⟨by omega,hinv⟩) rfl rfl rfl
end Go.GB.C29
