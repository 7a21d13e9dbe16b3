/-
  YtpakhiccblfcmaaGreatP6: lemmas. No conditions.
-/
import Derived.Test.YtpakhiccblfcmaaGreatP5
import Derived.KernelRfl
import Derived.Test.YtpakhiccblfcmaaGreatP2
import Derived.Carry
import Derived.Handed
import Derived.ChangeSame
import Derived.ProofKit
import Derived.OpenShut
set_option linter.all false
set_option maxRecDepth 100000
set_option maxHeartbeats 16000000
namespace Go.GB.C26
open Go.GB
def Q (x d:Int):Prop:=1<=x/\x<=d
theorem Q.mono {x d e:Int} (h:Q x d) (he:d<=e):Q x e:=⟨h.1,by have:=h.2;omega⟩
theorem zeK {x y:Int} (hx:0<=x) (hy:0<=y) (h:∀d,Q x d↔Q y d):x=y:=by
 by_cases h0:x=0
 ·by_cases h1:y=0
  ·omega
  ·have:=(h y).2 ⟨by omega,by omega⟩
   have:=this.1;omega
 ·have a:=(h x).1 ⟨by omega,by omega⟩
  have b:=(h y).2 ⟨a.1,by omega⟩
  have:=a.2;have:=b.2;omega
theorem WR {a b d:Int} (ha:0<=a) (hb:0<=b):Q (zT a b) d↔Q a d∨Q b d:=by
 simp only [zT,Q];split
 ·next h=>simp at h;omega
 ·next h=>simp at h;omega
theorem z1q {a b:Int} (ha:0<=a) (hb:0<=b):0<=zT a b:=by
 simp only [zT];split<;>assumption
theorem z3U {a b:Int} (h:zT a b≠a) (hb:0<=b):zT a b=b/\0<b/\(a=0∨b<a):=by
 simp only [zT] at h⊢;split
 ·next e=>
  rw [w0c e] at h
  simp at e;exact ⟨rfl,by omega,by omega⟩
 ·next e=>rw [w0d e] at h;exact absurd Z h
theorem Qr {a b d:Int} (ha:0<=a) (hb:0<=b):Q (least a b) d↔Q a d∨Q b d:=by
 simp only [least,Q];split
 ·next h=>simp at h;omega
 ·next h=>simp at h;omega
theorem WE {a b:Int} (ha:0<=a) (hb:0<=b):0<=least a b:=by
 simp only [least];split<;>assumption
section
variable {ι:Type} [DecidableEq ι]
def upd (v:ι->Int) (i:ι) (x:Int):ι->Int:=fun k=>if k=i then x else v k
def cnt (v:ι->Int):List ι->Nat
 |[]=>0
 |i::r=>(if v i=0 then 0 else 1)+cnt v r
def pot (v:ι->Int):List ι->Nat
 |[]=>0
 |i::r=>(if v i=0 then 4398046511104 else (v i).toNat)+pot v r
theorem z5k (v:ι->Int):∀fs:List ι,cnt v fs<=fs.length
 |[]=>w07 _
 |i::r=>by have:=z5k v r;simp only [cnt,w0b];split<;>omega
theorem z61 {v:ι->Int} {i:ι} {x:Int} (hx:x≠0):∀fs:List ι,cnt v fs<=cnt (upd v i x) fs
 |[]=>w07 _
 |k::r=>by
  have:=z61 (v:=v) (i:=i) hx r;simp only [cnt];by_cases h:k=i
  ·have e:upd v i x k=x:=by simp [upd,h]
   rw [e];(repeat' split)<;>omega
  ·have e:upd v i x k=v k:=by simp [upd,h]
   rw [e];split<;>omega
theorem z68 {v:ι->Int} {i:ι} {x:Int} (hx:x≠0) (h0:v i=0):∀fs:List ι,i∈fs->cnt v fs+1<=cnt (upd v i x) fs
 |[],h=>by cases h
 |k::r,h=>by
  have h2:=z61 (v:=v) (i:=i) hx r;simp only [cnt];by_cases hk:k=i
  ·have e:upd v i x k=x:=by simp [upd,hk]
   rw [e,hk];simp only [h0,hx,w0v,w0r];omega
  ·have h3:=z68 (i:=i) hx h0 r (by cases h with|head=>exact absurd rfl hk|tail _ h=>exact h)
   have e:upd v i x k=v k:=by simp [upd,hk]
   rw [e];split<;>omega
theorem z73 {v:ι->Int} {i:ι} {x:Int} (hx:0<x) (h0:v i=0/\x<4398046511104∨x<v i):∀fs:List ι,pot (upd v i x) fs<=pot v fs
 |[]=>w07 _
 |k::r=>by
  have h3:=z73 hx h0 r;simp only [pot];by_cases hk:k=i
  ·have e:upd v i x k=x:=by simp [upd,hk]
   rw [e,hk];(repeat' split)<;>omega
  ·have e:upd v i x k=v k:=by simp [upd,hk]
   rw [e];split<;>omega
theorem z9t {v:ι->Int} {i:ι} {x:Int} (hx:0<x) (h0:v i=0/\x<4398046511104∨x<v i):∀fs:List ι,i∈fs->pot (upd v i x) fs<pot v fs
 |[],h=>by cases h
 |k::r,h=>by
  have h2:=z73 hx h0 r;simp only [pot];by_cases hk:k=i
  ·have e:upd v i x k=x:=by simp [upd,hk]
   rw [e,hk];(repeat' split)<;>omega
  ·have h3:=z9t hx h0 r (by cases h with|head=>exact absurd rfl hk|tail _ h=>exact h)
   have e:upd v i x k=v k:=by simp [upd,hk]
   rw [e];split<;>omega
structure Bd (fs:List ι) (v:ι->Int):Prop where
 len:fs.length<=1000000
 nn:∀i,0<=v i
 le:∀i,v i<=1099511627776+cnt v fs
theorem Bd.lt {fs:List ι} {v:ι->Int} (h:Bd fs v) (i:ι):v i<=1099512627776:=by
 have:=h.le i;have:=z5k v fs;have:=h.len;omega
theorem Bd.step {fs:List ι} {v:ι->Int} (h:Bd fs v) {i:ι} {x:Int} (hi:i∈fs) (hx:0<x) (hc:v i=0∨x<v i) (hb:x<=1099511627776+cnt v fs+1):
  Bd fs (upd v i x)/\pot (upd v i x) fs<pot v fs:=by
 have h1:=z5k v fs;have h2:=h.len;have h3:=z61 (v:=v) (i:=i) (x:=x) (by omega) fs;refine ⟨⟨h2,fun k=>?_,fun k=>?_⟩,z9t hx ?_ fs hi⟩
 ·have e:upd v i x k=if k=i then x else v k:=rfl;rw [e];split
  ·omega
  ·exact h.nn k
 ·have e:upd v i x k=if k=i then x else v k:=rfl;rw [e];split
  ·rcases hc with hc|hc
   ·have:=z68 (x:=x) (by omega) hc fs hi;omega
   ·have:=h.le i;omega
  ·have:=h.le k;omega
 ·rcases hc with hc|hc
  ·left;exact ⟨hc,by omega⟩
  ·right;exact hc
end
inductive Fct where
 |a (g:Int)
 |l (f:Str)
 |j (j:zo)
inductive Der (n:Nat) (sp:List ze) (js:List zo) (ks:List zA):Fct->Int->Prop where
 |spot (x:ze):x∈sp->Der n sp js ks (.a x.graph) x.depth
 |key (k:zA) (d:Int):k∈ks->k.fields≠[]->(∀f,f∈k.fields->Der n sp js ks (.l f) d)->Der n sp js ks (.a k.graph) (d+1)
 |lj (j:zo) (d:Int):j∈js->Der n sp js ks (.j j) d->Der n sp js ks (.l j.field) d
 |lt (g:Nat) (d:Int):g<n->Der n sp js ks (.a g) d->Der n sp js ks (.l tyN) d
 |jx (j:zo) (x:ze):j.ext=true->x∈sp->x.graph=j.graph->j.field∈x.Zk->Der n sp js ks (.j j) x.depth
 |j0 (j:zo) (d:Int):j.ext=false->j.req=[]->Der n sp js ks (.a j.graph) d->Der n sp js ks (.j j) d
 |jr (j:zo) (k:zA) (d:Int):j.ext=false->j.req≠[]->k∈ks->k.graph=j.graph->k.fields≠[]->(∀f,f∈k.fields->Der n sp js ks (.l f) d)->(∀f,f∈j.req->Der n sp js ks (.l f) d)->Der n sp js ks (.j j) (d+1)
 |up (x:Fct) (d e:Int):Der n sp js ks x d->d<=e->Der n sp js ks x e
structure In (n:Nat) (sp:List ze) (js:List zo) (ks:List zA):Prop where
 n0:n<=1000
 jl:js.length<=1000
 sg:∀x∈sp,0<=x.graph/\x.graph<n/\1<=x.depth/\x.depth<=1099511627776
 jg:∀j∈js,0<=j.graph/\j.graph<n
 kg:∀k∈ks,0<=k.graph/\k.graph<n
theorem wrap_small {x:Int} (h0:0<=x) (h1:x<=1099512627780):IntKind.i64.wrap x=x:=by
 exact wrap64 (by omega) (by omega)
structure Ans (n:Nat) (sp:List ze) (js:List zo) (ks:List zA) (a:Nat->Int) (l:Str->Int) (rd:zo->Int):Prop where
 na:∀g,g<n->0<=a g
 nl:∀f,0<=l f
 nj:∀j,j∈js->0<=rd j
 qa:∀g,g<n->∀d,Q (a g) d↔Der n sp js ks (.a g) d
 ql:∀f d,Q (l f) d↔Der n sp js ks (.l f) d
 qj:∀j,j∈js->∀d,Q (rd j) d↔Der n sp js ks (.j j) d
theorem Ans.eqL {n sp js ks a l rd a' l' rd'} (h:Ans n sp js ks a l rd) (h':Ans n sp js ks a' l' rd') (f:Str):l f=l' f:=
 zeK (h.nl f) (h'.nl f) fun d=>(h.ql f d).trans (h'.ql f d).symm
theorem Ans.eqJ {n sp js ks a l rd a' l' rd'} (h:Ans n sp js ks a l rd) (h':Ans n sp js ks a' l' rd') (j:zo) (hj:j∈js):rd j=rd' j:=
 zeK (h.nj j hj) (h'.nj j hj) fun d=>(h.qj j hj d).trans (h'.qj j hj d).symm
def vR (F:List (Str×Int)) (A:List Int):Nat ⊕ Str->Int
 | .inl g=>A.getD g 0
 | .inr f=>(Z1 f F).getD 0
theorem zdJ {F:List (Str×Int)} {A:List Int} {i:Nat} {x:Int} (hi:i<A.length):vR F (A.set i x)=upd (vR F A) (.inl i) x:=by
 funext k
 cases k with
 |inl g=>
  simp only [vR,upd,w0e,w1i];by_cases h:i=g
  ·subst h;simp [hi]
  ·have:¬ g=i:=fun e=>h e.symm;simp [h,this]
 |inr f=>simp [vR,upd]
theorem zej {F:List (Str×Int)} {A:List Int} {f:Str} {x:Int}:vR (yn f x F) A=upd (vR F A) (.inr f) x:=by
 funext k
 cases k with
 |inl g=>simp [vR,upd]
 |inr f'=>
  simp only [vR,upd,WI,Sum.inr.injEq];by_cases h:f'=f
  ·simp [h]
  ·simp [h]
def fsR (n:Nat) (js:List zo):List (Nat ⊕ Str):=(List.range n).map .inl++js.map (fun j=> .inr j.field)
section
variable {n:Nat} {sp:List ze} {js:List zo} {ks:List zA} {F:List (Str×Int)} {A:List Int}
theorem z98 (hA:∀g,0<=A.getD g 0):∀(c i:Nat) (b:Int),0<=b->0<=z1D A i c b/\∀d,Q (z1D A i c b) d↔Q b d∨∃g,i<=g/\g<i+c/\Q (A.getD g 0) d
 |0,i,b,hb=>⟨hb,fun d=>by
  simp only [z1D]
  exact ⟨Or.inl,fun h=>h.elim id fun ⟨g,h1,h2,_⟩=>by omega⟩⟩
 |c+1,i,b,hb=>by
  obtain ⟨h1,h2⟩:=z98 hA c (i+1) (zT b (A.getD i 0)) (z1q hb (hA i));refine ⟨h1,fun d=>?_⟩;simp only [z1D];rw [h2 d,WR hb (hA i)];constructor
  ·rintro ((h|h)|⟨g,g1,g2,g3⟩)
   ·exact Or.inl h
   ·exact Or.inr ⟨i,by omega,by omega,h⟩
   ·exact Or.inr ⟨g,by omega,by omega,g3⟩
  ·rintro (h|⟨g,g1,g2,g3⟩)
   ·exact Or.inl (Or.inl h)
   ·by_cases e:g=i
    ·subst e;exact Or.inl (Or.inr g3)
    ·exact Or.inr ⟨g,by omega,by omega,g3⟩
theorem qm (hv:∀i,0<=vR F A i) (f:Str):0<=zZ n F A f/\∀d,Q (zZ n F A f) d↔Q ((Z1 f F).getD 0) d∨(f=tyN/\∃g,g<n/\Q (A.getD g 0) d):=by
 have h0:0<=(Z1 f F).getD 0:=hv (.inr f);simp only [zZ];by_cases h:f=tyN
 ·rw [w0c h];obtain ⟨h1,h2⟩:=z98 (fun g=>hv (.inl g)) n 0 _ h0;refine ⟨h1,fun d=>?_⟩;rw [h2 d];constructor
  ·rintro (h|⟨g,_,g2,g3⟩)
   ·exact Or.inl h
   ·exact Or.inr ⟨‹_›,g,by omega,g3⟩
  ·rintro (h|⟨_,g,g2,g3⟩)
   ·exact Or.inl h
   ·exact Or.inr ⟨g,by omega,by omega,g3⟩
 ·rw [w0d h];exact ⟨h0,fun d=>⟨Or.inl,fun h'=>h'.elim id fun ⟨e,_⟩=>absurd e h⟩⟩
theorem zeJ (hv:∀i,0<=vR F A i):∀(l:List Str) (m:Int),0<=m->0<=W1 n F A l m/\∀d,Q (W1 n F A l m) d↔(l=[]->1<=m)/\m<=d/\∀f,f∈l->Q (zZ n F A f) d
 |[],m,hm=>⟨hm,fun d=>by simp [W1,Q]⟩
 |f::r,m,hm=>by
  obtain ⟨h1,h2⟩:=qm (n:=n) hv f;simp only [W1];by_cases h0:zZ n F A f=0
  ·rw [w0c h0]
   refine ⟨by omega,fun d=>?_⟩
   constructor
   ·intro h;have:=h.1;omega
   ·rintro ⟨_,_,h⟩;have:=(h f (w0l ..)).1;omega
  ·rw [w0d h0]
   have hx:0<=(if zZ n F A f>m then zZ n F A f else m):=by split<;>omega
   obtain ⟨h3,h4⟩:=zeJ hv r _ hx;refine ⟨h3,fun d=>?_⟩;rw [h4 d];constructor
   ·rintro ⟨a,b,c⟩
    refine ⟨fun e=>(by cases e),by split at b<;>omega,?_⟩
    intro f' hf'
    cases hf' with
    |head=>exact ⟨by omega,by split at b<;>omega⟩
    |tail _ h=>exact c f' h
   ·rintro ⟨a,b,c⟩;have h5:=c f (w0l ..);have:=h5.1;have:=h5.2
    refine ⟨fun _=>by split<;>omega,by split<;>omega,fun f' h=>c f' (w08 _ h)⟩
theorem z86 (hv:∀i,0<=vR F A i) (l:List Str):0<=W1 n F A l 0/\∀d,Q (W1 n F A l 0) d↔l≠[]/\∀f,f∈l->Q (zZ n F A f) d:=by
 obtain ⟨h1,h2⟩:=zeJ (n:=n) hv l 0 (w1h 0);refine ⟨h1,fun d=>?_⟩;rw [h2 d];constructor
 ·rintro ⟨a,b,c⟩
  exact ⟨fun e=>by have:=a e;omega,c⟩
 ·rintro ⟨a,c⟩;refine ⟨fun e=>absurd e a,?_,c⟩
  cases l with
  |nil=>exact absurd rfl a
  |cons f r=>have h:=c f (w0l ..);have:=h.1;have:=h.2;omega
theorem zba (hv:∀i,0<=vR F A i) (g:Int):∀(l:List zA) (b:Int),0<=b->0<=y9 n F A g l b/\∀d,Q (y9 n F A g l b) d↔Q b d∨∃k,k∈l/\k.graph=g/\k.fields≠[]/\∀f,f∈k.fields->Q (zZ n F A f) d
 |[],b,hb=>⟨hb,fun d=>by simp [y9]⟩
 |k::r,b,hb=>by
  obtain ⟨h1,h2⟩:=z86 (n:=n) hv k.fields;simp only [y9];by_cases hg:k.graph=g
  ·rw [w0c hg];obtain ⟨h3,h4⟩:=zba hv g r (zT b (W1 n F A k.fields 0)) (z1q hb h1);refine ⟨h3,fun d=>?_⟩;rw [h4 d,WR hb h1,h2 d];constructor
   ·rintro ((h|h)|⟨k',a,b,c⟩)
    ·exact Or.inl h
    ·exact Or.inr ⟨k,w0l ..,hg,h⟩
    ·exact Or.inr ⟨k',w08 _ a,b,c⟩
   ·rintro (h|⟨k',a,b,c⟩)
    ·exact Or.inl (Or.inl h)
    ·cases a with
     |head=>exact Or.inl (Or.inr c)
     |tail _ a=>exact Or.inr ⟨k',a,b,c⟩
  ·rw [w0d hg];obtain ⟨h3,h4⟩:=zba hv g r b hb;refine ⟨h3,fun d=>?_⟩;rw [h4 d];constructor
   ·rintro (h|⟨k',a,b,c⟩)
    ·exact Or.inl h
    ·exact Or.inr ⟨k',w08 _ a,b,c⟩
   ·rintro (h|⟨k',a,b,c⟩)
    ·exact Or.inl h
    ·cases a with
     |head=>exact absurd b hg
     |tail _ a=>exact Or.inr ⟨k',a,b,c⟩
theorem z5K (hv:∀i,0<=vR F A i) (g:Int):0<=y9 n F A g ks 0/\∀d,Q (y9 n F A g ks 0) d↔∃k,k∈ks/\k.graph=g/\k.fields≠[]/\∀f,f∈k.fields->Q (zZ n F A f) d:=by
 obtain ⟨h1,h2⟩:=zba (n:=n) hv g ks 0 (w1h 0);refine ⟨h1,fun d=>?_⟩;rw [h2 d]
 exact ⟨fun h=>h.elim (fun h=>by have:=h.1;omega) id,Or.inr⟩
theorem z7C (j:zo):∀(l:List ze) (b:Int),0<=b->(∀x,x∈l->1<=x.depth)->0<=z0R j l b/\∀d,Q (z0R j l b) d↔Q b d∨∃x,x∈l/\x.graph=j.graph/\j.field∈x.Zk/\x.depth<=d
 |[],b,hb,_=>⟨hb,fun d=>by simp [z0R]⟩
 |x::r,b,hb,hx=>by
  have h1:=hx x (w0l ..);simp only [z0R];by_cases hg:(x.graph==j.graph&&decide (j.field∈x.Zk))=true
  ·rw [w0c hg];obtain ⟨h3,h4⟩:=z7C j r (zT b x.depth) (z1q hb (by omega)) (fun y hy=>hx y (w08 _ hy));refine ⟨h3,fun d=>?_⟩
   have hg':x.graph=j.graph/\j.field∈x.Zk:=by simpa using hg
   rw [h4 d,WR hb (by omega)];constructor
   ·rintro ((h|h)|⟨k',a,b,c⟩)
    ·exact Or.inl h
    ·exact Or.inr ⟨x,w0l ..,hg'.1,hg'.2,h.2⟩
    ·exact Or.inr ⟨k',w08 _ a,b,c⟩
   ·rintro (h|⟨k',a,b,c,e⟩)
    ·exact Or.inl (Or.inl h)
    ·cases a with
     |head=>exact Or.inl (Or.inr ⟨h1,e⟩)
     |tail _ a=>exact Or.inr ⟨k',a,b,c,e⟩
  ·rw [w0d hg];obtain ⟨h3,h4⟩:=z7C j r b hb (fun y hy=>hx y (w08 _ hy));refine ⟨h3,fun d=>?_⟩;rw [h4 d];constructor
   ·rintro (h|⟨k',a,b,c⟩)
    ·exact Or.inl h
    ·exact Or.inr ⟨k',w08 _ a,b,c⟩
   ·rintro (h|⟨k',a,b,c,e⟩)
    ·exact Or.inl h
    ·cases a with
     |head=>exact absurd (by simp [b,c]) hg
     |tail _ a=>exact Or.inr ⟨k',a,b,c,e⟩
structure z0A (n:Nat) (sp:List ze) (js:List zo) (ks:List zA) (F:List (Str×Int)) (A:List Int):Prop where
 bd:Bd (fsR n js) (vR F A)
 la:n<=A.length
 sA:∀(g:Nat) d,Q (A.getD g 0) d->Der n sp js ks (.a g) d
 sF:∀f d,Q ((Z1 f F).getD 0) d->Der n sp js ks (.l f) d
 ss:∀x,x∈sp->Q (A.getD x.graph.toNat 0) x.depth
theorem z0A.sL (h:z0A n sp js ks F A) (f:Str) (d:Int) (hq:Q (zZ n F A f) d):Der n sp js ks (.l f) d:=by
 rcases ((qm h.bd.nn f).2 d).1 hq with h1|⟨e,g,g1,g2⟩
 ·exact h.sF f d h1
 ·rw [e];exact .lt g d g1 (h.sA g d g2)
theorem z0t {B:Int} (hv:∀i,0<=vR F A i) (hB:∀i,vR F A i<=B) (f:Str) (d:Int) (hq:Q (zZ n F A f) d):Q (zZ n F A f) B:=by
 rw [(qm hv f).2 B]
 rcases ((qm hv f).2 d).1 hq with h1|⟨e,g,g1,g2⟩
 ·exact Or.inl ⟨h1.1,hB (.inr f)⟩
 ·exact Or.inr ⟨e,g,g1,g2.1,hB (.inl g)⟩
theorem z57 {B:Int} (hv:∀i,0<=vR F A i) (h0:0<=B) (hB:∀i,vR F A i<=B) (g:Int):y9 n F A g ks 0<=B:=by
 by_cases h:y9 n F A g ks 0=0
 ·omega
 ·obtain ⟨h1,h2⟩:=z5K (n:=n) (ks:=ks) hv g
  obtain ⟨k,a,b,c,e⟩:=(h2 (y9 n F A g ks 0)).1 ⟨by omega,by omega⟩
  exact ((h2 B).2 ⟨k,a,b,c,fun f hf=>z0t hv hB f _ (e f hf)⟩).2
theorem zfo {B:Int} (hv:∀i,0<=vR F A i) (h0:0<=B) (hB:∀i,vR F A i<=B) (l:List Str):W1 n F A l 0<=B:=by
 by_cases h:W1 n F A l 0=0
 ·omega
 ·obtain ⟨h1,h2⟩:=z86 (n:=n) hv l
  obtain ⟨a,e⟩:=(h2 (W1 n F A l 0)).1 ⟨by omega,by omega⟩
  exact ((h2 B).2 ⟨a,fun f hf=>z0t hv hB f _ (e f hf)⟩).2
theorem Q1 (hi:In n sp js ks) (hv:∀i,0<=vR F A i) (hB:∀i,vR F A i<=1099512627776) (j:zo) (hj:0<=j.graph):0<=Zh n sp ks F A j/\∀d,Q (Zh n sp ks F A j) d↔
  (j.ext=true/\∃x,x∈sp/\x.graph=j.graph/\j.field∈x.Zk/\x.depth<=d)∨
  (j.ext=false/\j.req=[]/\Q (A.getD j.graph.toNat 0) d)∨
  (j.ext=false/\j.req≠[]/\(∃k,k∈ks/\k.graph=j.graph/\k.fields≠[]/\∀f,f∈k.fields->Q (zZ n F A f) (d - 1))/\∀f,f∈j.req->Q (zZ n F A f) (d - 1)):=by
 simp only [Zh];by_cases he:j.ext=true
 ·rw [w0c he];obtain ⟨h1,h2⟩:=z7C j sp 0 (w1h 0) (fun x hx=>(hi.sg x hx).2.2.1);refine ⟨h1,fun d=>?_⟩;rw [h2 d];simp only [he,true_and];constructor
  ·rintro (h|h)
   ·have:=h.1;omega
   ·exact Or.inl h
  ·rintro (h|h|h)
   ·exact Or.inr h
   ·exact absurd h.1 (by simp)
   ·exact absurd h.1 (by simp)
 ·rw [w0d he]
  have he':j.ext=false:=by simpa using he
  by_cases hr:j.req.length=0
  ·rw [w0c hr];have hr':j.req=[]:=w0q.1 hr;refine ⟨hv (.inl _),fun d=>?_⟩;simp [he',hr']
  ·rw [w0d hr];have hr':j.req≠[]:=fun e=>hr (by rw [e];rfl);obtain ⟨h1,h2⟩:=z5K (n:=n) (ks:=ks) hv j.graph;obtain ⟨h3,h4⟩:=z86 (n:=n) hv j.req;have h5:=z57 (n:=n) (ks:=ks) hv (by omega) hB j.graph;have h6:=zfo (n:=n) hv (by omega) hB j.req;by_cases hz:(y9 n F A j.graph ks 0==0||W1 n F A j.req 0==0)=true
   ·rw [w0c hz];refine ⟨w1h 0,fun d=>?_⟩;constructor
    ·intro h;have:=h.1;omega
    ·rintro (h|h|⟨_,_,h7,h8⟩)
     ·exact absurd h.1 he
     ·exact absurd h.2.1 hr'
     ·have a:=((h2 (d - 1)).2 h7).1;have b:=((h4 (d - 1)).2 ⟨hr',h8⟩).1;simp at hz;omega
   ·rw [w0d hz];simp at hz;simp only [up]
    rw [wrap_small (by split<;>omega) (by split<;>omega)]
    refine ⟨by split<;>omega,fun d=>?_⟩
    constructor
    ·intro h
     refine Or.inr (Or.inr ⟨he',hr',(h2 (d - 1)).1 ⟨by omega,?_⟩,((h4 (d - 1)).1 ⟨by omega,?_⟩).2⟩)
     ·have:=h.2;split at this<;>omega
     ·have:=h.2;split at this<;>omega
    ·rintro (h|h|⟨_,_,h7,h8⟩)
     ·exact absurd h.1 he
     ·exact absurd h.2.1 hr'
     ·have a:=((h2 (d - 1)).2 h7).2;have b:=((h4 (d - 1)).2 ⟨hr',h8⟩).2
      exact ⟨by split<;>omega,by split<;>omega⟩
theorem zdf {B:Int} (hi:In n sp js ks) (hv:∀i,0<=vR F A i) (h0:1099511627776<=B) (hB:∀i,vR F A i<=B) (hB2:∀i,vR F A i<=1099512627776) (j:zo) (hj:0<=j.graph):Zh n sp ks F A j<=B+1:=by
 obtain ⟨h1,h2⟩:=Q1 (js:=js) hi hv hB2 j hj;by_cases h:Zh n sp ks F A j=0
 ·omega
 ·refine ((h2 (B+1)).2 ?_).2
  rcases (h2 (Zh n sp ks F A j)).1 ⟨by omega,by omega⟩ with ⟨a,x,b,c,d,e⟩|⟨a,b,c⟩|⟨a,b,⟨k,c,d,e,f⟩,g⟩
  ·exact Or.inl ⟨a,x,b,c,d,by have:=(hi.sg x b).2.2.2;omega⟩
  ·exact Or.inr (Or.inl ⟨a,b,c.1,by have:=hB (.inl j.graph.toNat);simp only [vR] at this;omega⟩)
  ·refine Or.inr (Or.inr ⟨a,b,⟨k,c,d,e,fun x hx=>?_⟩,fun x hx=>?_⟩)
   ·exact (z0t hv hB x _ (f x hx)).mono (by omega)
   ·exact (z0t hv hB x _ (g x hx)).mono (by omega)
theorem z0A.sJ (h:z0A n sp js ks F A) (hi:In n sp js ks) (j:zo) (hj:0<=j.graph) (d:Int) (hq:Q (Zh n sp ks F A j) d):Der n sp js ks (.j j) d:=by
 rcases ((Q1 hi h.bd.nn h.bd.lt j hj).2 d).1 hq with ⟨a,x,b,c,e,f⟩|⟨a,b,c⟩|⟨a,b,⟨k,c,e,f,g⟩,g'⟩
 ·exact .up _ _ _ (.jx j x a b c e) f
 ·refine .j0 j d a b ?_;have:=h.sA _ _ c
  rwa [Int.toNat_of_nonneg hj] at this
 ·have:=Der.jr (n:=n) (sp:=sp) (js:=js) (ks:=ks) j k (d - 1) a b c e f (fun x hx=>h.sL x _ (g x hx)) (fun x hx=>h.sL x _ (g' x hx))
  rwa [show d - 1+1=d by omega] at this
theorem z5R (hi:In n sp js ks):∀(c i:Nat) (A:List Int) (ch:Bool),z0A n sp js ks F A->i+c=n->
  z0A n sp js ks F (gR n F ks i c A ch).1/\pot (vR F (gR n F ks i c A ch).1) (fsR n js)<=pot (vR F A) (fsR n js)/\
  ((gR n F ks i c A ch).2=true->ch=true∨pot (vR F (gR n F ks i c A ch).1) (fsR n js)<pot (vR F A) (fsR n js))/\
  ((gR n F ks i c A ch).2=false->ch=false/\(gR n F ks i c A ch).1=A/\∀g:Nat,i<=g->g<n->y9 n F A g ks 0>0->zT (A.getD g 0) (IntKind.i64.wrap (y9 n F A g ks 0+1))=A.getD g 0)
 |0,i,A,ch,h,hc=>by
  simp only [gR]
  exact ⟨h,w07 _,Or.inl,fun e=>⟨e,trivial,fun g g1 g2=>by omega⟩⟩
 |c+1,i,A,ch,h,hc=>by
  have hkl:=z57 (n:=n) (ks:=ks) h.bd.nn (by have:=z5k (vR F A) (fsR n js);omega) h.bd.le i;have hkl2:=z57 (n:=n) (ks:=ks) h.bd.nn (by omega) h.bd.lt i;obtain ⟨hk1,hk2⟩:=z5K (n:=n) (ks:=ks) h.bd.nn (i:Int);simp only [gR];by_cases hk:y9 n F A i ks 0>0
  ·rw [w0c hk];have hw:IntKind.i64.wrap (y9 n F A i ks 0+1)=y9 n F A i ks 0+1:=wrap_small (by omega) (by omega);have hA0:0<=A.getD i 0:=h.bd.nn (.inl i);by_cases hl:zT (A.getD i 0) (IntKind.i64.wrap (y9 n F A i ks 0+1))≠A.getD i 0
   ·rw [w0c hl];rw [hw] at hl⊢;have hx:=z3U hl (by omega);rw [hx.1];obtain ⟨b1,b2⟩:=h.bd.step (i:= .inl i) (x:=y9 n F A i ks 0+1) (by simp [fsR];omega) (by omega) hx.2.2 (by omega);rw [←zdJ (by have:=h.la;omega)] at b1 b2
    have hD:Der n sp js ks (.a i) (y9 n F A i ks 0+1):=by
     obtain ⟨k,a,b,c,e⟩:=(hk2 (y9 n F A i ks 0)).1 ⟨by omega,by omega⟩
     rw [←b];rw [←b] at e;exact .key k _ a c fun f hf=>h.sL f _ (e f hf)
    have hI:z0A n sp js ks F (A.set i (y9 n F A i ks 0+1)):=by
     refine ⟨b1,by rw [List.length_set];exact h.la,fun g d hq=>?_,h.sF,fun x hx'=>?_⟩
     ·have e:(A.set i (y9 n F A i ks 0+1)).getD g 0=if i=g then y9 n F A i ks 0+1 else A.getD g 0:=by
       rw [w0e,w1i];by_cases hig:i=g
       ·subst hig;have:=h.la;simp [show i<A.length by omega]
       ·simp [hig]
      rw [e] at hq;by_cases hig:i=g
      ·subst hig;rw [w0c rfl] at hq;exact .up _ _ _ hD hq.2
      ·rw [w0d hig] at hq;exact h.sA g d hq
     ·have e:(A.set i (y9 n F A i ks 0+1)).getD x.graph.toNat 0=if i=x.graph.toNat then y9 n F A i ks 0+1 else A.getD x.graph.toNat 0:=by
       rw [w0e,w1i];by_cases hig:i=x.graph.toNat
       ·rw [←hig];have:=h.la;simp [show i<A.length by omega]
       ·simp [hig]
      rw [e];have hq:=h.ss x hx';by_cases hig:i=x.graph.toNat
      ·rw [w0c hig];rw [←hig] at hq;have a1:=hq.1;have a2:=hq.2
       exact ⟨by omega,by omega⟩
      ·rw [w0d hig];exact hq
    obtain ⟨r1,r2,r3,r4⟩:=z5R hi c (i+1) (A.set i (y9 n F A i ks 0+1)) true hI (by omega)
    refine ⟨r1,by omega,fun _=>Or.inr (by omega),fun e=>?_⟩
    have:=(r4 e).1;cases this
   ·rw [w0d hl];obtain ⟨r1,r2,r3,r4⟩:=z5R hi c (i+1) A ch h (by omega);refine ⟨r1,r2,r3,fun e=>?_⟩;obtain ⟨e1,e2,e3⟩:=r4 e;refine ⟨e1,e2,fun g g1 g2 g3=>?_⟩;by_cases hg:g=i
    ·subst hg;exact Decidable.not_not.1 hl
    ·exact e3 g (by omega) g2 g3
  ·rw [w0d hk];obtain ⟨r1,r2,r3,r4⟩:=z5R hi c (i+1) A ch h (by omega);refine ⟨r1,r2,r3,fun e=>?_⟩;obtain ⟨e1,e2,e3⟩:=r4 e;refine ⟨e1,e2,fun g g1 g2 g3=>?_⟩;by_cases hg:g=i
   ·subst hg;exact absurd g3 hk
   ·exact e3 g (by omega) g2 g3
theorem z8f (hi:In n sp js ks):∀(l:List zo) (F:List (Str×Int)) (ch:Bool),z0A n sp js ks F A->(∀j,j∈l->j∈js)->
  z0A n sp js ks (jR n sp ks A l F ch).1 A/\pot (vR (jR n sp ks A l F ch).1 A) (fsR n js)<=pot (vR F A) (fsR n js)/\
  ((jR n sp ks A l F ch).2=true->ch=true∨pot (vR (jR n sp ks A l F ch).1 A) (fsR n js)<pot (vR F A) (fsR n js))/\
  ((jR n sp ks A l F ch).2=false->ch=false/\(jR n sp ks A l F ch).1=F/\∀j,j∈l->zT ((Z1 j.field F).getD 0) (Zh n sp ks F A j)=(Z1 j.field F).getD 0)
 |[],F,ch,h,hc=>by
  simp only [jR]
  exact ⟨h,w07 _,Or.inl,fun e=>⟨e,trivial,fun j hj=>by cases hj⟩⟩
 |j::r,F,ch,h,hc=>by
  have hj:=hc j (w0l ..);have hg:=(hi.jg j hj).1;have hkl:=zdf (js:=js) hi h.bd.nn (by omega) h.bd.le h.bd.lt j hg;obtain ⟨hk1,hk2⟩:=Q1 (js:=js) hi h.bd.nn h.bd.lt j hg;have hF0:0<=(Z1 j.field F).getD 0:=h.bd.nn (.inr j.field);simp only [jR];by_cases hl:zT ((Z1 j.field F).getD 0) (Zh n sp ks F A j)≠(Z1 j.field F).getD 0
  ·rw [w0c hl];have hx:=z3U hl hk1;rw [hx.1];obtain ⟨b1,b2⟩:=h.bd.step (i:= .inr j.field) (x:=Zh n sp ks F A j) (by simp only [fsR,w19,w1a];exact Or.inr ⟨j,hj,rfl⟩) hx.2.1 hx.2.2 (by omega);rw [←zej] at b1 b2
   have hI:z0A n sp js ks (yn j.field (Zh n sp ks F A j) F) A:=by
    refine ⟨b1,h.la,h.sA,fun f d hq=>?_,h.ss⟩;rw [WI] at hq;by_cases hf:f=j.field
    ·rw [w0c hf] at hq;rw [hf];exact .lj j d hj (h.sJ hi j hg d hq)
    ·rw [w0d hf] at hq;exact h.sF f d hq
   obtain ⟨r1,r2,r3,r4⟩:=z8f hi r (yn j.field (Zh n sp ks F A j) F) true hI (fun x hx=>hc x (w08 _ hx))
   refine ⟨r1,by omega,fun _=>Or.inr (by omega),fun e=>?_⟩
   have:=(r4 e).1;cases this
  ·rw [w0d hl];obtain ⟨r1,r2,r3,r4⟩:=z8f hi r F ch h (fun x hx=>hc x (w08 _ hx));refine ⟨r1,r2,r3,fun e=>?_⟩;obtain ⟨e1,e2,e3⟩:=r4 e;refine ⟨e1,e2,fun j' hj'=>?_⟩
   cases hj' with
   |head=>exact Decidable.not_not.1 hl
   |tail _ h=>exact e3 j' h
structure ClR (n:Nat) (sp:List ze) (js:List zo) (ks:List zA) (F:List (Str×Int)) (A:List Int):Prop where
 cg:∀g:Nat,g<n->y9 n F A g ks 0>0->zT (A.getD g 0) (IntKind.i64.wrap (y9 n F A g ks 0+1))=A.getD g 0
 cj:∀j,j∈js->zT ((Z1 j.field F).getD 0) (Zh n sp ks F A j)=(Z1 j.field F).getD 0
theorem z65 (hi:In n sp js ks):∀(m:Nat) (F:List (Str×Int)) (A:List Int),pot (vR F A) (fsR n js)<m->z0A n sp js ks F A->
  ∃fuel F1 A1,stops n sp js ks fuel F A/\z1v n sp js ks fuel F A=(F1,A1)/\z0A n sp js ks F1 A1/\ClR n sp js ks F1 A1/\A1.length=A.length
 |0,F,A,hm,_=>by omega
 |m+1,F,A,hm,h=>by
  obtain ⟨g1,g2,g3,g4⟩:=z5R hi n 0 A false h (by omega);obtain ⟨j1,j2,j3,j4⟩:=z8f hi js F (gR n F ks 0 n A false).2 g1 (fun _ h=>h)
  have hlen:∀(c i:Nat) (A:List Int) (ch:Bool),(gR n F ks i c A ch).1.length=A.length:=by
   intro c
   induction c with
   |zero=>intros;rfl
   |succ c ih=>
    intro i A ch;simp only [gR];split
    ·split
     ·rw [ih];simp
     ·rw [ih]
    ·rw [ih]
  by_cases hc:(ZM n sp js ks F A).2.2=true
  ·have hp:pot (vR (ZM n sp js ks F A).1 (ZM n sp js ks F A).2.1) (fsR n js)<pot (vR F A) (fsR n js):=by
    simp only [ZM] at hc⊢
    rcases j3 hc with e|e
    ·rcases g3 e with e|e
     ·cases e
     ·omega
    ·omega
   obtain ⟨fuel,F1,A1,r1,r2,r3,r4,r5⟩:=z65 hi m (ZM n sp js ks F A).1 (ZM n sp js ks F A).2.1 (by omega) j1;refine ⟨fuel+1,F1,A1,fun _=>r1,?_,r3,r4,?_⟩
   ·simp only [z1v];rw [w0c hc];exact r2
   ·rw [r5];exact hlen ..
  ·have hc':(jR n sp ks (gR n F ks 0 n A false).1 js F (gR n F ks 0 n A false).2).2=false:=by simpa [ZM] using hc
   obtain ⟨e1,e2,e3⟩:=j4 hc';obtain ⟨f1,f2,f3⟩:=g4 e1;refine ⟨1,F,A,fun e=>absurd e hc,?_,h,⟨fun g hg=>f3 g (Nat.zero_le _) hg,?_⟩,rfl⟩
   ·simp only [z1v];rw [w0d hc];simp only [ZM,f2] at e2⊢;rw [e2]
   ·rw [f2] at e3;exact e3
theorem zgr (hi:In n sp js ks) (h:z0A n sp js ks F A) (hc:ClR n sp js ks F A):Ans n sp js ks (fun g=>A.getD g 0) (zZ n F A) (Zh n sp ks F A):=by
 have hcomp:∀x d,Der n sp js ks x d->match x with
   | .a g=>∀g':Nat,g=g'->g'<n->Q (A.getD g' 0) d
   | .l f=>Q (zZ n F A f) d
   | .j j=>j∈js->Q (Zh n sp ks F A j) d:=by
  intro x d hD
  induction hD with
  |spot x hx=>
   intro g' e _;have:=h.ss x hx
   rwa [e,Int.toNat_natCast] at this
  |key k d hk hne hf ih=>
   intro g' e hg';obtain ⟨h1,h2⟩:=z5K (n:=n) (ks:=ks) h.bd.nn (g':Int);have hq:=(h2 d).2 ⟨k,hk,e,hne,ih⟩;have hkl:=z57 (n:=n) (ks:=ks) h.bd.nn (by omega) h.bd.lt g';have hw:IntKind.i64.wrap (y9 n F A g' ks 0+1)=y9 n F A g' ks 0+1:=wrap_small (by omega) (by omega);have hl:=hc.cg g' hg' (by have:=hq.1;omega);have a1:=hq.1;have a2:=hq.2;show Q (A.getD g' 0) (d+1);rw [←hl];refine (WR (h.bd.nn (.inl g')) (by rw [hw];omega)).2 (Or.inr ?_)
   rw [hw];exact ⟨by omega,by omega⟩
  |lj j d hj hD ih=>
   have hl:=hc.cj j hj;refine ((qm h.bd.nn j.field).2 d).2 (Or.inl ?_);rw [←hl];exact (WR (h.bd.nn (.inr j.field)) (Q1 hi h.bd.nn h.bd.lt j (hi.jg j hj).1).1).2 (Or.inr (ih hj))
  |lt g d hg hD ih=>exact ((qm h.bd.nn tyN).2 d).2 (Or.inr ⟨rfl,g,hg,ih g rfl hg⟩)
  |jx j x he hx hg hf=>
   intro hj;exact ((Q1 hi h.bd.nn h.bd.lt j (hi.jg j hj).1).2 _).2 (Or.inl ⟨he,x,hx,hg,hf,w1h _⟩)
  |j0 j d he hr hD ih=>
   intro hj;have:=hi.jg j hj;exact ((Q1 hi h.bd.nn h.bd.lt j (hi.jg j hj).1).2 _).2 (Or.inr (Or.inl ⟨he,hr,ih j.graph.toNat (by omega) (by omega)⟩))
  |jr j k d he hr hk hg hne hf hf' ih ih'=>
   intro hj;refine ((Q1 hi h.bd.nn h.bd.lt j (hi.jg j hj).1).2 _).2 (Or.inr (Or.inr ⟨he,hr,⟨k,hk,hg,hne,?_⟩,?_⟩))
   ·rw [show d+1 - 1=d by omega];exact ih
   ·rw [show d+1 - 1=d by omega];exact ih'
  |up x d e hD hle ih=>
   cases x with
   |a g=>exact fun g' e hg'=>(ih g' e hg').mono hle
   |l f=>exact Q.mono ih hle
   |j j=>exact fun hj=>(ih hj).mono hle
 exact ⟨fun g _=>h.bd.nn (.inl g),fun f=>(qm h.bd.nn f).1,fun j hj=>(Q1 hi h.bd.nn h.bd.lt j (hi.jg j hj).1).1,
  fun g hg d=>⟨h.sA g d,fun hD=>hcomp _ d hD g rfl hg⟩,fun f d=>⟨h.sL f d,fun hD=>hcomp _ d hD⟩,fun j hj d=>⟨h.sJ hi j (hi.jg j hj).1 d,fun hD=>hcomp _ d hD hj⟩⟩
end
def vT (D A:List Int):Nat ⊕ Nat->Int
 | .inl g=>A.getD g 0
 | .inr i=>D.getD i 0
theorem wm {A:List Int} {i:Nat} {x:Int} (hi:i<A.length) (g:Nat):(A.set i x).getD g 0=if g=i then x else A.getD g 0:=by
 simp only [w0e,w1i];by_cases h:i=g
 ·subst h;simp [hi]
 ·have:¬ g=i:=fun e=>h e.symm;simp [h,this]
theorem ze3 {D A:List Int} {i:Nat} {x:Int} (hi:i<A.length):vT D (A.set i x)=upd (vT D A) (.inl i) x:=by
 funext k
 cases k with
 |inl g=>simp only [vT,upd,wm hi,Sum.inl.injEq]
 |inr f=>simp [vT,upd]
theorem zdU {D A:List Int} {i:Nat} {x:Int} (hi:i<D.length):vT (D.set i x) A=upd (vT D A) (.inr i) x:=by
 funext k
 cases k with
 |inl g=>simp [vT,upd]
 |inr f=>simp only [vT,upd,wm hi,Sum.inr.injEq]
def fsT (n:Nat) (js:List zo):List (Nat ⊕ Nat):=(List.range n).map .inl++(List.range js.length).map .inr
section
variable {n:Nat} {sp:List ze} {js:List zo} {ks:List zA} {D A:List Int}
theorem z8O (hA:∀g,0<=A.getD g 0):∀(c i:Nat) (b:Int),0<=b->0<=z2l A i c b/\∀d,Q (z2l A i c b) d↔Q b d∨∃g,i<=g/\g<i+c/\Q (A.getD g 0) d
 |0,i,b,hb=>⟨hb,fun d=>by
  simp only [z2l]
  exact ⟨Or.inl,fun h=>h.elim id fun ⟨g,h1,h2,_⟩=>by omega⟩⟩
 |c+1,i,b,hb=>by
  obtain ⟨h1,h2⟩:=z8O hA c (i+1) (least b (A.getD i 0)) (WE hb (hA i));refine ⟨h1,fun d=>?_⟩;simp only [z2l];rw [h2 d,Qr hb (hA i)];constructor
  ·rintro ((h|h)|⟨g,g1,g2,g3⟩)
   ·exact Or.inl h
   ·exact Or.inr ⟨i,by omega,by omega,h⟩
   ·exact Or.inr ⟨g,by omega,by omega,g3⟩
  ·rintro (h|⟨g,g1,g2,g3⟩)
   ·exact Or.inl (Or.inl h)
   ·by_cases e:g=i
    ·subst e;exact Or.inl (Or.inr g3)
    ·exact Or.inr ⟨g,by omega,by omega,g3⟩
theorem z5s (hD:∀g,0<=D.getD g 0) (f:Str):∀(l:List zo) (i:Nat) (b:Int),0<=b->0<=z0x D f i l b/\∀d,Q (z0x D f i l b) d↔Q b d∨∃k j,l[k]?=some j/\j.field=f/\Q (D.getD (i+k) 0) d
 |[],i,b,hb=>⟨hb,fun d=>by simp [z0x]⟩
 |j::r,i,b,hb=>by
  simp only [z0x];by_cases hf:j.field=f
  ·rw [w0c hf];obtain ⟨h1,h2⟩:=z5s hD f r (i+1) (least b (D.getD i 0)) (WE hb (hD i));refine ⟨h1,fun d=>?_⟩;rw [h2 d,Qr hb (hD i)];constructor
   ·rintro ((h|h)|⟨k,j',g1,g2,g3⟩)
    ·exact Or.inl h
    ·exact Or.inr ⟨0,j,rfl,hf,h⟩
    ·exact Or.inr ⟨k+1,j',by simpa using g1,g2,by rwa [show i+(k+1)=i+1+k by omega]⟩
   ·rintro (h|⟨k,j',g1,g2,g3⟩)
    ·exact Or.inl (Or.inl h)
    ·cases k with
     |zero=>exact Or.inl (Or.inr g3)
     |succ k=>exact Or.inr ⟨k,j',by simpa using g1,g2,by rwa [show i+1+k=i+(k+1) by omega]⟩
  ·rw [w0d hf];obtain ⟨h1,h2⟩:=z5s hD f r (i+1) b hb;refine ⟨h1,fun d=>?_⟩;rw [h2 d];constructor
   ·rintro (h|⟨k,j',g1,g2,g3⟩)
    ·exact Or.inl h
    ·exact Or.inr ⟨k+1,j',by simpa using g1,g2,by rwa [show i+(k+1)=i+1+k by omega]⟩
   ·rintro (h|⟨k,j',g1,g2,g3⟩)
    ·exact Or.inl h
    ·cases k with
     |zero=>simp at g1;subst g1;exact absurd g2 hf
     |succ k=>exact Or.inr ⟨k,j',by simpa using g1,g2,by rwa [show i+1+k=i+(k+1) by omega]⟩
def LvT (n:Nat) (js:List zo) (D A:List Int) (f:Str) (d:Int):Prop:=
 if f=tyN then ∃g,g<n/\Q (A.getD g 0) d else ∃k j,js[k]?=some j/\j.field=f/\Q (D.getD k 0) d
theorem wu (hv:∀i,0<=vT D A i) (f:Str):0<=Zw n js D A f/\∀d,Q (Zw n js D A f) d↔LvT n js D A f d:=by
 simp only [Zw,LvT];by_cases h:f=tyN
 ·simp only [w0c h];obtain ⟨h1,h2⟩:=z8O (A:=A) (fun g=>hv (.inl g)) n 0 0 (w1h 0);refine ⟨h1,fun d=>?_⟩;rw [h2 d];constructor
  ·rintro (h|⟨g,_,g2,g3⟩)
   ·have:=h.1;omega
   ·exact ⟨g,by omega,g3⟩
  ·rintro ⟨g,g2,g3⟩
   exact Or.inr ⟨g,by omega,by omega,g3⟩
 ·simp only [w0d h];obtain ⟨h1,h2⟩:=z5s (D:=D) (fun g=>hv (.inr g)) f js 0 0 (w1h 0);refine ⟨h1,fun d=>?_⟩;rw [h2 d];simp only [w0t];constructor
  ·rintro (h|h)
   ·have:=h.1;omega
   ·exact h
  ·exact Or.inr
theorem z76 (hv:∀i,0<=vT D A i):∀(l:List Str) (m:Int),0<=m->0<=y5 n js D A l m/\∀d,Q (y5 n js D A l m) d↔(l=[]->1<=m)/\m<=d/\∀f,f∈l->Q (Zw n js D A f) d
 |[],m,hm=>⟨hm,fun d=>by simp [y5,Q]⟩
 |f::r,m,hm=>by
  obtain ⟨h1,h2⟩:=wu (n:=n) (js:=js) hv f;simp only [y5];by_cases h0:Zw n js D A f=0
  ·rw [w0c h0]
   refine ⟨by omega,fun d=>?_⟩
   constructor
   ·intro h;have:=h.1;omega
   ·rintro ⟨_,_,h⟩;have:=(h f (w0l ..)).1;omega
  ·rw [w0d h0]
   have hx:0<=(if Zw n js D A f>m then Zw n js D A f else m):=by split<;>omega
   obtain ⟨h3,h4⟩:=z76 hv r _ hx;refine ⟨h3,fun d=>?_⟩;rw [h4 d];constructor
   ·rintro ⟨a,b,c⟩
    refine ⟨fun e=>(by cases e),by split at b<;>omega,?_⟩
    intro f' hf'
    cases hf' with
    |head=>exact ⟨by omega,by split at b<;>omega⟩
    |tail _ h=>exact c f' h
   ·rintro ⟨a,b,c⟩;have h5:=c f (w0l ..);have:=h5.1;have:=h5.2
    refine ⟨fun _=>by split<;>omega,by split<;>omega,fun f' h=>c f' (w08 _ h)⟩
theorem z1c (hv:∀i,0<=vT D A i) (l:List Str):0<=y5 n js D A l 0/\∀d,Q (y5 n js D A l 0) d↔l≠[]/\∀f,f∈l->Q (Zw n js D A f) d:=by
 obtain ⟨h1,h2⟩:=z76 (n:=n) (js:=js) hv l 0 (w1h 0);refine ⟨h1,fun d=>?_⟩;rw [h2 d];constructor
 ·rintro ⟨a,b,c⟩
  exact ⟨fun e=>by have:=a e;omega,c⟩
 ·rintro ⟨a,c⟩;refine ⟨fun e=>absurd e a,?_,c⟩
  cases l with
  |nil=>exact absurd rfl a
  |cons f r=>have h:=c f (w0l ..);have:=h.1;have:=h.2;omega
theorem z7W (hv:∀i,0<=vT D A i) (g:Int):∀(l:List zA) (b:Int),0<=b->0<=wy n js D A g l b/\∀d,Q (wy n js D A g l b) d↔Q b d∨∃k,k∈l/\k.graph=g/\k.fields≠[]/\∀f,f∈k.fields->Q (Zw n js D A f) d
 |[],b,hb=>⟨hb,fun d=>by simp [wy]⟩
 |k::r,b,hb=>by
  obtain ⟨h1,h2⟩:=z1c (n:=n) (js:=js) hv k.fields;simp only [wy];by_cases hg:k.graph=g
  ·rw [w0c hg];obtain ⟨h3,h4⟩:=z7W hv g r (least b (y5 n js D A k.fields 0)) (WE hb h1);refine ⟨h3,fun d=>?_⟩;rw [h4 d,Qr hb h1,h2 d];constructor
   ·rintro ((h|h)|⟨k',a,b,c⟩)
    ·exact Or.inl h
    ·exact Or.inr ⟨k,w0l ..,hg,h⟩
    ·exact Or.inr ⟨k',w08 _ a,b,c⟩
   ·rintro (h|⟨k',a,b,c⟩)
    ·exact Or.inl (Or.inl h)
    ·cases a with
     |head=>exact Or.inl (Or.inr c)
     |tail _ a=>exact Or.inr ⟨k',a,b,c⟩
  ·rw [w0d hg];obtain ⟨h3,h4⟩:=z7W hv g r b hb;refine ⟨h3,fun d=>?_⟩;rw [h4 d];constructor
   ·rintro (h|⟨k',a,b,c⟩)
    ·exact Or.inl h
    ·exact Or.inr ⟨k',w08 _ a,b,c⟩
   ·rintro (h|⟨k',a,b,c⟩)
    ·exact Or.inl h
    ·cases a with
     |head=>exact absurd b hg
     |tail _ a=>exact Or.inr ⟨k',a,b,c⟩
theorem z5n (hv:∀i,0<=vT D A i) (g:Int):0<=wy n js D A g ks 0/\∀d,Q (wy n js D A g ks 0) d↔∃k,k∈ks/\k.graph=g/\k.fields≠[]/\∀f,f∈k.fields->Q (Zw n js D A f) d:=by
 obtain ⟨h1,h2⟩:=z7W (n:=n) (js:=js) hv g ks 0 (w1h 0);refine ⟨h1,fun d=>?_⟩;rw [h2 d]
 exact ⟨fun h=>h.elim (fun h=>by have:=h.1;omega) id,Or.inr⟩
theorem z5B (j:zo):∀(l:List ze) (b:Int),0<=b->(∀x,x∈l->1<=x.depth)->0<=z0n j l b/\∀d,Q (z0n j l b) d↔Q b d∨∃x,x∈l/\x.graph=j.graph/\j.field∈x.Zk/\x.depth<=d
 |[],b,hb,_=>⟨hb,fun d=>by simp [z0n]⟩
 |x::r,b,hb,hx=>by
  have h1:=hx x (w0l ..);simp only [z0n];by_cases hg:(x.graph==j.graph&&decide (j.field∈x.Zk))=true
  ·rw [w0c hg];obtain ⟨h3,h4⟩:=z5B j r (least b x.depth) (WE hb (by omega)) (fun y hy=>hx y (w08 _ hy));refine ⟨h3,fun d=>?_⟩
   have hg':x.graph=j.graph/\j.field∈x.Zk:=by simpa using hg
   rw [h4 d,Qr hb (by omega)];constructor
   ·rintro ((h|h)|⟨k',a,b,c⟩)
    ·exact Or.inl h
    ·exact Or.inr ⟨x,w0l ..,hg'.1,hg'.2,h.2⟩
    ·exact Or.inr ⟨k',w08 _ a,b,c⟩
   ·rintro (h|⟨k',a,b,c,e⟩)
    ·exact Or.inl (Or.inl h)
    ·cases a with
     |head=>exact Or.inl (Or.inr ⟨h1,e⟩)
     |tail _ a=>exact Or.inr ⟨k',a,b,c,e⟩
  ·rw [w0d hg];obtain ⟨h3,h4⟩:=z5B j r b hb (fun y hy=>hx y (w08 _ hy));refine ⟨h3,fun d=>?_⟩;rw [h4 d];constructor
   ·rintro (h|⟨k',a,b,c⟩)
    ·exact Or.inl h
    ·exact Or.inr ⟨k',w08 _ a,b,c⟩
   ·rintro (h|⟨k',a,b,c,e⟩)
    ·exact Or.inl h
    ·cases a with
     |head=>exact absurd (by simp [b,c]) hg
     |tail _ a=>exact Or.inr ⟨k',a,b,c,e⟩
theorem z59 (g:Int):∀(l:List ze) (b:Int),0<=b->(∀x,x∈l->1<=x.depth)->0<=WA g l b/\∀d,Q (WA g l b) d↔Q b d∨∃x,x∈l/\x.graph=g/\x.depth<=d
 |[],b,hb,_=>⟨hb,fun d=>by simp [WA]⟩
 |x::r,b,hb,hx=>by
  have h1:=hx x (w0l ..);simp only [WA];by_cases hg:x.graph=g
  ·rw [w0c hg];obtain ⟨h3,h4⟩:=z59 g r (least b x.depth) (WE hb (by omega)) (fun y hy=>hx y (w08 _ hy));refine ⟨h3,fun d=>?_⟩;rw [h4 d,Qr hb (by omega)];constructor
   ·rintro ((h|h)|⟨k',a,b,c⟩)
    ·exact Or.inl h
    ·exact Or.inr ⟨x,w0l ..,hg,h.2⟩
    ·exact Or.inr ⟨k',w08 _ a,b,c⟩
   ·rintro (h|⟨k',a,b,c⟩)
    ·exact Or.inl (Or.inl h)
    ·cases a with
     |head=>exact Or.inl (Or.inr ⟨h1,c⟩)
     |tail _ a=>exact Or.inr ⟨k',a,b,c⟩
  ·rw [w0d hg];obtain ⟨h3,h4⟩:=z59 g r b hb (fun y hy=>hx y (w08 _ hy));refine ⟨h3,fun d=>?_⟩;rw [h4 d];constructor
   ·rintro (h|⟨k',a,b,c⟩)
    ·exact Or.inl h
    ·exact Or.inr ⟨k',w08 _ a,b,c⟩
   ·rintro (h|⟨k',a,b,c⟩)
    ·exact Or.inl h
    ·cases a with
     |head=>exact absurd b hg
     |tail _ a=>exact Or.inr ⟨k',a,b,c⟩
theorem LvT.le {B:Int} (hB:∀i,vT D A i<=B) {f:Str} {d:Int} (h:LvT n js D A f d):LvT n js D A f B:=by
 simp only [LvT] at h⊢;split at h
 ·rw [w0c ‹_›];obtain ⟨g,a,b⟩:=h;exact ⟨g,a,b.1,hB (.inl g)⟩
 ·rw [w0d ‹_›];obtain ⟨g,j,a,c,b⟩:=h;exact ⟨g,j,a,c,b.1,hB (.inr g)⟩
theorem z3X {B:Int} (hv:∀i,0<=vT D A i) (hB:∀i,vT D A i<=B) (f:Str) (d:Int) (hq:Q (Zw n js D A f) d):Q (Zw n js D A f) B:=
 ((wu hv f).2 B).2 (LvT.le hB (((wu hv f).2 d).1 hq))
theorem z8N {B:Int} (hv:∀i,0<=vT D A i) (h0:0<=B) (hB:∀i,vT D A i<=B) (g:Int):wy n js D A g ks 0<=B:=by
 by_cases h:wy n js D A g ks 0=0
 ·omega
 ·obtain ⟨h1,h2⟩:=z5n (n:=n) (js:=js) (ks:=ks) hv g
  obtain ⟨k,a,b,c,e⟩:=(h2 (wy n js D A g ks 0)).1 ⟨by omega,by omega⟩
  exact ((h2 B).2 ⟨k,a,b,c,fun f hf=>z3X hv hB f _ (e f hf)⟩).2
theorem z9P {B:Int} (hv:∀i,0<=vT D A i) (h0:0<=B) (hB:∀i,vT D A i<=B) (l:List Str):y5 n js D A l 0<=B:=by
 by_cases h:y5 n js D A l 0=0
 ·omega
 ·obtain ⟨h1,h2⟩:=z1c (n:=n) (js:=js) hv l
  obtain ⟨a,e⟩:=(h2 (y5 n js D A l 0)).1 ⟨by omega,by omega⟩
  exact ((h2 B).2 ⟨a,fun f hf=>z3X hv hB f _ (e f hf)⟩).2
def GrT (n:Nat) (js:List zo) (ks:List zA) (sp:List ze) (D A:List Int) (g:Int) (d:Int):Prop:=
 (∃x,x∈sp/\x.graph=g/\x.depth<=d)∨∃k,k∈ks/\k.graph=g/\k.fields≠[]/\∀f,f∈k.fields->LvT n js D A f (d - 1)
theorem z0M (hi:In n sp js ks) (hv:∀i,0<=vT D A i) (hB:∀i,vT D A i<=1099512627776) (g:Int):0<=ZT n js ks sp D A g/\∀d,Q (ZT n js ks sp D A g) d↔GrT n js ks sp D A g d:=by
 obtain ⟨h1,h2⟩:=z59 g sp 0 (w1h 0) (fun x hx=>(hi.sg x hx).2.2.1);obtain ⟨h3,h4⟩:=z5n (n:=n) (js:=js) (ks:=ks) hv g;have h5:=z8N (n:=n) (js:=js) (ks:=ks) hv (by omega) hB g
 have h6:∀d,Q (wy n js D A g ks 0) d↔∃k,k∈ks/\k.graph=g/\k.fields≠[]/\∀f,f∈k.fields->LvT n js D A f d:=by
  intro d;rw [h4 d];simp only [(wu hv _).2 d]
 have h7:∀d,Q (WA g sp 0) d↔∃x,x∈sp/\x.graph=g/\x.depth<=d:=by
  intro d;rw [h2 d]
  exact ⟨fun h=>h.elim (fun h=>by have:=h.1;omega) id,Or.inr⟩
 simp only [ZT,GrT];by_cases hk:wy n js D A g ks 0>0
 ·rw [w0c hk,wrap_small (by omega) (by omega)];refine ⟨WE h1 (by omega),fun d=>?_⟩;rw [Qr h1 (by omega),h7 d,←h6 (d - 1)];refine or_congr Iff.rfl ?_;simp only [Q];omega
 ·rw [w0d hk];refine ⟨h1,fun d=>?_⟩;rw [h7 d,←h6 (d - 1)];refine ⟨Or.inl,fun h=>h.elim id fun h=>?_⟩;have:=h.1;omega
def JnT (n:Nat) (js:List zo) (ks:List zA) (sp:List ze) (D A:List Int) (j:zo) (d:Int):Prop:=
 (j.ext=true/\∃x,x∈sp/\x.graph=j.graph/\j.field∈x.Zk/\x.depth<=d)∨
 (j.ext=false/\j.req=[]/\GrT n js ks sp D A j.graph d)∨
 (j.ext=false/\j.req≠[]/\(∃k,k∈ks/\k.graph=j.graph/\k.fields≠[]/\∀f,f∈k.fields->LvT n js D A f (d - 1))/\∀f,f∈j.req->LvT n js D A f (d - 1))
theorem z5Z (hi:In n sp js ks) (hv:∀i,0<=vT D A i) (hB:∀i,vT D A i<=1099512627776) (j:zo):0<=yt n js ks sp D A j/\∀d,Q (yt n js ks sp D A j) d↔JnT n js ks sp D A j d:=by
 simp only [yt,JnT];by_cases he:j.ext=true
 ·rw [w0c he];obtain ⟨h1,h2⟩:=z5B j sp 0 (w1h 0) (fun x hx=>(hi.sg x hx).2.2.1);refine ⟨h1,fun d=>?_⟩;rw [h2 d];simp only [he,true_and];constructor
  ·rintro (h|h)
   ·have:=h.1;omega
   ·exact Or.inl h
  ·rintro (h|h|h)
   ·exact Or.inr h
   ·exact absurd h.1 (by simp)
   ·exact absurd h.1 (by simp)
 ·rw [w0d he]
  have he':j.ext=false:=by simpa using he
  by_cases hr:j.req.length=0
  ·rw [w0c hr];have hr':j.req=[]:=w0q.1 hr;obtain ⟨h1,h2⟩:=z0M hi hv hB j.graph;refine ⟨h1,fun d=>?_⟩;rw [h2 d];simp [he',hr']
  ·rw [w0d hr];have hr':j.req≠[]:=fun e=>hr (by rw [e];rfl);obtain ⟨h1,h2⟩:=z5n (n:=n) (js:=js) (ks:=ks) hv j.graph;obtain ⟨h3,h4⟩:=z1c (n:=n) (js:=js) hv j.req;have h5:=z8N (n:=n) (js:=js) (ks:=ks) hv (by omega) hB j.graph;have h6:=z9P (n:=n) (js:=js) hv (by omega) hB j.req;simp only [(wu hv _).2 _] at h2 h4;by_cases hz:(wy n js D A j.graph ks 0==0||y5 n js D A j.req 0==0)=true
   ·rw [w0c hz];refine ⟨w1h 0,fun d=>?_⟩;constructor
    ·intro h;have:=h.1;omega
    ·rintro (h|h|⟨_,_,h7,h8⟩)
     ·exact absurd h.1 he
     ·exact absurd h.2.1 hr'
     ·have a:=((h2 (d - 1)).2 h7).1;have b:=((h4 (d - 1)).2 ⟨hr',h8⟩).1;simp at hz;omega
   ·rw [w0d hz];simp at hz
    rw [wrap_small (by split<;>omega) (by split<;>omega)]
    refine ⟨by split<;>omega,fun d=>?_⟩
    constructor
    ·intro h
     refine Or.inr (Or.inr ⟨he',hr',(h2 (d - 1)).1 ⟨by omega,?_⟩,((h4 (d - 1)).1 ⟨by omega,?_⟩).2⟩)
     ·have:=h.2;split at this<;>omega
     ·have:=h.2;split at this<;>omega
    ·rintro (h|h|⟨_,_,h7,h8⟩)
     ·exact absurd h.1 he
     ·exact absurd h.2.1 hr'
     ·have a:=((h2 (d - 1)).2 h7).2;have b:=((h4 (d - 1)).2 ⟨hr',h8⟩).2
      exact ⟨by split<;>omega,by split<;>omega⟩
def Dn (a b:List Int):Prop:=∀i d,Q (a.getD i 0) d->Q (b.getD i 0) d
theorem Dn.refl (a:List Int):Dn a a:=fun _ _ h=>h
theorem LvT.mono {D' A':List Int} (hD:Dn D D') (hA:Dn A A') {f:Str} {d e:Int} (he:d<=e) (h:LvT n js D A f d):LvT n js D' A' f e:=by
 simp only [LvT] at h⊢;split at h
 ·rw [w0c ‹_›];obtain ⟨g,a,b⟩:=h;exact ⟨g,a,(hA _ _ b).mono he⟩
 ·rw [w0d ‹_›];obtain ⟨g,j,a,c,b⟩:=h;exact ⟨g,j,a,c,(hD _ _ b).mono he⟩
theorem GrT.mono {D' A':List Int} (hD:Dn D D') (hA:Dn A A') {g:Int} {d e:Int} (he:d<=e) (h:GrT n js ks sp D A g d):GrT n js ks sp D' A' g e:=by
 rcases h with ⟨x,a,b,c⟩|⟨k,a,b,c,f⟩
 ·exact Or.inl ⟨x,a,b,by omega⟩
 ·exact Or.inr ⟨k,a,b,c,fun x hx=>(f x hx).mono hD hA (by omega)⟩
theorem JnT.mono {D' A':List Int} (hD:Dn D D') (hA:Dn A A') {j:zo} {d e:Int} (he:d<=e) (h:JnT n js ks sp D A j d):JnT n js ks sp D' A' j e:=by
 rcases h with ⟨a,x,b,c,f,g⟩|⟨a,b,c⟩|⟨a,b,⟨k,c,f,g,h⟩,h'⟩
 ·exact Or.inl ⟨a,x,b,c,f,by omega⟩
 ·exact Or.inr (Or.inl ⟨a,b,c.mono hD hA he⟩)
 ·exact Or.inr (Or.inr ⟨a,b,⟨k,c,f,g,fun x hx=>(h x hx).mono hD hA (by omega)⟩,fun x hx=>(h' x hx).mono hD hA (by omega)⟩)
theorem Dn.set {a:List Int} {i:Nat} {x:Int} (hi:i<a.length) (h:∀d,Q (a.getD i 0) d->Q x d):Dn a (a.set i x):=by
 intro k d hq;rw [wm hi];by_cases e:k=i
 ·rw [w0c e];rw [e] at hq;exact h d hq
 ·rw [w0d e];exact hq
structure WN (n:Nat) (sp:List ze) (js:List zo) (ks:List zA) (D A:List Int):Prop where
 bd:Bd (fsT n js) (vT D A)
 ld:D.length=js.length
 la:A.length=n
 sA:∀(g:Nat) d,Q (A.getD g 0) d->Der n sp js ks (.a g) d
 sD:∀i j,js[i]?=some j->∀d,Q (D.getD i 0) d->Der n sp js ks (.j j) d
 dA:∀(g:Nat) d,Q (A.getD g 0) d->GrT n js ks sp D A g d
 dD:∀i j,js[i]?=some j->∀d,Q (D.getD i 0) d->JnT n js ks sp D A j d
theorem WN.sL (h:WN n sp js ks D A) (f:Str) (d:Int) (hq:LvT n js D A f d):Der n sp js ks (.l f) d:=by
 simp only [LvT] at hq;split at hq
 ·next e=>obtain ⟨g,a,b⟩:=hq;rw [e];exact .lt g d a (h.sA g d b)
 ·obtain ⟨g,j,a,c,b⟩:=hq;rw [←c];exact .lj j d (zMG a) (h.sD g j a d b)
theorem WN.sG (h:WN n sp js ks D A) (g:Int) (d:Int) (hq:GrT n js ks sp D A g d):Der n sp js ks (.a g) d:=by
 rcases hq with ⟨x,a,b,c⟩|⟨k,a,b,c,f⟩
 ·rw [←b];exact .up _ _ _ (.spot x a) c
 ·have:=Der.key (n:=n) (sp:=sp) (js:=js) k (d - 1) a c (fun x hx=>h.sL x _ (f x hx))
  rwa [show d - 1+1=d by omega,b] at this
theorem WN.sJ (h:WN n sp js ks D A) (j:zo) (d:Int) (hq:JnT n js ks sp D A j d):Der n sp js ks (.j j) d:=by
 rcases hq with ⟨a,x,b,c,e,f⟩|⟨a,b,c⟩|⟨a,b,⟨k,c,e,f,g⟩,g'⟩
 ·exact .up _ _ _ (.jx j x a b c e) f
 ·exact .j0 j d a b (h.sG _ _ c)
 ·have:=Der.jr (n:=n) (sp:=sp) (js:=js) (ks:=ks) j k (d - 1) a b c e f (fun x hx=>h.sL x _ (g x hx)) (fun x hx=>h.sL x _ (g' x hx))
  rwa [show d - 1+1=d by omega] at this
theorem zd6 (hi:In n sp js ks) (hv:∀i,0<=vT D A i) {B:Int} (h0:1099511627776<=B) (hB:∀i,vT D A i<=B) (hB2:∀i,vT D A i<=1099512627776) (g:Int):ZT n js ks sp D A g<=B+1:=by
 obtain ⟨h1,h2⟩:=z0M hi hv hB2 g;by_cases h:ZT n js ks sp D A g=0
 ·omega
 ·refine ((h2 (B+1)).2 ?_).2
  rcases (h2 (ZT n js ks sp D A g)).1 ⟨by omega,by omega⟩ with ⟨x,a,b,c⟩|⟨k,a,b,c,f⟩
  ·exact Or.inl ⟨x,a,b,by have:=(hi.sg x a).2.2.2;omega⟩
  ·exact Or.inr ⟨k,a,b,c,fun x hx=>(LvT.le hB (f x hx)).mono (Dn.refl _) (Dn.refl _) (by omega)⟩
theorem zec (hi:In n sp js ks) (hv:∀i,0<=vT D A i) {B:Int} (h0:1099511627776<=B) (hB:∀i,vT D A i<=B) (hB2:∀i,vT D A i<=1099512627776) (j:zo):yt n js ks sp D A j<=B+1:=by
 obtain ⟨h1,h2⟩:=z5Z hi hv hB2 j;by_cases h:yt n js ks sp D A j=0
 ·omega
 ·refine ((h2 (B+1)).2 ?_).2
  rcases (h2 (yt n js ks sp D A j)).1 ⟨by omega,by omega⟩ with ⟨a,x,b,c,d,e⟩|⟨a,b,c⟩|⟨a,b,⟨k,c,d,e,f⟩,g⟩
  ·exact Or.inl ⟨a,x,b,c,d,by have:=(hi.sg x b).2.2.2;omega⟩
  ·refine Or.inr (Or.inl ⟨a,b,?_⟩)
   rcases c with ⟨x,a,b,c⟩|⟨k,a,b,c,f⟩
   ·exact Or.inl ⟨x,a,b,by have:=(hi.sg x a).2.2.2;omega⟩
   ·exact Or.inr ⟨k,a,b,c,fun x hx=>(LvT.le hB (f x hx)).mono (Dn.refl _) (Dn.refl _) (by omega)⟩
  ·refine Or.inr (Or.inr ⟨a,b,⟨k,c,d,e,fun x hx=>?_⟩,fun x hx=>?_⟩)
   ·exact (LvT.le hB (f x hx)).mono (Dn.refl _) (Dn.refl _) (by omega)
   ·exact (LvT.le hB (g x hx)).mono (Dn.refl _) (Dn.refl _) (by omega)
theorem WN.zh0 (hi:In n sp js ks) (h:WN n sp js ks D A) {i:Nat} {j:zo} (hj:js[i]?=some j) (hne:yt n js ks sp D A j≠D.getD i 0):
  WN n sp js ks (D.set i (yt n js ks sp D A j)) A/\pot (vT (D.set i (yt n js ks sp D A j)) A) (fsT n js)<pot (vT D A) (fsT n js):=by
 have hiL:i<js.length:=by
  rcases w1b i js.length with h|h
  ·exact h
  ·rw [w12 h] at hj;cases hj
 have hiD:i<D.length:=by rw [h.ld];exact hiL
 obtain ⟨h1,h2⟩:=z5Z hi h.bd.nn h.bd.lt j;have hB:=zec hi h.bd.nn (by omega) h.bd.le h.bd.lt j;have hnn:0<=D.getD i 0:=h.bd.nn (.inr i)
 have hc:D.getD i 0=0∨(0<yt n js ks sp D A j/\yt n js ks sp D A j<D.getD i 0):=by
  by_cases e:D.getD i 0=0
  ·exact Or.inl e
  ·have:=(h2 _).2 (h.dD i j hj (D.getD i 0) ⟨by omega,by omega⟩);have a:=this.1;have b:=this.2
   exact Or.inr ⟨by omega,by omega⟩
 have hdn:Dn D (D.set i (yt n js ks sp D A j)):=Dn.set hiD fun d hq=>(h2 d).2 (h.dD i j hj d hq);obtain ⟨b1,b2⟩:=h.bd.step (i:= .inr i) (x:=yt n js ks sp D A j) (by simp [fsT];exact hiL) (by omega) (by simp only [vT];omega) (by omega);rw [←zdU hiD] at b1 b2
 refine ⟨⟨b1,by rw [List.length_set];exact h.ld,h.la,h.sA,fun k y hk d hq=>?_,fun g d hq=>(h.dA g d hq).mono hdn (Dn.refl _) (w1h _),fun k y hk d hq=>?_⟩,b2⟩
 ·rw [wm hiD] at hq;by_cases e:k=i
  ·rw [w0c e] at hq;rw [e,hj] at hk;cases hk;exact h.sJ j d ((h2 d).1 hq)
  ·rw [w0d e] at hq;exact h.sD k y hk d hq
 ·rw [wm hiD] at hq;by_cases e:k=i
  ·rw [w0c e] at hq;rw [e,hj] at hk;cases hk;exact ((h2 d).1 hq).mono hdn (Dn.refl _) (w1h _)
  ·rw [w0d e] at hq;exact (h.dD k y hk d hq).mono hdn (Dn.refl _) (w1h _)
theorem WN.zh6 (hi:In n sp js ks) (h:WN n sp js ks D A) {i:Nat} (hin:i<n) (hne:ZT n js ks sp D A i≠A.getD i 0):
  WN n sp js ks D (A.set i (ZT n js ks sp D A i))/\pot (vT D (A.set i (ZT n js ks sp D A i))) (fsT n js)<pot (vT D A) (fsT n js):=by
 have hiA:i<A.length:=by rw [h.la];exact hin
 obtain ⟨h1,h2⟩:=z0M hi h.bd.nn h.bd.lt (i:Int);have hB:=zd6 hi h.bd.nn (by omega) h.bd.le h.bd.lt (i:Int);have hnn:0<=A.getD i 0:=h.bd.nn (.inl i)
 have hc:A.getD i 0=0∨(0<ZT n js ks sp D A i/\ZT n js ks sp D A i<A.getD i 0):=by
  by_cases e:A.getD i 0=0
  ·exact Or.inl e
  ·have:=(h2 _).2 (h.dA i (A.getD i 0) ⟨by omega,by omega⟩);have a:=this.1;have b:=this.2
   exact Or.inr ⟨by omega,by omega⟩
 have hdn:Dn A (A.set i (ZT n js ks sp D A i)):=Dn.set hiA fun d hq=>(h2 d).2 (h.dA i d hq);obtain ⟨b1,b2⟩:=h.bd.step (i:= .inl i) (x:=ZT n js ks sp D A i) (by simp [fsT];exact hin) (by omega) (by simp only [vT];omega) (by omega);rw [←ze3 hiA] at b1 b2
 refine ⟨⟨b1,h.ld,by rw [List.length_set];exact h.la,fun g d hq=>?_,h.sD,fun g d hq=>?_,fun k y hk d hq=>(h.dD k y hk d hq).mono (Dn.refl _) hdn (w1h _)⟩,b2⟩
 ·rw [wm hiA] at hq;by_cases e:g=i
  ·rw [w0c e] at hq;rw [e];exact h.sG i d ((h2 d).1 hq)
  ·rw [w0d e] at hq;exact h.sA g d hq
 ·rw [wm hiA] at hq;by_cases e:g=i
  ·rw [w0c e] at hq;rw [e];exact ((h2 d).1 hq).mono (Dn.refl _) hdn (w1h _)
  ·rw [w0d e] at hq;exact (h.dA g d hq).mono (Dn.refl _) hdn (w1h _)
theorem z8i (hi:In n sp js ks):∀(l:List zo) (i:Nat) (D:List Int) (ch:Bool),WN n sp js ks D A->(∀k j,l[k]?=some j->js[i+k]?=some j)->
  WN n sp js ks (dR n js ks sp A i l D ch).1 A/\pot (vT (dR n js ks sp A i l D ch).1 A) (fsT n js)<=pot (vT D A) (fsT n js)/\
  ((dR n js ks sp A i l D ch).2=true->ch=true∨pot (vT (dR n js ks sp A i l D ch).1 A) (fsT n js)<pot (vT D A) (fsT n js))/\
  ((dR n js ks sp A i l D ch).2=false->ch=false/\(dR n js ks sp A i l D ch).1=D/\∀k j,l[k]?=some j->yt n js ks sp D A j=D.getD (i+k) 0)
 |[],i,D,ch,h,hc=>by
  simp only [dR]
  exact ⟨h,w07 _,Or.inl,fun e=>⟨e,trivial,fun k j hj=>by simp at hj⟩⟩
 |j::r,i,D,ch,h,hc=>by
  have hj:js[i]?=some j:=hc 0 j rfl
  have hr:∀k j,r[k]?=some j->js[i+1+k]?=some j:=fun k y hk=>by
   rw [show i+1+k=i+(k+1) by omega];exact hc (k+1) y (by simpa using hk)
  simp only [dR];by_cases hl:yt n js ks sp D A j≠D.getD i 0
  ·rw [w0c hl];obtain ⟨hI,hp⟩:=h.zh0 hi hj hl;obtain ⟨r1,r2,r3,r4⟩:=z8i hi r (i+1) _ true hI hr
   refine ⟨r1,by omega,fun _=>Or.inr (by omega),fun e=>?_⟩
   have:=(r4 e).1;cases this
  ·rw [w0d hl];obtain ⟨r1,r2,r3,r4⟩:=z8i hi r (i+1) D ch h hr;refine ⟨r1,r2,r3,fun e=>?_⟩;obtain ⟨e1,e2,e3⟩:=r4 e;refine ⟨e1,e2,fun k y hk=>?_⟩
   cases k with
   |zero=>simp at hk;subst hk;exact Decidable.not_not.1 hl
   |succ k=>rw [show i+(k+1)=i+1+k by omega];exact e3 k y (by simpa using hk)
theorem z8r (hi:In n sp js ks):∀(c i:Nat) (A:List Int) (ch:Bool),WN n sp js ks D A->i+c=n->
  WN n sp js ks D (aR n js ks sp D i c A ch).1/\pot (vT D (aR n js ks sp D i c A ch).1) (fsT n js)<=pot (vT D A) (fsT n js)/\
  ((aR n js ks sp D i c A ch).2=true->ch=true∨pot (vT D (aR n js ks sp D i c A ch).1) (fsT n js)<pot (vT D A) (fsT n js))/\
  ((aR n js ks sp D i c A ch).2=false->ch=false/\(aR n js ks sp D i c A ch).1=A/\∀g:Nat,i<=g->g<n->ZT n js ks sp D A g=A.getD g 0)
 |0,i,A,ch,h,hc=>by
  simp only [aR]
  exact ⟨h,w07 _,Or.inl,fun e=>⟨e,trivial,fun g g1 g2=>by omega⟩⟩
 |c+1,i,A,ch,h,hc=>by
  simp only [aR];by_cases hl:ZT n js ks sp D A i≠A.getD i 0
  ·rw [w0c hl];obtain ⟨hI,hp⟩:=h.zh6 hi (by omega) hl;obtain ⟨r1,r2,r3,r4⟩:=z8r hi c (i+1) _ true hI (by omega)
   refine ⟨r1,by omega,fun _=>Or.inr (by omega),fun e=>?_⟩
   have:=(r4 e).1;cases this
  ·rw [w0d hl];obtain ⟨r1,r2,r3,r4⟩:=z8r hi c (i+1) A ch h (by omega);refine ⟨r1,r2,r3,fun e=>?_⟩;obtain ⟨e1,e2,e3⟩:=r4 e;refine ⟨e1,e2,fun g g1 g2=>?_⟩;by_cases hg:g=i
   ·subst hg;exact Decidable.not_not.1 hl
   ·exact e3 g (by omega) g2
structure ClT (n:Nat) (sp:List ze) (js:List zo) (ks:List zA) (D A:List Int):Prop where
 cd:∀i j,js[i]?=some j->yt n js ks sp D A j=D.getD i 0
 ca:∀g:Nat,g<n->ZT n js ks sp D A g=A.getD g 0
theorem z40 (hi:In n sp js ks):∀(m:Nat) (D A:List Int),pot (vT D A) (fsT n js)<m->WN n sp js ks D A->
  ∃fuel D1 A1,z2S n js ks sp fuel D A/\z2i n js ks sp fuel D A=(D1,A1)/\WN n sp js ks D1 A1/\ClT n sp js ks D1 A1
 |0,D,A,hm,_=>by omega
 |m+1,D,A,hm,h=>by
  obtain ⟨g1,g2,g3,g4⟩:=z8i hi js 0 D false h (fun k j hk=>by rw [w0t];exact hk)
  obtain ⟨j1,j2,j3,j4⟩:=z8r hi n 0 A (dR n js ks sp A 0 js D false).2 g1 (by omega);by_cases hc:(yR n js ks sp D A).2.2=true
  ·have hp:pot (vT (yR n js ks sp D A).1 (yR n js ks sp D A).2.1) (fsT n js)<pot (vT D A) (fsT n js):=by
    simp only [yR] at hc⊢
    rcases j3 hc with e|e
    ·rcases g3 e with e|e
     ·cases e
     ·omega
    ·omega
   obtain ⟨fuel,F1,A1,r1,r2,r3,r4⟩:=z40 hi m (yR n js ks sp D A).1 (yR n js ks sp D A).2.1 (by omega) j1;refine ⟨fuel+1,F1,A1,fun _=>r1,?_,r3,r4⟩;simp only [z2i];rw [w0c hc];exact r2
  ·have hc':(aR n js ks sp (dR n js ks sp A 0 js D false).1 0 n A (dR n js ks sp A 0 js D false).2).2=false:=by simpa [yR] using hc
   obtain ⟨e1,e2,e3⟩:=j4 hc';obtain ⟨f1,f2,f3⟩:=g4 e1;refine ⟨1,D,A,fun e=>absurd e hc,?_,h,⟨fun i j hj=>?_,fun g hg=>?_⟩⟩
   ·simp only [z2i];rw [w0d hc];simp only [yR,f2] at e2⊢;rw [e2]
   ·have:=f3 i j hj;rwa [w0t] at this
   ·rw [f2] at e3;exact e3 g (Nat.zero_le _) hg
theorem zgu (hi:In n sp js ks) (h:WN n sp js ks D A) (hc:ClT n sp js ks D A) (i0:zo->Nat) (h0:∀j,j∈js->js[i0 j]?=some j):Ans n sp js ks (fun g=>A.getD g 0) (Zw n js D A) (fun j=>D.getD (i0 j) 0):=by
 have hG:∀(g:Nat),g<n->∀d,Q (A.getD g 0) d↔GrT n js ks sp D A g d:=fun g hg d=>by
  rw [←hc.ca g hg];exact (z0M hi h.bd.nn h.bd.lt (g:Int)).2 d
 have hJ:∀i j,js[i]?=some j->∀d,Q (D.getD i 0) d↔JnT n js ks sp D A j d:=fun i j hj d=>by
  rw [←hc.cd i j hj];exact (z5Z hi h.bd.nn h.bd.lt j).2 d
 have hcomp:∀x d,Der n sp js ks x d->match x with
   | .a g=>∀g':Nat,g=g'->g'<n->GrT n js ks sp D A g d
   | .l f=>LvT n js D A f d
   | .j j=>j∈js->JnT n js ks sp D A j d:=by
  intro x d hD
  induction hD with
  |spot x hx=>exact fun _ _ _=>Or.inl ⟨x,hx,rfl,w1h _⟩
  |key k d hk hne hf ih=>
   intro _ _ _;refine Or.inr ⟨k,hk,rfl,hne,?_⟩
   rw [show d+1 - 1=d by omega];exact ih
  |lj j d hj hD ih=>
   have hJ':=ih hj;simp only [LvT];split
   ·have hg:=hi.jg j hj
    refine ⟨j.graph.toNat,by omega,(hG _ (by omega) d).2 ?_⟩
    rw [Int.toNat_of_nonneg hg.1]
    rcases hJ' with ⟨a,x,b,c,e,f⟩|⟨a,b,c⟩|⟨a,b,⟨k,c,e,f,g⟩,g'⟩
    ·exact Or.inl ⟨x,b,c,f⟩
    ·exact c
    ·exact Or.inr ⟨k,c,e,f,g⟩
   ·exact ⟨i0 j,j,h0 j hj,rfl,(hJ _ j (h0 j hj) d).2 hJ'⟩
  |lt g d hg hD ih=>
   simp only [LvT,w0v];exact ⟨g,hg,(hG g hg d).2 (ih g Z hg)⟩
  |jx j x he hx hg hf=>exact fun hj=>Or.inl ⟨he,x,hx,hg,hf,w1h _⟩
  |j0 j d he hr hD ih=>
   intro hj;have:=hi.jg j hj;exact Or.inr (Or.inl ⟨he,hr,ih j.graph.toNat (by omega) (by omega)⟩)
  |jr j k d he hr hk hg hne hf hf' ih ih'=>
   intro hj;refine Or.inr (Or.inr ⟨he,hr,⟨k,hk,hg,hne,?_⟩,?_⟩)
   ·rw [show d+1 - 1=d by omega];exact ih
   ·rw [show d+1 - 1=d by omega];exact ih'
  |up x d e hD hle ih=>
   cases x with
   |a g=>exact fun g' e hg'=>(ih g' e hg').mono (Dn.refl _) (Dn.refl _) hle
   |l f=>exact LvT.mono (Dn.refl _) (Dn.refl _) hle ih
   |j j=>exact fun hj=>(ih hj).mono (Dn.refl _) (Dn.refl _) hle
 exact ⟨fun g _=>h.bd.nn (.inl g),fun f=>(wu h.bd.nn f).1,fun j hj=>h.bd.nn (.inr _),
  fun g hg d=>⟨h.sA g d,fun hD=>(hG g hg d).2 (hcomp _ d hD g rfl hg)⟩,fun f d=>⟨fun hq=>h.sL f d (((wu h.bd.nn f).2 d).1 hq),fun hD=>((wu h.bd.nn f).2 d).2 (hcomp _ d hD)⟩,fun j hj d=>⟨h.sD _ j (h0 j hj) d,fun hD=>(hJ _ j (h0 j hj) d).2 (hcomp _ d hD hj)⟩⟩
end
theorem qk (j:zo):∀(l:List zo) (b:Bool),YF j l b=(b&&!(l.any fun y=>YS y j))
 |[],b=>by simp [YF]
 |y::r,b=>by
  simp only [YF,qk j r,w14]
  cases YS y j<;>cases b<;>simp
theorem wN (y j:zo):YS y j=true↔y.ty=j.ty/\y.field=j.field/\y.graph=j.graph:=by
 simp [YS,and_assoc]
theorem z0D (n:Nat) (name:Str):∀(l pre acc:List zo) (seen:List ((Str×Int)×Bool)),
  (∀f g,(Z1 (f,g) seen).getD false=true↔∃y,y∈pre/\y.ty=name/\0<=y.graph/\y.graph<n/\y.field=f/\y.graph=g)->wz n name l acc seen=yo n name pre l acc
 |[],pre,acc,seen,h=>rfl
 |j::r,pre,acc,seen,h=>by
  have hs:=h j.field j.graph;simp only [wz,yo];by_cases hb:j.ty=name/\0<=j.graph/\j.graph<n
  ·obtain ⟨hn,h0,h1⟩:=hb
   have e1:(j.ty==name)=true:=by simpa using hn
   have e2:decide (j.graph≥0)=true:=by simpa using h0
   have e3:decide (j.graph<(n:Int))=true:=by simpa using h1
   have e4:(pre.any fun y=>YS y j)=(Z1 (j.field,j.graph) seen).getD false:=by
    rw [w2b,hs,w2d];constructor
    ·rintro ⟨y,hy,he⟩;rw [wN] at he
     exact ⟨y,hy,by rw [he.1,hn],by omega,by omega,he.2.1,he.2.2⟩
    ·rintro ⟨y,hy,a,b,c,d,e⟩
     exact ⟨y,hy,(wN y j).2 ⟨by rw [a,hn],d,e⟩⟩
   have ei:inj n name seen j=!((Z1 (j.field,j.graph) seen).getD false):=by simp only [inj,e1,e2,e3,w13]
   have er:inR n name j (YF j pre true)=!((Z1 (j.field,j.graph) seen).getD false):=by simp only [inR,qk,e1,e2,e3,e4,w13]
   by_cases hk:(Z1 (j.field,j.graph) seen).getD false=true
   ·rw [w0d (by rw [ei,hk];simp),w0d (by rw [er,hk];simp)];refine z0D n name r (pre++[j]) acc seen fun f g=>?_;rw [h f g];constructor
    ·rintro ⟨y,hy,hh⟩;exact ⟨y,w1l _ hy,hh⟩
    ·rintro ⟨y,hy,a,b,c,d,e⟩
     rcases w19.1 hy with hy|hy
     ·exact ⟨y,hy,a,b,c,d,e⟩
     ·simp at hy;subst hy;obtain ⟨z,hz,a',b',c',d',e'⟩:=hs.1 hk
      exact ⟨z,hz,a',b',c',by rw [d',d],by rw [e',e]⟩
   ·rw [Bool.not_eq_true] at hk;rw [w0c (by rw [ei,hk];simp),w0c (by rw [er,hk];simp)];refine z0D n name r (pre++[j]) (acc++[j]) _ fun f g=>?_;rw [WI];by_cases hfg:(f,g)=(j.field,j.graph)
    ·rw [w0c hfg];simp only [w2q,true_iff];cases hfg
     exact ⟨j,by simp,hn,h0,h1,rfl,rfl⟩
    ·rw [w0d hfg,h f g];constructor
     ·rintro ⟨y,hy,hh⟩;exact ⟨y,w1l _ hy,hh⟩
     ·rintro ⟨y,hy,a,b,c,d,e⟩
      rcases w19.1 hy with hy|hy
      ·exact ⟨y,hy,a,b,c,d,e⟩
      ·simp at hy;subst hy;exact absurd (by rw [d,e]) hfg
  ·have e1:((j.ty==name)&&decide (j.graph≥0)&&decide (j.graph<(n:Int)))=false:=by
    rw [Bool.eq_false_iff];intro he;simp at he;exact hb ⟨he.1.1,he.1.2,he.2⟩
   rw [w0d (by simp only [inj,e1];simp),w0d (by simp only [inR,e1];simp)];refine z0D n name r (pre++[j]) acc seen fun f g=>?_;rw [h f g];constructor
   ·rintro ⟨y,hy,hh⟩;exact ⟨y,w1l _ hy,hh⟩
   ·rintro ⟨y,hy,a,b,c,d,e⟩
    rcases w19.1 hy with hy|hy
    ·exact ⟨y,hy,a,b,c,d,e⟩
    ·simp at hy;subst hy;exact absurd ⟨a,b,c⟩ hb
theorem qb (n:Nat) (name:Str):∀(l pre acc:List zo) (x:zo),x∈yo n name pre l acc->x∈acc∨(x∈l/\x.ty=name/\0<=x.graph/\x.graph<n)
 |[],pre,acc,x,h=>Or.inl h
 |j::r,pre,acc,x,h=>by
  simp only [yo] at h
  rcases qb n name r _ _ x h with h|h
  ·split at h
   ·next hb=>
    rcases w19.1 h with h|h
    ·exact Or.inl h
    ·simp at h;subst h;simp [inR] at hb;exact Or.inr ⟨w0l ..,hb.1.1.1,hb.1.1.2,hb.1.2⟩
   ·exact Or.inl h
  ·exact Or.inr ⟨w08 _ h.1,h.2⟩
theorem z2x (n:Nat) (name:Str):∀(l pre acc:List zo),(yo n name pre l acc).length<=acc.length+l.length
 |[],pre,acc=>by simp [yo]
 |j::r,pre,acc=>by
  simp only [yo];refine w0u (z2x n name r _ _) ?_
  split<;>simp<;>omega
theorem Qm (n:Nat) (name:Str):∀(l acc:List zA) (x:zA),x∈Y9 n name l acc->x∈acc∨(x∈l/\x.ty=name/\0<=x.graph/\x.graph<n)
 |[],acc,x,h=>Or.inl h
 |j::r,acc,x,h=>by
  simp only [Y9] at h;split at h
  ·next hb=>
   rcases Qm n name r _ x h with h|h
   ·rcases w19.1 h with h|h
    ·exact Or.inl h
    ·simp at h;subst h;simp [ink] at hb;exact Or.inr ⟨w0l ..,hb.1.1,hb.1.2,hb.2⟩
   ·exact Or.inr ⟨w08 _ h.1,h.2⟩
  ·rcases Qm n name r _ x h with h|h
   ·exact Or.inl h
   ·exact Or.inr ⟨w08 _ h.1,h.2⟩
theorem z1o (n:Nat) (name:Str):∀(l acc:List zA),(Y9 n name l acc).length<=acc.length+l.length
 |[],acc=>by simp [Y9]
 |j::r,acc=>by
  simp only [Y9];split
  ·refine w0u (z1o n name r _) ?_;simp;omega
  ·refine w0u (z1o n name r _) ?_;simp
theorem z48 (n:Nat):∀(l acc:List ze),Wo n l acc=acc++l.filter (inb n)
 |[],acc=>by simp [Wo]
 |x::r,acc=>by
  simp only [Wo,z48 n r,w20]
  split<;>simp
theorem z9x (n:Nat) (x:ze):inb n x=true↔0<=x.graph/\x.graph<n/\1<=x.depth/\x.depth<=1099511627776:=by
 simp [inb,and_assoc]
theorem z17 (n:Nat):∀(l sp:List ze) (A:List Int),n<=A.length->(∀g,0<=A.getD g 0/\A.getD g 0<=1099511627776)->(∀x,x∈sp->inb n x=true/\Q (A.getD x.graph.toNat 0) x.depth)->(∀(g:Nat) d,Q (A.getD g 0) d->∃x,x∈sp/\x.graph=g/\x.depth<=d)->
  (yG n l sp A).1=sp++l.filter (inb n)/\(yG n l sp A).2.length=A.length/\(∀g,0<=(yG n l sp A).2.getD g 0/\(yG n l sp A).2.getD g 0<=1099511627776)/\
  (∀x,x∈(yG n l sp A).1->inb n x=true/\Q ((yG n l sp A).2.getD x.graph.toNat 0) x.depth)/\(∀(g:Nat) d,Q ((yG n l sp A).2.getD g 0) d->∃x,x∈(yG n l sp A).1/\x.graph=g/\x.depth<=d)
 |[],sp,A,h0,h1,h2,h3=>by simp only [yG,List.filter_nil,w18];exact ⟨trivial,trivial,h1,h2,h3⟩
 |x::r,sp,A,h0,h1,h2,h3=>by
  simp only [yG];by_cases hb:inb n x=true
  ·rw [w0c hb];have hx:=(z9x n x).1 hb
   have hg:x.graph.toNat<A.length:=by omega
   have e:∀g,(A.set x.graph.toNat (zT (A.getD x.graph.toNat 0) x.depth)).getD g 0=if g=x.graph.toNat then zT (A.getD x.graph.toNat 0) x.depth else A.getD g 0:=wm hg;have hl:∀d,Q (zT (A.getD x.graph.toNat 0) x.depth) d↔Q (A.getD x.graph.toNat 0) d∨Q x.depth d:=fun d=>WR (h1 _).1 (by omega)
   have hl0:0<=zT (A.getD x.graph.toNat 0) x.depth/\zT (A.getD x.graph.toNat 0) x.depth<=1099511627776:=by
    have:=(h1 x.graph.toNat)
    simp only [zT];split<;>omega
   obtain ⟨k1,k2,k3,k4,k5⟩:=z17 n r (sp++[x]) (A.set x.graph.toNat (zT (A.getD x.graph.toNat 0) x.depth)) (by simpa using h0)
    (fun g=>by
     rw [e];split
     ·exact hl0
     ·exact h1 g)
    (fun y hy=>by
     rcases w19.1 hy with hy|hy
     ·refine ⟨(h2 y hy).1,?_⟩;rw [e];split
      ·next he=>rw [hl,←he];exact Or.inl (h2 y hy).2
      ·exact (h2 y hy).2
     ·simp at hy;subst hy;refine ⟨hb,?_⟩;rw [e,w0c rfl,hl]
      exact Or.inr ⟨by omega,by omega⟩)
    (fun g d hq=>by
     rw [e] at hq;split at hq
     ·next he=>
      rw [hl] at hq
      rcases hq with hq|hq
      ·obtain ⟨y,a,b,c⟩:=h3 _ d hq
       exact ⟨y,w1l _ a,by rw [b,he],c⟩
      ·exact ⟨x,by simp,by omega,hq.2⟩
     ·obtain ⟨y,a,b,c⟩:=h3 _ d hq
      exact ⟨y,w1l _ a,b,c⟩)
   refine ⟨by rw [k1,w20,w0c hb];simp,by rw [k2];simp,k3,k4,k5⟩
  ·rw [w0d hb];obtain ⟨k1,k2,k3,k4,k5⟩:=z17 n r sp A h0 h1 h2 h3
   refine ⟨by rw [k1,w20,w0d hb],k2,k3,k4,k5⟩
structure Small (s:zH) (here:List ze):Prop where
 g:s.z3.length<=10
 j:s.zr.length<=300
 k:s.keys.length<=100
 h:here.length<=4000
 jr:∀j,j∈s.zr->j.req.length<=10/\j.Zk.length<=10
 kf:∀k,k∈s.keys->k.fields.length<=10
 ho:∀x,x∈here->x.ok
abbrev ZE (n:Nat) (here:List ze):List ze:=here.filter (inb n)
abbrev Z4 (s:zH) (name:Str):List zo:=yo s.z3.length name [] s.zr []
abbrev ye (s:zH) (name:Str):List zA:=Y9 s.z3.length name s.keys []
theorem Y6 (s:zH) (name:Str):(Z4 s name).length<=s.zr.length:=by
 have:=z2x s.z3.length name s.zr [] [];simpa using this
theorem z3z (s:zH) (name:Str):(ye s name).length<=s.keys.length:=by
 have:=z1o s.z3.length name s.keys [];simpa using this
theorem z1G (n:Nat) (here:List ze):(ZE n here).length<=here.length:=w1z (inb n) here
theorem zgt {s:zH} {name:Str} {here:List ze} (h:Small s here):In s.z3.length (ZE s.z3.length here) (Z4 s name) (ye s name) where
 n0:=by have:=h.g;omega
 jl:=by have:=Y6 s name;have:=h.j;omega
 sg:=fun x hx=>(z9x _ x).1 (w2a.1 hx).2
 jg:=fun j hj=>by
  rcases qb _ _ _ _ _ j hj with e|e
  ·cases e
  ·exact e.2.2
 kg:=fun k hk=>by
  rcases Qm _ _ _ _ k hk with e|e
  ·cases e
  ·exact e.2.2
theorem wb {s:zH} {name:Str} {here:List ze} (h:Small s here) {j:zo} (hj:j∈Z4 s name):j.req.length<=10/\j.Zk.length<=10:=by
 rcases qb _ _ _ _ _ j hj with e|e
 ·cases e
 ·exact h.jr j e.1
theorem z0r {s:zH} {name:Str} {here:List ze} (h:Small s here) {k:zA} (hk:k∈ye s name):k.fields.length<=10:=by
 rcases Qm _ _ _ _ k hk with e|e
 ·cases e
 ·exact h.kf k e.1
theorem zgi (n:Nat):((List.replicate n (List.replicate 8 (0:Int))).flatten).length=8*n/\∀g,((List.replicate n (List.replicate 8 (0:Int))).flatten).getD g 0=0:=by
 have:(List.replicate n (List.replicate 8 (0:Int))).flatten=List.replicate (n*8) 0:=by
  rw [List.flatten_replicate_replicate]
 rw [this]
 refine ⟨by simp;omega,fun g=>?_⟩
 rw [w0e,List.getElem?_replicate]
 split<;>rfl
theorem zeW {s:zH} {name:Str} {here:List ze} (h:Small s here):∃F A,Sol s name here (ZE s.z3.length here) (Z4 s name) (ye s name) F A/\
  Ans s.z3.length (ZE s.z3.length here) (Z4 s name) (ye s name) (fun g=>A.getD g 0) (zZ s.z3.length F A) (Zh s.z3.length (ZE s.z3.length here) (ye s name) F A)/\A.length=8*(s.z3.length/8+1)/\∀g,A.getD g 0<=1099512627776:=by
 have hi:=zgt (name:=name) h;have hg:=h.g;have hj:=h.j;have hk:=h.k;have hh:=h.h;obtain ⟨f1,f2⟩:=zgi (s.z3.length/8+1)
 obtain ⟨k1,k2,k3,k4,k5⟩:=z17 s.z3.length here [] (List.replicate (s.z3.length/8+1) (List.replicate 8 0)).flatten (by omega) (fun g=>by rw [f2];omega) (fun x hx=>by cases hx) (fun g d hq=>by rw [f2] at hq;have:=hq.1;omega)
 generalize hS:yG s.z3.length here [] (List.replicate (s.z3.length/8+1) (List.replicate 8 0)).flatten=S at k1 k2 k3 k4 k5;obtain ⟨sp,A0⟩:=S;simp only [w1y] at k1 k2 k3 k4 k5;subst k1;have hjl:=Y6 s name;have hkl:=z3z s name;have hsl:=z1G s.z3.length here
 have hv:∀i,0<=vR [] A0 i/\vR [] A0 i<=1099511627776:=fun i=>by
  cases i with
  |inl g=>exact k3 g
  |inr f=>simp [vR,Z1]
 have hI:z0A s.z3.length (ZE s.z3.length here) (Z4 s name) (ye s name) [] A0:=by
  refine ⟨⟨by simp only [fsR,w0g,w1g,w2k];omega,fun i=>(hv i).1,fun i=>by have:=(hv i).2;omega⟩,by omega,fun g d hq=>?_,fun f d hq=>?_,fun x hx=>(k4 x hx).2⟩
  ·obtain ⟨x,a,b,c⟩:=k5 g d hq;rw [←b];exact .up _ _ _ (.spot x a) c
  ·simp [Z1] at hq;have:=hq.1;omega
 have hNof:∀A:List Int,A.length=8*(s.z3.length/8+1)->NOk s (ZE s.z3.length here) (Z4 s name) (ye s name) (s.z3.length/8+1) A:=fun A hA=>
  {hnb:=by omega,gr:=by omega,z5j:=hA,spL:=by omega,jsL:=by omega,ksL:=by omega,
   spO:=fun x hx=>h.ho x (w2a.1 hx).1,
   jsO:=fun j hj=>(by have h1:=hi.jg j hj;have h2:=wb h hj;exact ⟨⟨by omega,by omega⟩,by omega,by omega⟩),
   ksO:=fun k hk=>(by have:=z0r h hk;simp only [zA.ok];omega)}
 obtain ⟨fuel,F1,A1,r1,r2,r3,r4,r5⟩:=z65 hi _ [] A0 (w2r _) hI
 refine ⟨F1,A1,⟨by omega,by omega,by omega,by omega,?_,rfl,⟨A0,fuel,hS,hNof A0 (by omega),r1,r2⟩,hNof A1 (by omega)⟩,zgr hi r3 r4,by omega,fun g=>r3.bd.lt (.inl g)⟩
 exact z0D _ _ _ [] [] [] (fun f g=>by simp [Z1])
theorem w5 (n:Nat) (name:Str):∀(l pre acc:List zo),(∀x,x∈acc->x∈pre)->acc.Pairwise (fun a b=>¬ YS a b=true)->(yo n name pre l acc).Pairwise (fun a b=>¬ YS a b=true)
 |[],pre,acc,h1,h2=>h2
 |j::r,pre,acc,h1,h2=>by
  simp only [yo];split
  ·next hb=>
   refine w5 n name r _ _ (fun x hx=>?_) ?_
   ·rcases w19.1 hx with hx|hx
    ·exact w1l _ (h1 x hx)
    ·exact List.mem_append_right _ hx
   ·rw [List.pairwise_append];refine ⟨h2,List.pairwise_singleton _ _,fun a ha b hb'=>?_⟩;simp at hb';subst hb';simp [inR,qk] at hb;have:=hb.2 a (h1 a ha);simp [this]
  ·exact w5 n name r _ _ (fun x hx=>w1l _ (h1 x hx)) h2
theorem QF (s:zH) (name:Str):(Z4 s name).Pairwise (fun a b=>¬ YS a b=true):=
 w5 _ _ _ _ _ (fun x hx=>by cases hx) List.Pairwise.nil
def zeh (js:List zo) (j:zo):Nat:=js.findIdx fun y=>YS y j
theorem z8P {js:List zo} (hn:js.Pairwise (fun a b=>¬ YS a b=true)) {i:Nat} {j:zo} (hj:js[i]?=some j):zeh js j=i:=by
 have hi:i<js.length:=by
  rcases w1b i js.length with h|h
  ·exact h
  ·rw [w12 h] at hj;cases hj
 have hji:js[i]=j:=by rw [w09 hi] at hj;simpa using hj
 unfold zeh;rw [List.findIdx_eq hi]
 refine ⟨by rw [hji];simp [YS],fun k hk=>?_⟩
 have:=(List.pairwise_iff_getElem.1 hn) k i (by omega) hi hk;rw [hji] at this;simpa using this
theorem zbm {s:zH} {name:Str} {here:List ze} (h:Small s here):∃D A,Fil s name here (ZE s.z3.length here) (Z4 s name) (ye s name) D A/\
  Ans s.z3.length (ZE s.z3.length here) (Z4 s name) (ye s name) (fun g=>A.getD g 0) (Zw s.z3.length (Z4 s name) D A) (fun j=>D.getD (zeh (Z4 s name) j) 0):=by
 have hi:=zgt (name:=name) h;have hg:=h.g;have hj:=h.j;have hk:=h.k;have hh:=h.h;have hjl:=Y6 s name;have hkl:=z3z s name;have hsl:=z1G s.z3.length here
 have hz:∀n g,(List.replicate n (0:Int)).getD g 0=0:=fun n g=>by
  rw [w0e,List.getElem?_replicate]
  split<;>rfl
 have hv:∀i,vT (List.replicate (Z4 s name).length 0) (List.replicate s.z3.length 0) i=0:=fun i=>by
  cases i with
  |inl g=>exact hz _ g
  |inr f=>exact hz _ f
 have hI:WN s.z3.length (ZE s.z3.length here) (Z4 s name) (ye s name) (List.replicate (Z4 s name).length 0) (List.replicate s.z3.length 0):=by
  refine ⟨⟨by simp only [fsT,w0g,w1g,w2k];omega,fun i=>by rw [hv];omega,fun i=>by rw [hv];omega⟩,by simp,by simp,fun g d hq=>?_,fun i j _ d hq=>?_,fun g d hq=>?_,fun i j _ d hq=>?_⟩
  all_goals (rw [hz] at hq;have:=hq.1;omega)
 obtain ⟨fuel,D1,A1,r1,r2,r3,r4⟩:=z40 hi _ _ _ (w2r _) hI
 refine ⟨D1,A1,⟨by omega,by omega,by omega,by omega,?_,rfl,rfl,fun D A hD hA=>?_,r3.ld,r3.la,fuel,r1,r2⟩,zgu hi r3 r4 _ fun j hj=>?_⟩
 ·rw [z48];rfl
 ·exact ⟨by omega,hD,hA,by omega,by omega,by omega,fun x hx=>h.ho x (w2a.1 hx).1,fun j hj=>(by have h2:=wb h hj;exact ⟨hi.jg j hj,by omega,by omega⟩),fun k hk=>(by have:=z0r h hk;simp only [zA.ok];omega)⟩
 ·obtain ⟨i,hi'⟩:=w0y.1 hj;rw [z8P (QF s name) hi'];exact hi'
end Go.GB.C26
namespace Go.GB.C29
open Go.GB Go.GB.C26
variable {P:Program}
def Q9:Str:=[110,97,109,101]
def meS:Str:=[109,101]
def yS:Str:=[81,117,101,114,121]
def YT:Str:=[85,115,101,114]
def z90:Str:=[83,116,114,105,110,103]
def exD:List Def:=[{kind:=1,name:=yS,implements:=[],Zp:=[],fields:=[⟨meS,[],⟨YT,[]⟩,[]⟩],members:=[],zp:=[]},{kind:=1,name:=YT,implements:=[],Zp:=[],fields:=[⟨Q9,[],⟨z90,[]⟩,[]⟩],members:=[],zp:=[]}]
def exS:zH:=⟨[[97]],.lst (exD.map Def.enc),[],[⟨yS,meS,0,false,[],[]⟩,⟨YT,Q9,0,false,[],[]⟩]⟩
def exX:zg:= .mk Q9 YT Q9 [] ⟨z90,[]⟩ [] (-1) []
def exY:zg:= .mk meS yS meS [] ⟨YT,[]⟩ [] (-1) [exX]
theorem z8e (H:YX P):z6 P 21 [] ⟨[],0⟩ {v:= .tup [exS.v,.agg [.t (.int .i64 1),.t (.lst ([exY].map zg.enc))]]}:=by
 refine z6.run H.i21 H.mixed Z Z ?_
 refine Run.W3 (f:=57) Z (by (repeat' (first |exact trivial|exact w0j _|exact yY _|exact yX _|exact grd3 _ _|exact yZ _ _|refine And.intro ?_ ?_|exact rfl|(simp;done)|(simp<;>omega)));done) ?_
 refine Mid.zh9 Z Z Z ?_;refine fM Z ?_;refine Run.fin Z (z4.go ?_);exact .wx (.agg (.cons (.own Z) (.cons (.own Z) (.cons (.nil Z) (.cons (.own Z) .nil))))) (.agg (.cons (.t Z) (.cons (.t Z) .nil)))
def one:List ze:=[⟨0,1,[]⟩]
def jQ:zo:=⟨yS,meS,0,false,[],[]⟩
def jU:zo:=⟨YT,Q9,0,false,[],[]⟩
def z8:List Int:=[0,0,0,0,0,0,0,0]
def o8:List Int:=[1,0,0,0,0,0,0,0]
theorem nok (sp:List ze) (js:List zo) (A:List Int) (hA:A.length=8) (hsp:sp=[]∨sp=one) (hj:js=[]∨js=[jQ]∨js=[jU]):NOk exS sp js [] 1 A:=by
 refine ⟨by decide,by decide,hA,?_,?_,by decide,?_,?_,by simp⟩
 ·rcases hsp with rfl|rfl<;>decide
 ·rcases hj with rfl|rfl|rfl<;>decide
 ·rcases hsp with rfl|rfl<;>simp [one,ze.ok]
 ·rcases hj with rfl|rfl|rfl<;>simp [jQ,jU,zo.ok]
theorem zcT:Sol exS yS one one [jQ] [] [(meS,1)] o8:=
 ⟨by decide,by decide,by decide,by decide,by rfl,by rfl,⟨o8,3,by rfl,nok _ _ _ rfl (.inr rfl) (.inr (.inl rfl)),fun _ h=>absurd h (by decide),by rfl⟩,nok _ _ _ rfl (.inr rfl) (.inr (.inl rfl))⟩
theorem zbi:Sol exS YT one one [jU] [] [(Q9,1)] o8:=
 ⟨by decide,by decide,by decide,by decide,by rfl,by rfl,⟨o8,3,by rfl,nok _ _ _ rfl (.inr rfl) (.inr (.inr rfl)),fun _ h=>absurd h (by decide),by rfl⟩,nok _ _ _ rfl (.inr rfl) (.inr (.inr rfl))⟩
theorem zfD:Sol exS yS [] [] [jQ] [] [] z8:=
 ⟨by decide,by decide,by decide,by decide,by rfl,by rfl,⟨z8,3,by rfl,nok _ _ _ rfl (.inl rfl) (.inr (.inl rfl)),fun h=>absurd h (by decide),by rfl⟩,nok _ _ _ rfl (.inl rfl) (.inr (.inl rfl))⟩
theorem zfk:Sol exS YT [] [] [jU] [] [] z8:=
 ⟨by decide,by decide,by decide,by decide,by rfl,by rfl,⟨z8,3,by rfl,nok _ _ _ rfl (.inl rfl) (.inr (.inr rfl)),fun h=>absurd h (by decide),by rfl⟩,nok _ _ _ rfl (.inl rfl) (.inr (.inr rfl))⟩
theorem z8T {ty:Str} (h1:ty≠yS) (h2:ty≠YT):wz exS.z3.length ty exS.zr [] []=[]:=by
 have e1:¬ yS=ty:=fun e=>h1 e.symm;have e2:¬ YT=ty:=fun e=>h2 e.symm;simp [exS,wz,inj,e1,e2]
theorem zdb (ty:Str):Y9 exS.z3.length ty exS.keys []=[]:=rfl
theorem zfj {ty:Str} (h1:ty≠yS) (h2:ty≠YT):Sol exS ty one one [] [] [] o8:=
 ⟨by decide,by decide,by decide,by decide,z8T h1 h2,zdb ty,⟨o8,3,by rfl,nok _ _ _ rfl (.inr rfl) (.inl rfl),fun h=>absurd h (by decide),by rfl⟩,nok _ _ _ rfl (.inr rfl) (.inl rfl)⟩
theorem zfL {ty:Str} (h1:ty≠yS) (h2:ty≠YT):Sol exS ty [] [] [] [] [] z8:=
 ⟨by decide,by decide,by decide,by decide,z8T h1 h2,zdb ty,⟨z8,3,by rfl,nok _ _ _ rfl (.inl rfl) (.inl rfl),fun h=>absurd h (by decide),by rfl⟩,nok _ _ _ rfl (.inl rfl) (.inl rfl)⟩
def exG (h:List ze):Prop:=h=[]∨h=one
def exC (ty:Str) (here:List ze) (f:Str):Bool:=!here.isEmpty&&((ty==yS&&f==meS)||(ty==YT&&f==Q9))
def z2N (ty:Str) (here:List ze) (f:Str):List ze:=if exC ty here f then one else []
def z50 (ty:Str) (here:List ze) (f:Str):Int:=if here.isEmpty then 0 else if f=tyN then 1 else if exC ty here f then 1 else 0
theorem zd1 (ty:Str) (here:List ze) (f:Str) (h:exG here):∃sp js ks F A,Sol exS ty here sp js ks F A/\js.length<=1000/\ZU exS.z3.length sp js ks F A f 0 exS.z3.length []=z2N ty here f/\zZ exS.z3.length F A f=z50 ty here f:=by
 have hqu:yS≠YT:=by decide
 rcases h with rfl|rfl
 ·have e1:z2N ty [] f=[]:=by simp [z2N,exC]
  have e2:z50 ty [] f=0:=by simp [z50]
  rw [e1,e2];by_cases h1:ty=yS
  ·subst h1
   refine ⟨_,_,_,_,_,zfD,by decide,?_,?_⟩
   ·by_cases hf:f=meS
    ·subst hf;rfl
    ·have hf2:¬ meS=f:=fun e=>hf e.symm;simp [ZU,yz,jQ,hf2,exS]
   ·simp [zZ,Z1,z8,exS];exact fun _=>rfl
  ·by_cases h2:ty=YT
   ·subst h2
    refine ⟨_,_,_,_,_,zfk,by decide,?_,?_⟩
    ·by_cases hf:f=Q9
     ·subst hf;rfl
     ·have hf2:¬ Q9=f:=fun e=>hf e.symm;simp [ZU,yz,jU,hf2,exS]
    ·simp [zZ,Z1,z8,exS];exact fun _=>rfl
   ·exact ⟨_,_,_,_,_,zfL h1 h2,by decide,by simp [ZU,yz,exS],by simp [zZ,Z1,z8,exS];exact fun _=>rfl⟩
 ·by_cases h1:ty=yS
  ·subst h1;by_cases hf:f=meS
   ·subst hf
    exact ⟨_,_,_,_,_,zcT,by decide,by rfl,by rfl⟩
   ·have hf2:¬ meS=f:=fun e=>hf e.symm
    have ec:exC yS one f=false:=by simp [exC,one,hf,hqu]
    refine ⟨_,_,_,_,_,zcT,by decide,?_,?_⟩
    ·simp [z2N,ec,ZU,yz,jQ,hf2,exS]
    ·by_cases ht:f=tyN
     ·subst ht;rfl
     ·simp [z50,ec,zZ,Z1,o8,exS,hf,ht]
  ·by_cases h2:ty=YT
   ·subst h2;by_cases hf:f=Q9
    ·subst hf
     exact ⟨_,_,_,_,_,zbi,by decide,by rfl,by rfl⟩
    ·have hf2:¬ Q9=f:=fun e=>hf e.symm
     have ec:exC YT one f=false:=by simp [exC,one,hf,h1]
     refine ⟨_,_,_,_,_,zbi,by decide,?_,?_⟩
     ·simp [z2N,ec,ZU,yz,jU,hf2,exS]
     ·by_cases ht:f=tyN
      ·subst ht;rfl
      ·simp [z50,ec,zZ,Z1,o8,exS,hf,ht]
   ·have ec:exC ty one f=false:=by simp [exC,h1,h2]
    exact ⟨_,_,_,_,_,zfj h1 h2,by decide,by simp [z2N,ec,ZU,yz,exS],by
     by_cases ht:f=tyN
     ·subst ht;simp [z50,one,zZ,Z1,o8,exS];rfl
     ·simp [z50,ec,zZ,Z1,o8,exS,ht]⟩
theorem z9w (ty:Str) (here:List ze) (f:Str):z2N ty here f=[]∨z2N ty here f=one:=by unfold z2N;split<;>simp
theorem zdX (s:zH) (t:Str) {l:List ze} (h:exG l):exG (yl s t l):=by
 rcases h with rfl|rfl
 ·exact .inl Z
 ·unfold yl one;simp only [w20,List.filter_nil];split
  ·exact .inr Z
  ·exact .inl Z
theorem zfd:Z6 exD:=by
 refine ⟨by decide,?_,by decide⟩
 intro y hy;simp only [exD,w17,List.not_mem_nil,or_false] at hy
 rcases hy with rfl|rfl
 all_goals
  refine ⟨by decide,by decide,by simp,by decide,?_,by decide,by simp,by decide,by simp,by decide,by decide⟩
  intro f hf;simp only [w17,List.not_mem_nil,or_false] at hf;subst hf
  exact ⟨by decide,by simp,⟨by decide,by decide⟩,by decide,by simp,by decide⟩
theorem zbr:Env exS exD exG z2N where
 doc:=rfl
 z6T:=zfd
 js:=by decide
 ok:=fun ty here f h=>by
  obtain ⟨sp,js,ks,F,A,a,b,c,_⟩:=zd1 ty here f h;exact ⟨sp,js,ks,F,A,a,b,c⟩
 cl:=fun ty here f t _=>zdX _ _ (z9w ty here f)
 len:=fun ty here f _=>by rcases z9w ty here f with h|h<;>rw [h]<;>decide
theorem zg5:zfw exS exG z50 where
 ok:=fun ty here f h=>by
  obtain ⟨sp,js,ks,F,A,a,_,_,c⟩:=zd1 ty here f h;exact ⟨sp,js,ks,F,A,a,c⟩
end Go.GB.C29
namespace Go.GB.C29
open Go.GB Go.GB.C26
variable {P:Program}
def exL:List Place:=[⟨-1,⟨[],[]⟩,yS,one,[exY]⟩,⟨0,⟨yS,meS⟩,YT,one,[exX]⟩]
theorem Qn:ZQ exS exD z2N 1 [exY]=exL:=by rfl
theorem zd5:z05 z50 exL 0=some 1:=by rfl
theorem zef:z4x exL 1=[⟨yS,meS⟩]:=by rfl
theorem zf5:exX.Ok:= .mk (by decide) (by simp) ⟨by decide,by decide⟩ (by decide) (by simp)
theorem zfC:exY.Ok:= .mk (by decide) (by simp) ⟨by decide,by decide⟩ (by decide) (by intro x hx;simp at hx;subst hx;exact zf5)
theorem Yk (H:YX P):z6 P 8 [] ⟨[],0⟩ {v:= .t (.bool true)}:=by
 have hy:∀x,x∈[exY]->x.Ok:=by intro x hx;simp at hx;subst hx;exact zfC
 have h1:=z16 H zbr 1 [exY] (by decide) hy (.inr rfl) (by decide) (by rw [Qn];decide)
 have h2:=z7t H zbr zg5 1 [exY] (by decide) hy (.inr rfl) (by decide) (by rw [Qn];decide) (by rw [Qn];intro p hp;simp only [exL,w17,List.not_mem_nil,or_false] at hp;rcases hp with rfl|rfl<;>exact ⟨.inr rfl,by decide⟩)
 rw [Qn] at h1 h2;rw [zd5] at h2;have h3:=zdt H exL (by decide) 1;rw [zef] at h3;refine z6.run H.i8 H.mixed Z Z ?_;refine fR Z ?_;refine Mid.call (z8e H) Z Z Z Z ?_;refine fM Z ?_;refine Mid.call (h1) Z Z Z Z ?_;refine fM Z ?_;refine Mid.call (h2) Z Z Z Z ?_;refine fM Z ?_;refine lM Z Z Z ?_;refine fM Z ?_;refine gr Z ?_;refine fM Z ?_;refine lMG Z Z Z Z ?_;refine fM Z ?_;refine gr Z ?_;refine fM Z ?_;refine lMG Z Z Z Z ?_;refine fM Z ?_;refine gr Z ?_;refine fM Z ?_;refine lMG Z Z Z Z ?_;refine fM Z ?_;refine Run.zf Z Z Z ?_;refine fR Z ?_;refine Mid.call (h3) Z Z Z Z ?_;refine fM Z ?_;refine pu Z ?_;refine fM Z ?_;refine gr Z ?_;refine fM Z ?_;refine gr Z ?_;refine fM Z ?_;refine lMG Z Z Z Z ?_;refine fM Z ?_;refine gr Z ?_;refine fM Z ?_;refine gr Z ?_;refine fM Z ?_;refine Run.fin Z (z4.go ?_);exact .t Z
end Go.GB.C29
namespace Go.GB.C26
open Go.GB
variable {P:Program}
def z0l (D:List Int) (f:Str) (g:Int) (i:Nat) (j:zo):Bool:=(j.graph==g)&&(j.field==f)&&!j.ext&&decide (D.getD i 0>0)
def Wa (D:List Int) (f:Str) (g:Int):Nat->List zo->List ze->List ze
 |_,[],acc=>acc
 |i,j::r,acc=>Wa D f g (i+1) r (if z0l D f g i j=true then acc++[⟨g,D.getD i 0,j.Zk⟩] else acc)
def qn (js:List zo) (D:List Int) (f:Str):Nat->Nat->List ze->List ze
 |_,0,acc=>acc
 |i,c+1,acc=>qn js D f (i+1) c (Wa D f i 0 js acc)
section
variable {s:zH} {name:Str} {here sp:List ze} {js:List zo} {ks:List zA} {D A:List Int}
theorem zaY (H:Pr P) (h:Fil s name here sp js ks D A) (hjl:js.length<=1000) (hjp:∀j,j∈js->j.Zk.length<=100000) (f:Str):z6 P 52 [s.v,.t (.str name),.t (.lst (here.map ze.enc)),.t (.str f)] ⟨[],0⟩ {v:= .t (.lst ((qn js D f 0 s.z3.length []).map ze.enc))}:=by
 have h1:=h.h1;have h2:=h.hD1;refine z6.run H.i52 H.mixed Z Z ?_;refine fR Z ?_
 refine Mid.Zt [] (z8Y H h) Z Z Z Z Z (by repeat' (first |exact trivial|exact rfl|refine And.intro ?_ ?_|exact (congrArg some (z5.zD _ _ _ _ _ _)).symm|exact (congrArg some (z5.zE _ _ _)).symm)) Z Z (ob':=[(3,.cells (tC4 s sp js ks)),(5,.cells (cE iE D)),(6,.cells (cE iE A))]) ((by simp only [wY,z5.zD,z5.zE];rfl)) Z Z ?_
 refine fM Z ?_
 refine zu (List.range s.z3.length) (fun i (B:List ze)=>{env:=[(3,.t (.str f)),(9,.ptr 3 0),(10,.own 7 3 (B.map ze.enc)),(11,.t (.int .i64 i))],s:=⟨[(3,.cells (tC4 s sp js ks)),(5,.cells (cE iE D)),(6,.cells (cE iE A)),(7,.arr B.length)],8⟩}) (fun r i B=>B.length<=i*js.length/\qn js D f 0 s.z3.length []=qn js D f i r.length B) 7 [] Z ⟨by simp,by simp⟩ rfl rfl rfl ?_ ?_
 ·rintro B ⟨_,hinv⟩;refine fR Z ?_;refine Run.zf Z Z (by simp) ?_;refine fR Z ?_;refine Run.fin Z (z4.go ?_);exact .own (by rw [hinv];rfl)
 ·rintro i x r B hi1 hi hd ⟨hl,hinv⟩ ih;simp only [w2k] at hi;have hl2:i*js.length<=2000*js.length:=w10 _ (by omega);refine fR Z ?_;refine Run.zj Z Z (by simp;omega) ?_;refine fR Z ?_
  refine zu js (fun k (C:List ze)=>{env:=[(3,.t (.str f)),(9,.ptr 3 0),(10,.own 7 3 (C.map ze.enc)),(11,.t (.int .i64 i)),(12,.t (.int .i64 k))],s:=⟨[(3,.cells (tC4 s sp js ks)),(5,.cells (cE iE D)),(6,.cells (cE iE A)),(7,.arr C.length)],8⟩}) (fun r k C=>C.length<=i*js.length+k/\Wa D f i 0 js B=Wa D f i k r C) 8 B Z ⟨by simpa using hl,rfl⟩ rfl rfl rfl ?_ ?_
  ·rintro C ⟨hCl,hC⟩;refine fR Z ?_;refine lM Z Z Z ?_;refine fM Z ?_;refine Run.zf Z Z (by simp) ?_;refine fR Z ?_;refine aL Z Z Z Z Z ?_;refine fM Z ?_;exact zh 8 Z (ih C ⟨by rw [Nat.succ_mul];omega,by rw [hinv];simp only [w0b,qn];rw [hC];rfl⟩) rfl rfl rfl
  ·rintro k j r' C hk1 hk hkd ⟨hCl,hC⟩ ihk
   have hgd:D[0+k*1]?=some (D.getD k 0):=by
    have e:0+k*1=k:=by omega
    rw [e,w0e,w09 (by omega)];rfl
   have hjp':=hjp j (zMG hk1);refine fR Z ?_;refine lM Z Z Z ?_;refine fM Z ?_;refine Run.zj Z Z (by simp;omega) ?_;refine fR Z ?_;refine Mid.za Z Z Z hk1 Z Z ?_;refine fM Z ?_;refine gr Z ?_
   refine Mid.zhb Z Z Z (hgd) (by (repeat' (first |exact trivial|exact w0j _|exact yY _|exact yX _|exact grd3 _ _|exact yZ _ _|refine And.intro ?_ ?_|exact rfl|(simp;done)|(simp<;>omega)));done) Z ?_
   refine fM Z ?_;refine Run.cond Z Z (fun hc=>?_) (fun hc=>?_)
   ·have hc2:z0l D f i k j=true:=hc;refine fR Z ?_;refine apN sE j.Zk Z Z Z ?_ (h1:=by omega) (h2:=by omega);refine fM rfl ?_;refine Mid.iaS rfl rfl (by omega) rfl ?_;refine Mid.ldE rfl rfl (hgd) rfl ?_;refine fM rfl ?_;refine apM ze.enc C [(⟨(i:Int),D.getD k 0,j.Zk⟩:ze)] rfl rfl rfl rfl rfl ?_;refine fM rfl ?_;refine aL rfl rfl rfl rfl rfl ?_;refine fM rfl ?_;exact zh 8 rfl (ihk (C++[⟨(i:Int),D.getD k 0,j.Zk⟩]) ⟨by simp;omega,by rw [hC];simp only [Wa];rw [w0c hc2]⟩) rfl rfl rfl
   ·have hc2:¬ z0l D f i k j=true:=by
     intro e;rw [show z0l D f i k j=false from hc] at e;cases e
    refine fR Z ?_;refine aL Z Z Z Z Z ?_;refine fM Z ?_;exact zh 8 Z (ihk C ⟨by omega,by rw [hC];simp only [Wa];rw [w0d hc2]⟩) rfl rfl rfl
end
def Wg (js:List zo):Nat->Nat->List ze->List ze
 |_,0,acc=>acc
 |i,c+1,acc=>Wg js (i+1) c (if (js.any fun j=>j.graph==i)=true then acc++[⟨i,1,[]⟩] else acc)
theorem z9V (H:Pr P) (s:zH) (name:Str) (js:List zo) (ks:List zA) (h1:s.z3.length<=2000) (h3:s.zr.length<=100000) (h4:s.keys.length<=100000)
  (e2:yo s.z3.length name [] s.zr []=js) (e3:Y9 s.z3.length name s.keys []=ks) (hl:js.length<=100000):
  z6 P 28 [s.v,.t (.str name)] ⟨[],0⟩ {v:= .t (.lst ((Wg js 0 s.z3.length []).map ze.enc))}:=by
 refine z6.run H.i28 H.mixed Z Z ?_;refine fR Z ?_
 refine Mid.Zt [] (z8V (here:=[]) H h1 (by simp) h3 h4 Z e2 e3 hl) Z Z Z Z Z (by repeat' (first |exact trivial|exact rfl|refine And.intro ?_ ?_|exact (congrArg some (z5.zD _ _ _ _ _ _)).symm|exact (congrArg some (z5.zE _ _ _)).symm)) Z Z (ob':=[(2,.cells [.t (.int .i64 s.z3.length),.t (.lst (js.map zo.enc)),.t (.lst (ks.map zA.enc)),.t (.lst (([]:List ze).map ze.enc)),.slc 4 0 js.length 1,.slc 5 0 s.z3.length 1]),(4,.cells (cE iE (List.replicate js.length 0))),(5,.cells (cE iE (List.replicate s.z3.length 0)))]) ((by simp only [wY,z5.zD,z5.zE];rfl)) Z Z ?_
 refine fM Z ?_
 refine zu (List.range s.z3.length) (fun i (B:List ze)=>{env:=[(5,.ptr 2 0),(6,.own 6 3 (B.map ze.enc)),(7,.t (.int .i64 i))],s:=⟨[(2,.cells [.t (.int .i64 s.z3.length),.t (.lst (js.map zo.enc)),.t (.lst (ks.map zA.enc)),.t (.lst (([]:List ze).map ze.enc)),.slc 4 0 js.length 1,.slc 5 0 s.z3.length 1]),(4,.cells (cE iE (List.replicate js.length 0))),(5,.cells (cE iE (List.replicate s.z3.length 0))),(6,.arr B.length)],7⟩}) (fun r i B=>B.length<=i/\Wg js 0 s.z3.length []=Wg js i r.length B) 6 [] Z ⟨by simp,by simp⟩ rfl rfl rfl ?_ ?_
 ·rintro B ⟨_,hinv⟩;refine fR Z ?_;refine Run.zf Z Z (by simp) ?_;refine fR Z ?_;refine Run.fin Z (z4.go ?_);exact .own (by rw [hinv];rfl)
 ·rintro i x r B hi1 hi hd ⟨hl2,hinv⟩ ih;simp only [w2k] at hi;refine fR Z ?_;refine Run.zj Z Z (by simp;omega) ?_;refine fR Z ?_;refine zu js (fun k (f:Bool)=>{env:=[(5,.ptr 2 0),(6,.own 6 3 (B.map ze.enc)),(7,.t (.int .i64 i)),(8,.t (.bool f)),(9,.t (.int .i64 k))],s:=⟨[(2,.cells [.t (.int .i64 s.z3.length),.t (.lst (js.map zo.enc)),.t (.lst (ks.map zA.enc)),.t (.lst (([]:List ze).map ze.enc)),.slc 4 0 js.length 1,.slc 5 0 s.z3.length 1]),(4,.cells (cE iE (List.replicate js.length 0))),(5,.cells (cE iE (List.replicate s.z3.length 0))),(6,.arr B.length)],7⟩}) (fun r k f=>(js.any fun j=>j.graph==i)=(f||r.any fun j=>j.graph==i)) 7 false Z (by simp) Z Z Z ?_ ?_
  ·intro f hf
   have hf':(js.any fun j=>j.graph==i)=f:=by rw [hf];simp
   refine fR Z ?_;refine lM Z Z Z ?_;refine fM Z ?_;refine Run.zf Z Z (by simp) ?_;refine fR Z ?_;refine Run.cond Z Z (fun hc=>?_) (fun hc=>?_)
   ·have hc2:(js.any fun j=>j.graph==i)=true:=by rw [hf'];exact hc
    refine fR Z ?_;refine apM ze.enc B [(⟨(i:Int),1,[]⟩:ze)] Z Z Z Z Z ?_;refine fM Z ?_;refine aL Z Z Z Z Z ?_;refine fM Z ?_;exact zh 7 Z (ih (B++[⟨(i:Int),1,[]⟩]) ⟨by simp;omega,by rw [hinv];simp only [w0b,Wg];rw [w0c hc2]⟩) rfl rfl rfl
   ·have hc2:¬ (js.any fun j=>j.graph==i)=true:=by rw [hf'];rw [show f=false from hc];simp
    refine fR Z ?_;refine aL Z Z Z Z Z ?_;refine fM Z ?_;exact zh 7 Z (ih B ⟨by omega,by rw [hinv];simp only [w0b,Wg];rw [w0d hc2]⟩) rfl rfl rfl
  ·intro k j r' f hk1 hk hkd hf ihk;refine fR Z ?_;refine lM Z Z Z ?_;refine fM Z ?_;refine Run.zj Z Z (by simp;omega) ?_;refine fR Z ?_;refine elG Z Z Z Z hk1 Z Z ?_;refine fM Z ?_;refine aL Z Z Z Z Z ?_;refine fM Z ?_
   exact zh 7 Z (ihk (bif f then true else (j.graph==(i:Int))) (by rw [hf];simp only [w14];cases f<;>simp)) Z Z Z
instance spotDec:DecidableEq ze:=fun a b=>
 if h:a.graph=b.graph/\a.depth=b.depth/\a.Zk=b.Zk then .isTrue (by cases a;cases b;simp at h;simp [h]) else .isFalse (fun e=>h (by rw [e];simp))
end Go.GB.C26
namespace Go.GB.C29
open Go.GB Go.GB.C26
structure z2E (P:Program):Prop where
 p29:YX P
 mixed:P.follows .mixedOrders=true
 i11:z9 P 11=some (n11,c11.bare,r11)
 i15:z9 P 15=some (n15,c15.bare,r15)
 i29:z9 P 29=some (n29,c29.bare,r29)
 i51:z9 P 51=some (n51,c51.bare,r51)
 i53:z9 P 53=some (n53,c53.bare,r53)
variable {P:Program}
theorem zg9 (H:z2E P) (l:List zg) (hl:l.length*160<=140737488355328) (s:Str):z6 P 51 [.t (.lst (l.map zg.enc)),.t (.str s)] ⟨[],0⟩ {v:= .t (.lst ((onF l s).map zg.enc))}:=by
 refine z6.run H.i51 H.mixed Z Z ?_;refine fR Z ?_;refine zu l (fun i (B:List zg)=>{env:=[(0,.t (.lst (l.map zg.enc))),(1,.t (.str s)),(5,.own 0 9 (B.map zg.enc)),(6,.t (.int .i64 i))],s:=⟨[(0,.arr B.length)],1⟩}) (fun r i B=>B=onF (l.take i) s) 0 [] Z Z Z Z Z ?_ ?_
 ·intro B hB;rw [w1f] at hB;refine fR Z ?_;refine lM Z Z Z ?_;refine fM Z ?_;refine Run.zf Z Z (by simp) ?_;refine fR Z ?_;refine Run.fin Z (z4.go ?_);exact .own (by rw [hB])
 ·intro i x r B h1 hi hd hB ih
  have hBl:B.length<=i:=by rw [hB];have:=w1z (fun p:zg=>p.on==s) (l.take i);unfold onF;simp at this;omega
  have hT:=z77 (s:=s) h1;refine fR Z ?_;refine lM Z Z Z ?_;refine fM Z ?_;refine Run.zj Z Z (by simp;omega) ?_;refine fR Z ?_;refine Mid.Z2 (zg.zx x) Z Z Z h1 Z Z ?_;refine fM Z ?_;refine Run.cond Z Z (fun h=>?_) (fun h=>?_)
  ·rw [w0c h] at hT;refine fR Z ?_;refine Mid.Z2 (zg.zx x) Z Z Z h1 Z Z ?_;refine fM Z ?_;refine apM zg.enc B [x] Z (congrArg (fun c=>some (T.lst [c])) (zg.zx x).symm) Z Z Z ?_ (hl:=fun x=>(congrArg List.length (zg.zx x)).trans Z);refine fM Z ?_;refine aL Z Z Z Z Z ?_;refine fM Z ?_;exact zh 1 Z (ih (B++[x]) (by rw [hT,hB])) Z Z Z
  ·rw [w0d (by rw [h];simp),w18] at hT;refine fR Z ?_;refine aL Z Z Z Z Z ?_;refine fM Z ?_;exact zh 1 Z (ih B (by rw [hT,hB])) Z Z Z
theorem z66 (H:z2E P) (s:zH) (hj:s.zr.length<=100000) (g:Int) (t:Str):z6 P 53 [s.v,.t (.int .i64 g),.t (.str t)] ⟨[],0⟩ {v:= .t (.bool (s.zr.any (z0K g t)))}:=by
 refine z6.run H.i53 H.mixed Z Z ?_;refine fR Z ?_;refine zu s.zr (fun i (_:Unit)=>{env:=[(1,.t (.int .i64 g)),(2,.t (.str t)),(3,.ptr 0 0),(7,.t (.int .i64 i))],s:=⟨[(0,.cells [.t (.lst (s.z3.map sE)),.t s.doc,.t (.lst (s.keys.map zA.enc)),.t (.lst (s.zr.map zo.enc))])],1⟩}) (fun r i _=>s.zr.any (z0K g t)=r.any (z0K g t)) 1 () Z Z Z Z Z ?_ ?_
 ·intro _ hinv;refine fR Z ?_;refine lM Z Z Z ?_;refine fM Z ?_;refine Run.zf Z Z (by simp) ?_;refine fR Z ?_;refine Run.fin Z (z4.go ?_);exact .t (by rw [hinv];rfl)
 ·intro i j r _ h1 hi hd hinv ih;refine fR Z ?_;refine lM Z Z Z ?_;refine fM Z ?_;refine Run.zj Z Z (by simp;omega) ?_;refine fR Z ?_;refine Mid.za Z Z Z h1 Z Z ?_;refine fM Z ?_;refine elG Z Z Z Z h1 Z Z ?_;refine fM Z ?_;refine Run.cond Z Z (fun h=>?_) (fun h=>?_)
  ·have h':z0K g t j=true:=h;refine fR Z ?_;refine Run.fin Z (z4.go ?_);exact .t (by rw [hinv,w14,h'];rfl)
  ·have h':z0K g t j=false:=h;refine fR Z ?_;refine aL Z Z Z Z Z ?_;refine fM Z ?_;exact zh 1 Z (ih () (by rw [hinv,w14,h'];rfl)) Z Z Z
structure zbh (P:Program) (s:zH) (G:List ze->Prop) (Ch:Str->List ze->Str->List ze) (Lv:Str->List ze->Str->Int):Prop where
 ch:∀ty here f,G here->z6 P 52 [s.v,.t (.str ty),.t (.lst (here.map ze.enc)),.t (.str f)] ⟨[],0⟩ {v:= .t (.lst ((Ch ty here f).map ze.enc))}
 lv:∀ty here f,G here->z6 P 33 [s.v,.t (.str ty),.t (.lst (here.map ze.enc)),.t (.str f)] ⟨[],0⟩ {v:= .tup [.t (.int .i64 (Lv ty here f)),.t (.bool (decide (Lv ty here f>0)))]}
 rt:∀ty,z6 P 28 [s.v,.t (.str ty)] ⟨[],0⟩ {v:= .t (.lst ((yU ty s.zr 0 s.z3.length []).map ze.enc))}
section
variable {s:zH} {ds:List Def} {G:List ze->Prop} {Ch:Str->List ze->Str->List ze} {Lv:Str->List ze->Str->Int}
def zeX (P:Program) (s:zH) (ds:List Def) (G:List ze->Prop) (Ch:Str->List ze->Str->List ze) (k:Nat):Prop:=
 ∀(p:Place) (o:List Place),zgx G p->zg.Zm p.z7<k->(W5 s ds Ch k p o).length<=1000000->
  z6 P 29 [s.v,.own 0 6 ((o++[p]).map Place.enc),.t (.int .i64 (o.length:Nat))] ⟨[(0,.arr (o++[p]).length)],1⟩ {v:= .own 0 6 ((W5 s ds Ch k p o).map Place.enc),ob:=[(0,.arr (W5 s ds Ch k p o).length)],n:=0,rd:=true}
theorem z9R {s:zH} {t:Str} {c:List ze} {m:Nat} {y:ze} (h:c[m]?=some y):yl s t (c.take (m+1))=yl s t (c.take m)++(if s.zr.any (z0K y.graph t)=true then [y] else []):=by
 rw [w11,h];unfold yl;rw [List.filter_append];congr 1;simp only [Option.toList,w20,QV,Bool.not_not,List.filter_nil]
theorem z83 (H:z2E P) (E:Env s ds G Ch) (ER:zbh P s G Ch Lv) (k:Nat) (hrec:zeX P s ds G Ch k):zeX P s ds G Ch (k+1):=by
 intro p o hp hc hl;have hpl:=hp.pl;have hjs:=E.js;rw [Wr] at hl⊢;have hl0:=ym (f:=yc s ds Ch k p o.length) (fun o' x=>qc k p o.length o' x) p.z7 (o++[p]);generalize hfin:p.z7.foldl (yc s ds Ch k p o.length) (o++[p])=fin at hl hl0⊢
 have hol:o.length<=1000000:=by simp at hl0;omega
 have hpe:(o++[p])[o.length]?=some p:=by simp
 refine z6.run H.i29 H.mixed Z Z ?_;refine fR Z ?_;refine Mid.za Z Z Z hpe Z Z ?_;refine fM Z ?_;refine zu p.z7 (fun i (B:List Place)=>{env:=[(1,.own 0 6 (B.map Place.enc)),(2,.t (.int .i64 (o.length:Nat))),(3,.ptr 1 0),(7,.ptr 2 0),(8,.t (.int .i64 i))],s:=⟨[(0,.arr B.length),(1,.cells [.t (.lst (s.z3.map sE)),.t s.doc,.t (.lst (s.keys.map zA.enc)),.t (.lst (s.zr.map zo.enc))]),(2,.cells [.t (.int .i64 p.parent),.t (.str p.hop.on),.t (.str p.hop.key),.t (.str p.ty),.t (.lst (p.zX.map ze.enc)),.t (.lst (p.z7.map zg.enc))])],3⟩}) (fun r i B=>r.foldl (yc s ds Ch k p o.length) B=fin) 3 (o++[p]) Z hfin Z Z Z ?_ ?_
 ·intro B hB;simp only [List.foldl_nil] at hB;subst hB;refine fR Z ?_;refine lM Z Z Z ?_;refine fM Z ?_;refine Run.zf Z Z (by simp) ?_;refine fR Z ?_;refine Run.fin Z (z4.chg Z Z ?_ ?_)
  ·exact .le (.same Z)
  ·exact ⟨.inl ⟨w0x Z,_,rfl,.arr Z⟩,trivial⟩
 ·intro i x r B h1 hi hd hB ih;have hxk:=hp.pk x (zMG h1)
  have hcx:zg.Zm x.z7<k:=by
   have:=z2h (zMG h1);rw [zg.z06] at this;omega
  have hposs:z6 P 50 [.agg [.t s.doc],.t (.str x.ty.name)] ⟨[],0⟩ {v:= .t (.lst ((C11.Y3 ds x.ty.name).map Go.GB.sE))}:=by
   rw [E.doc];exact C11.qg H.p29.p11 ds E.z6T x.ty.name
  simp only [w1t] at hB;have hgr:=ym (f:=yc s ds Ch k p o.length) (fun o' x=>qc k p o.length o' x) r (yc s ds Ch k p o.length B x);rw [hB] at hgr;generalize hX:yc s ds Ch k p o.length B x=X at hB hgr;unfold yc at hX;have hts:=qO ds x.ty.name;have hdl0:=E.z6T.l;generalize C11.Y3 ds x.ty.name=ts at hposs hX hts;refine fR Z ?_;refine lM Z Z Z ?_;refine fM Z ?_;refine Run.zj Z Z (by simp;omega) ?_;refine fR Z ?_;refine Mid.Z2 (zg.zx x) Z Z Z h1 Z Z ?_;refine fM Z ?_;refine Mid.call (hposs) Z Z Z Z ?_;refine fM Z ?_;refine zu ts (fun j (C:List Place)=>{env:=[(1,.own 0 6 (C.map Place.enc)),(2,.t (.int .i64 (o.length:Nat))),(3,.ptr 1 0),(7,.ptr 2 0),(8,.t (.int .i64 i)),(9,.ptr 3 0),(10,.t (.lst (ts.map Go.GB.sE))),(11,.t (.int .i64 j))],s:=⟨[(0,.arr C.length),(1,.cells [.t (.lst (s.z3.map sE)),.t s.doc,.t (.lst (s.keys.map zA.enc)),.t (.lst (s.zr.map zo.enc))]),(2,.cells [.t (.int .i64 p.parent),.t (.str p.hop.on),.t (.str p.hop.key),.t (.str p.ty),.t (.lst (p.zX.map ze.enc)),.t (.lst (p.z7.map zg.enc))]),(3,(XBo x))],4⟩}) (fun r j C=>r.foldl (stepT s ds Ch k p o.length x) C=X) 4 B Z hX Z Z Z ?_ ?_
  ·intro C hC;simp only [List.foldl_nil] at hC;subst hC;refine fR Z ?_;refine lM Z Z Z ?_;refine fM Z ?_;refine Run.zf Z Z (by simp) ?_;refine fR Z ?_;refine aL Z Z Z Z Z ?_;refine fM Z ?_;exact zh 3 Z (ih C hB) Z Z Z
  ·intro j t r2 C k1 hj kd hC ih2;simp only [w1t] at hC;have hgr2:=ym (f:=stepT s ds Ch k p o.length x) (fun o' t=>z09 k p o.length x o' t) r2 (stepT s ds Ch k p o.length x C t);rw [hC] at hgr2;have hof:=zg9 H x.z7 hxk.pl t;refine fR Z ?_;refine lM Z Z Z ?_;refine fM Z ?_;refine Run.zj Z Z (by simp;omega) ?_;refine fR Z ?_;refine Mid.za Z Z Z k1 Z Z ?_;refine fM Z ?_;refine Mid.call (hof) Z Z Z Z ?_;refine fM Z ?_;refine lM Z Z Z ?_;refine fM Z ?_;by_cases hemp:(onF x.z7 t).isEmpty=true
   ·rw [show stepT s ds Ch k p o.length x C t=C from w0c hemp] at hC;refine Run.zj Z Z (by simpa [List.isEmpty_iff] using hemp) ?_;refine fR Z ?_;refine aL Z Z Z Z Z ?_;refine fM Z ?_;exact zh 4 Z (ih2 C hC) Z Z Z
   ·rw [show stepT s ds Ch k p o.length x C t=W5 s ds Ch k ⟨o.length,⟨p.ty,x.key⟩,t,yl s t (Ch p.ty p.zX x.name),onF x.z7 t⟩ C from w0d hemp] at hC hgr2;refine Run.zf Z Z (by simpa [List.isEmpty_iff] using hemp) ?_;have hc1:=ER.ch p.ty p.zX x.name hp.g;have hcl:=E.len p.ty p.zX x.name hp.g;have hG:=E.cl p.ty p.zX x.name t hp.g;have hgrC:=Qv (s:=s) (ds:=ds) (Ch:=Ch) k ⟨o.length,⟨p.ty,x.key⟩,t,yl s t (Ch p.ty p.zX x.name),onF x.z7 t⟩ C
    have hadd:=hrec ⟨o.length,⟨p.ty,x.key⟩,t,yl s t (Ch p.ty p.zX x.name),onF x.z7 t⟩ C ⟨fun y hy=>hxk.p y (z4X hy),by have:=z62 x.z7 t;have:=hxk.pl;dsimp only;omega,hG⟩ (by dsimp only;have:=Q6 (fun p=>p.on==t) x.z7;unfold onF;omega) (by omega)
    generalize W5 s ds Ch k ⟨o.length,⟨p.ty,x.key⟩,t,yl s t (Ch p.ty p.zX x.name),onF x.z7 t⟩ C=C2 at hadd hC hgr2 hgrC;generalize Ch p.ty p.zX x.name=c at hc1 hcl hadd;generalize onF x.z7 t=pk at hadd;refine fR Z ?_;refine Mid.za Z Z Z k1 Z Z ?_;refine fM Z ?_;refine Mid.call (hc1) Z Z Z Z ?_;refine fM Z ?_;refine zu c (fun m (D:List ze)=>{env:=[(1,.own 0 6 (C.map Place.enc)),(2,.t (.int .i64 (o.length:Nat))),(3,.ptr 1 0),(7,.ptr 2 0),(8,.t (.int .i64 i)),(9,.ptr 3 0),(10,.t (.lst (ts.map Go.GB.sE))),(11,.t (.int .i64 j)),(13,.ptr 4 0),(14,.t (.lst (c.map ze.enc))),(15,.t (.int .i64 m))],s:=⟨[(0,.arr C.length),(1,.cells [.t (.lst (s.z3.map sE)),.t s.doc,.t (.lst (s.keys.map zA.enc)),.t (.lst (s.zr.map zo.enc))]),(2,.cells [.t (.int .i64 p.parent),.t (.str p.hop.on),.t (.str p.hop.key),.t (.str p.ty),.t (.lst (p.zX.map ze.enc)),.t (.lst (p.z7.map zg.enc))]),(3,(XBo x)),(4,.cells [.t (.int .i64 (o.length:Nat)),.t (.str p.ty),.t (.str x.key),.t (.str t),.own 5 3 (D.map ze.enc),.t (.lst (pk.map zg.enc))]),(5,.arr D.length)],6⟩}) (fun r m D=>D=yl s t (c.take m)) 5 [] Z Z Z Z Z ?_ ?_
    ·intro D hD;rw [w1f] at hD;subst hD
     have hCl:C.length<=1000000:=by omega
     refine fR Z ?_;refine lM Z Z Z ?_;refine fM Z ?_;refine Run.zf Z Z (by simp) ?_;refine fR Z ?_;refine apM Place.enc C [(⟨(o.length:Nat),⟨p.ty,x.key⟩,t,yl s t c,pk⟩:Place)] Z Z Z Z Z ?_ (h1:=by first |omega|(simp;omega)|(simp;done)) (h2:=by first |omega|(simp;omega)|(simp;done));refine fM rfl ?_;refine lM rfl rfl rfl ?_;refine p0 rfl ?_
     have hsub:(((C++[(⟨(o.length:Nat),⟨p.ty,x.key⟩,t,yl s t c,pk⟩:Place)]).length:Nat):Int) - 1=(C.length:Nat):=by simp
     rw [hsub,wrap64 (x:=((C.length:Nat):Int)) (by omega) (by omega)]
     refine Mid.z4b [0] (hadd) Z Z Z Z (by simp [zP];simp [z5.bd,V.bds,V.bd]) (by repeat' (first |exact trivial|exact rfl|refine And.intro ?_ ?_|exact (congrArg some (z5.zD _ _ _ _ _ _)).symm|exact (congrArg some (z5.zE _ _ _)).symm|(refine (congrArg some (z5.zW ?_ _ _)).symm;intro _;rfl))) Z Z (ob':=[(0,.arr C2.length)]) (rfl) Z Z ?_
     refine fM Z ?_;refine aL Z Z Z Z Z ?_;refine fM Z ?_;exact zh 4 Z (ih2 C2 hC) Z Z Z
    ·intro m y r3 D m1 hm md hD ih3
     have hDl:D.length<=m:=by rw [hD];have:=w1z (fun y=>!QV s t y) (c.take m);unfold yl;simp at this;omega
     have hT:=z9R (s:=s) (t:=t) m1;refine fR Z ?_;refine lM Z Z Z ?_;refine fM Z ?_;refine Run.zj Z Z (by simp;omega) ?_;refine fR Z ?_;refine Mid.za Z Z Z m1 Z Z ?_;refine fM Z ?_;refine Mid.za Z Z Z k1 Z Z ?_;refine fM Z ?_;refine Mid.call (z66 H s hjs y.graph t) Z Z Z Z ?_;refine fM Z ?_;refine Run.cond Z Z (fun h4=>?_) (fun h4=>?_)
     ·rw [w0c h4] at hT;refine fR Z ?_;refine Mid.za Z Z Z m1 Z Z ?_;refine fM Z ?_;refine apM ze.enc D [y] Z Z Z Z Z ?_ (h1:=by first |omega|(simp;omega)|(simp;done)) (h2:=by first |omega|(simp;omega)|(simp;done));refine fM rfl ?_;refine aL rfl rfl rfl rfl rfl ?_;refine fM rfl ?_;exact zh 6 rfl (ih3 (D++[y]) (by rw [hT,hD])) rfl rfl rfl
     ·rw [w0d (by rw [h4];simp),w18] at hT;refine fR Z ?_;refine aL Z Z Z Z Z ?_;refine fM Z ?_;exact zh 6 Z (ih3 D (by rw [hT,hD])) Z Z Z
theorem z7d (H:z2E P) (E:Env s ds G Ch) (ER:zbh P s G Ch Lv):∀k,zeX P s ds G Ch k
 |0=>fun p o _ h=>absurd h (Nat.not_lt_zero _)
 |k+1=>z83 H E ER k (z7d H E ER k)
theorem z2g (H:z2E P) (E:Env s ds G Ch) (ER:zbh P s G Ch Lv) (kind:Int) (z7:List zg) (hp:z7.length*160<=140737488355328) (ho:∀x,x∈z7->x.Ok) (hg:G (Y5 s kind z7).zX) (hl:(ZQ s ds Ch kind z7).length<=1000000):z6 P 11 [s.v,.agg [.t (.int .i64 kind),.t (.lst (z7.map zg.enc))]] ⟨[],0⟩ {v:= .t (.lst ((ZQ s ds Ch kind z7).map Place.enc))}:=by
 have hadd:=z7d H E ER (zg.Zm z7+1) (Y5 s kind z7) [] ⟨ho,hp,hg⟩ (w2r _) hl;have hroots:=ER.rt (yV kind);unfold ZQ at hl⊢;generalize W5 s ds Ch (zg.Zm z7+1) (Y5 s kind z7) []=res at hadd⊢;unfold Y5 at hadd;generalize yU (yV kind) s.zr 0 s.z3.length []=rt at hadd hroots;generalize hrf:yV kind=rf at hadd hroots;have hro:=z6F H.p29 kind;rw [hrf] at hro;refine z6.run H.i11 H.mixed Z Z ?_;refine fR Z ?_;refine Mid.call (hro) Z Z Z Z ?_;refine fM Z ?_;refine Mid.call (hroots) Z Z Z Z ?_;refine fM Z ?_
 refine Mid.z4b [2] (hadd) Z Z Z Z (by simp [zP];simp [z5.bd,V.bds,V.bd]) (by repeat' (first |exact trivial|exact rfl|refine And.intro ?_ ?_|exact (congrArg some (z5.zD _ _ _ _ _ _)).symm|exact (congrArg some (z5.zE _ _ _)).symm|(refine (congrArg some (z5.zW ?_ _ _)).symm;intro _;rfl))) Z Z (ob':=[(2,.arr res.length)]) (rfl) Z Z ?_
 refine fM Z ?_;refine Run.fin Z (z4.go ?_);exact .own Z
theorem zb0 (H:z2E P) (E:Env s ds G Ch) (ER:zbh P s G Ch Lv) (kind:Int) (z7:List zg) (hp:z7.length*160<=140737488355328) (ho:∀x,x∈z7->x.Ok) (hg:G (Y5 s kind z7).zX) (hl:(ZQ s ds Ch kind z7).length<=1000000) (hpl:∀p,p∈ZQ s ds Ch kind z7->G p.zX/\p.z7.length<=140737488355328):z6 P 15 [s.v,.agg [.t (.int .i64 kind),.t (.lst (z7.map zg.enc))]] ⟨[],0⟩ {v:=zfs (z05 Lv (ZQ s ds Ch kind z7) 0)}:=by
 have hpp:=z2g H E ER kind z7 hp ho hg hl;generalize ZQ s ds Ch kind z7=l at hpp hl hpl⊢;generalize hR:z05 Lv l 0=R;refine z6.run H.i15 H.mixed Z Z ?_;refine fR Z ?_;refine Mid.call (hpp) Z Z Z Z ?_;refine fM Z ?_;refine zu l (fun i (m:Int)=>{env:=[(2,.ptr 0 0),(6,.t (.lst (l.map Place.enc))),(7,.t (.int .i64 m)),(8,.t (.int .i64 i))],s:=⟨[(0,.cells [.t (.lst (s.z3.map sE)),.t s.doc,.t (.lst (s.keys.map zA.enc)),.t (.lst (s.zr.map zo.enc))])],1⟩}) (fun r i m=>z05 Lv r m=R) 1 0 Z hR Z Z Z ?_ ?_
 ·intro m hm;simp only [z05] at hm;subst hm;refine fR Z ?_;refine lM Z Z Z ?_;refine fM Z ?_;refine Run.zf Z Z (by simp) ?_;refine fR Z ?_;refine Run.fin Z (z4.go ?_);exact .wx (.t Z) (.t Z)
 ·intro i p r m h1 hi hd hm ih;obtain ⟨hpg,hpk⟩:=hpl p (zMG h1);simp only [z05] at hm;refine fR Z ?_;refine lM Z Z Z ?_;refine fM Z ?_;refine Run.zj Z Z (by simp;omega) ?_;refine fR Z ?_
  refine zu p.z7 (fun j (c:Int)=>{env:=[(2,.ptr 0 0),(6,.t (.lst (l.map Place.enc))),(7,.t (.int .i64 c)),(8,.t (.int .i64 i)),(9,.t (.int .i64 j))],s:=⟨[(0,.cells [.t (.lst (s.z3.map sE)),.t s.doc,.t (.lst (s.keys.map zA.enc)),.t (.lst (s.zr.map zo.enc))])],1⟩}) (fun r2 j c=>(match z6n Lv p.ty p.zX r2 c with|some m'=>z05 Lv r m'|none=>none)=R) 1 m Z hm Z Z Z ?_ ?_
  ·intro c hc;simp only [z6n] at hc;refine fR Z ?_;refine Mid.za Z Z Z h1 Z Z ?_;refine fM Z ?_;refine lM Z Z Z ?_;refine fM Z ?_;refine Run.zf Z Z (by simp) ?_;refine fR Z ?_;refine aL Z Z Z Z Z ?_;refine fM Z ?_;exact zh 1 Z (ih c hc) Z Z Z
  ·intro j x r2 c k1 hj kd hc ih2;have hget:=ER.lv p.ty p.zX x.name hpg;simp only [z6n] at hc;refine fR Z ?_;refine Mid.za Z Z Z h1 Z Z ?_;refine fM Z ?_;refine lM Z Z Z ?_;refine fM Z ?_;refine Run.zj Z Z (by simp;omega) ?_;refine fR Z ?_;refine Mid.za Z Z Z h1 Z Z ?_;refine fM Z ?_;refine Mid.za Z Z Z h1 Z Z ?_;refine fM Z ?_;refine Mid.za Z Z Z h1 Z Z ?_;refine fM Z ?_;refine Mid.Z2 (zg.zx x) Z Z Z k1 Z Z ?_;refine fM Z ?_;refine Mid.call (hget) Z Z Z Z ?_;refine fM Z ?_;by_cases hpos:Lv p.ty p.zX x.name>0
   ·rw [w0c hpos] at hc;refine Run.zf Z Z (by simpa using hpos) ?_;refine fR Z ?_;refine Run.cond Z Z (fun h5=>?_) (fun h5=>?_)
    ·have h5':Lv p.ty p.zX x.name>c:=zDT h5;rw [w0c h5'] at hc;refine fR Z ?_;refine aL Z Z Z Z Z ?_;refine fM Z ?_;exact zh 1 Z (ih2 _ hc) Z Z Z
    ·have h5':¬ Lv p.ty p.zX x.name>c:=of_decide_eq_false h5;rw [w0d h5'] at hc;refine fR Z ?_;refine aL Z Z Z Z Z ?_;refine fM Z ?_;exact zh 1 Z (ih2 _ hc) Z Z Z
   ·rw [w0d hpos] at hc;subst hc;refine Run.zj Z Z (by simpa using hpos) ?_;refine fR Z ?_;refine Run.fin Z (z4.go ?_);exact .wx (.t Z) (.t Z)
end
end Go.GB.C29
namespace Go.GB.C11
open Go.GB
variable {P:Program}
def nnF:List Int->Bool
 |[]=>false
 |w::_=>w==1
def ZD:List Int->List Int
 |[]=>[]
 |w::r=>if (w==1)=true then r else w::r
def zcf:List Int->Bool
 |[]=>false
 |w::_=>w==2
def Wt (w:List Int):Bool:=zcf (ZD w)
theorem WK (w:List Int):(ZD w).length<=w.length:=by
 cases w with
 |nil=>simp [ZD]
 |cons a r=>simp only [ZD];split<;>simp
theorem z2K {w:List Int} (h:nnF w=true):ZD w=w.tail:=by
 cases w with
 |nil=>cases h
 |cons a r=>simp only [nnF] at h;simp only [ZD];rw [w0c h];rfl
theorem zdw {w:List Int} (h:¬ nnF w=true):ZD w=w:=by
 cases w with
 |nil=>rfl
 |cons a r=>simp only [nnF] at h;simp only [ZD];rw [w0d h]
theorem z92 (f:FuncId) (hi:z9 P f=some (n129,c129.bare,r129)) (hm:P.follows .mixedOrders=true) (t:Ref) (ht:t.Ok):z6 P f [t.v] ⟨[],0⟩ {v:= .t (.bool (nnF t.zw))}:=by
 have hl:=ht.l;obtain ⟨n,w⟩:=t;refine z6.run hi hm Z Z ?_
 cases w with
 |nil=>
  refine fR Z ?_;refine lM Z Z Z ?_;refine fM Z ?_;refine Mid.Wi Z Z Z Z Z ?_;refine Mid.Wi Z Z Z Z Z ?_;refine Mid.Wi Z Z Z Z Z ?_;refine fM Z ?_;refine Run.fin Z (z4.go ?_);exact .t Z
 |cons a r=>
  refine fR Z ?_;refine lM Z Z Z ?_;refine fM Z ?_;refine gr Z ?_;refine fM Z ?_;refine Run.fin Z (z4.go ?_);exact .t (by simp [nnF])
theorem z6m (H:Pr P) (t:Ref) (ht:t.Ok):z6 P 129 [t.v] ⟨[],0⟩ {v:= .t (.bool (nnF t.zw))}:=z92 129 H.i129 H.mixed t ht
theorem z37 (H:Pr P) (t:Ref) (ht:t.Ok):z6 P 129 [t.v] ⟨[],0⟩ {v:= .t (.bool (nnF t.zw))}:=z92 129 H.i129 H.mixed t ht
theorem z8k {t:Ref} (ht:t.Ok):(⟨t.name,ZD t.zw⟩:Ref).Ok:=⟨by have:=WK t.zw;have:=ht.l;show (ZD t.zw).length*8<=_;omega,ht.nm⟩
theorem zcj (H:Pr P) (n:Str) (a:Int) (r:List Int) (hl:r.length*8<=140737488355320):z6 P 139 [(⟨n,a::r⟩:Ref).v] ⟨[],0⟩ {v:=(⟨n,r⟩:Ref).v}:=by
 refine z6.run H.i139 H.mixed Z Z ?_;refine fR Z ?_;refine lF1 Z Z Z Z ?_;refine apN nE r Z Z Z ?_ (h1:=by omega) (h2:=by omega);refine fM rfl ?_;refine Run.fin rfl (z4.go ?_);exact .agg (.cons (.t rfl) (.cons (.own rfl) .nil))
theorem YK (H:Pr P) (t:Ref) (ht:t.Ok):z6 P 126 [t.v] ⟨[],0⟩ {v:=(⟨t.name,ZD t.zw⟩:Ref).v}:=by
 have hl:=ht.l;have hn:=z37 H t ht;obtain ⟨n,w⟩:=t;refine z6.run H.i126 H.mixed Z Z ?_;refine fR Z ?_;refine Mid.call (hn) Z Z Z Z ?_;refine fM Z ?_;refine Run.cond Z Z (fun h=>?_) (fun h=>?_)
 ·have h':nnF w=true:=h
  cases w with
  |nil=>cases h'
  |cons a r=>
   have e:ZD (a::r)=r:=z2K h';refine fR Z ?_;refine Mid.call (zcj H n a r (by simp at hl;omega)) Z Z Z Z ?_;refine fM Z ?_;refine Run.fin Z (z4.go ?_);exact .agg (.cons (.t Z) (.cons (.t (by rw [e])) .nil))
 ·have h':¬ nnF w=true:=by rw [show nnF w=false from h];simp
  refine fR Z ?_;refine apN nE w Z Z Z ?_ (h1:=hl) (h2:=by simp at hl;omega);refine fM rfl ?_;refine Run.fin rfl (z4.go ?_);exact .agg (.cons (.t rfl) (.cons (.own (by rw [zdw h'])) .nil))
end Go.GB.C11
namespace Go.GB.C11
open Go.GB
variable {P:Program}
theorem z0c (H:Pr P) (t:Ref) (ht:t.Ok):z6 P 98 [t.v] ⟨[],0⟩ {v:= .t (.bool (Wt t.zw))}:=by
 have hn:=YK H t ht;unfold Wt;generalize ZD t.zw=N at hn;refine z6.run H.i98 H.mixed Z Z ?_;refine fR Z ?_;refine Mid.call (hn) Z Z Z Z ?_;refine fM Z ?_;refine lM Z Z Z ?_;refine fM Z ?_
 cases N with
 |nil=>
  refine Mid.Wi Z Z Z Z Z ?_;refine Mid.Wi Z Z Z Z Z ?_;refine Mid.Wi Z Z Z Z Z ?_;refine fM Z ?_;refine Run.fin Z (z4.go ?_);exact .t Z
 |cons a r=>
  refine gr Z ?_;refine fM Z ?_;refine Run.fin Z (z4.go ?_);exact .t (by simp [zcf])
theorem z7v {w:List Int} (h:Wt w=true):∃r,ZD w=2::r:=by
 unfold Wt at h
 cases hn:ZD w with
 |nil=>rw [hn] at h;cases h
 |cons a r=>rw [hn] at h;simp [zcf] at h;subst h;exact ⟨r,rfl⟩
theorem qe (H:Pr P) (t:Ref) (ht:t.Ok) (h:Wt t.zw=true):z6 P 142 [t.v] ⟨[],0⟩ {v:= .tup [(⟨t.name,(ZD t.zw).tail⟩:Ref).v,.t (.bool true)]}:=by
 have hn:=YK H t ht;have hi:=z0c H t ht;rw [h] at hi;obtain ⟨r,hr⟩:=z7v h;have hlen:=WK t.zw;have hl:=ht.l;rw [hr] at hn hlen⊢;refine z6.run H.i142 H.mixed Z Z ?_;refine fR Z ?_;refine Mid.call (hi) Z Z Z Z ?_;refine fM Z ?_;refine Run.zf Z Z Z ?_;refine fR Z ?_;refine Mid.call (hn) Z Z Z Z ?_;skip;refine Mid.call (zcj H t.name 2 r (by simp at hlen;omega)) Z Z Z Z ?_;refine fM Z ?_;refine Run.fin Z (z4.go ?_);exact .wx (.agg (.cons (.t Z) (.cons (.t Z) .nil))) (.t Z)
theorem WY (H:Pr P) (t:Ref) (ht:t.Ok) (h:Wt t.zw=false):z6 P 142 [t.v] ⟨[],0⟩ {v:= .tup [(⟨[],[]⟩:Ref).v,.t (.bool false)]}:=by
 have hi:=z0c H t ht;rw [h] at hi;refine z6.run H.i142 H.mixed Z Z ?_;refine fR Z ?_;refine Mid.call (hi) Z Z Z Z ?_;refine fM Z ?_;refine Run.zj Z Z Z ?_;refine fR Z ?_;refine Run.fin Z (z4.go ?_);exact .wx (.agg (.cons (.t Z) (.cons (.nil Z) .nil))) (.t Z)
def isF (ds:List Def) (o n:Str):Bool:=decide (o∈Y3 ds n)
theorem Q5 (t:Def) (nm:Str):∀(r pre:List Def),(YU t nm pre r).length<=r.length
 |[],pre=>by simp [YU]
 |o::r,pre=>by
  have:=Q5 t nm r (pre++[o]);simp only [YU]
  split<;>simp<;>omega
theorem qO (ds:List Def) (nm:Str):(Y3 ds nm).length<=ds.length:=by
 rw [z9p];exact Q5 _ nm ds []
theorem zfu (H:Pr P) (ds:List Def) (hD:Z6 ds) (o n:Str):z6 P 143 [yT ds,.t (.str o),.t (.str n)] ⟨[],0⟩ {v:= .t (.bool (isF ds o n))}:=by
 have hl:=qO ds n;have:=hD.l;refine z6.run H.i143 H.mixed Z Z ?_;refine fR Z ?_;refine Mid.call (qg H ds hD n) Z Z Z Z ?_;refine fM Z ?_;refine Mid.call (z5g H (Y3 ds n) (by omega) o) Z Z Z Z ?_;refine fM Z ?_;refine Run.fin Z (z4.go ?_);exact .t Z
def z0h (bas:Bool):Nat->List Int->List Int->Bool
 |0,_,_=>false
 |k+1,a,b=>
  if nnF b=true then nnF a&&z0h bas k (ZD a) (ZD b)
  else if nnF a=true then z0h bas k (ZD a) b
  else if (Wt a||Wt b)=true then Wt a&&Wt b&&z0h bas k (ZD a).tail (ZD b).tail
  else bas
def z5O (ds:List Def) (a b:Str):Bool:=a==b||isF ds a b
def z7A (P:Program) (f:Nat) (ds:List Def) (k:Nat) (a b:Ref):Prop:=z6 P f [yT ds,a.v,b.v] ⟨[],0⟩ {v:= .t (.bool (z0h (z5O ds a.name b.name) k a.zw b.zw))}
theorem z5L {t:Ref} (ht:t.Ok):(⟨t.name,(ZD t.zw).tail⟩:Ref).Ok:=⟨by
 have:=WK t.zw;have:=ht.l;show (ZD t.zw).tail.length*8<=_
 rw [List.length_tail];omega,ht.nm⟩
end Go.GB.C11
namespace Go.GB.C11
open Go.GB
variable {P:Program}
theorem za3 (H:Pr P) (ds:List Def) (hD:Z6 ds) (k:Nat) (a b:Ref) (ha:a.Ok) (hb:b.Ok)
  (hrec:∀x y:Ref,x.Ok->y.Ok->x.zw.length+y.zw.length<a.zw.length+b.zw.length->z7A P 136 ds k x y):z7A P 136 ds (k+1) a b:=by
 unfold z7A;refine z6.run H.i136 H.mixed Z Z ?_;refine fR Z ?_;refine Mid.call (z37 H b hb) Z Z Z Z ?_;refine fM Z ?_;refine Run.cond Z Z (fun h1=>?_) (fun h1=>?_)
 ·have h1':nnF b.zw=true:=h1
  have e:z0h (z5O ds a.name b.name) (k+1) a.zw b.zw=(nnF a.zw&&z0h (z5O ds a.name b.name) k (ZD a.zw) (ZD b.zw)):=by simp only [z0h];rw [w0c h1']
  have hc:=hrec ⟨a.name,ZD a.zw⟩ ⟨b.name,ZD b.zw⟩ (z8k ha) (z8k hb) (by
   have:=WK a.zw;have h2:=z2K h1'
   cases hw:b.zw with
   |nil=>rw [hw] at h1';cases h1'
   |cons c r=>rw [hw] at h2;simp only [h2];simp;omega)
  unfold z7A at hc;refine fR Z ?_;refine Mid.call (z37 H a ha) Z Z Z Z ?_;refine fM Z ?_;refine caG Z Z (fun hg=>⟨_,rfl,YK H a ha,rfl⟩) Z Z ?_;refine fM Z ?_;refine caG Z Z (fun hg=>⟨_,rfl,YK H b hb,rfl⟩) Z Z ?_;skip;refine caG Z Z (fun hg=>⟨_,rfl,hc,rfl⟩) Z Z ?_;refine fM Z ?_;refine Run.fin Z (z4.go ?_);exact .t (by rw [e])
 ·have h1':¬ nnF b.zw=true:=by rw [show nnF b.zw=false from h1];simp
  refine fR Z ?_;refine Mid.call (z37 H a ha) Z Z Z Z ?_;refine fM Z ?_;refine Run.cond Z Z (fun h2=>?_) (fun h2=>?_)
  ·have h2':nnF a.zw=true:=h2
   have e:z0h (z5O ds a.name b.name) (k+1) a.zw b.zw=z0h (z5O ds a.name b.name) k (ZD a.zw) b.zw:=by simp only [z0h];rw [w0d h1',w0c h2']
   have hc:=hrec ⟨a.name,ZD a.zw⟩ b (z8k ha) hb (by
    have h2:=z2K h2'
    cases hw:a.zw with
    |nil=>rw [hw] at h2';cases h2'
    |cons c r=>rw [hw] at h2;simp only [h2];simp)
   unfold z7A at hc;refine fR Z ?_;refine Mid.call (YK H a ha) Z Z Z Z ?_;refine fM Z ?_;refine Mid.call (hc) Z Z Z Z ?_;refine fM Z ?_;refine Run.fin Z (z4.go ?_);exact .t (by rw [e])
  ·have h2':¬ nnF a.zw=true:=by rw [show nnF a.zw=false from h2];simp
   have e:z0h (z5O ds a.name b.name) (k+1) a.zw b.zw=if (Wt a.zw||Wt b.zw)=true then Wt a.zw&&Wt b.zw&&z0h (z5O ds a.name b.name) k (ZD a.zw).tail (ZD b.zw).tail else z5O ds a.name b.name:=by simp only [z0h];rw [w0d h1',w0d h2']
   refine fR Z ?_
   cases hla:Wt a.zw with
   |true=>
    refine Mid.call (qe H a ha hla) Z Z Z Z ?_;refine fM Z ?_
    cases hlb:Wt b.zw with
    |true=>
     have hc:=hrec ⟨a.name,(ZD a.zw).tail⟩ ⟨b.name,(ZD b.zw).tail⟩ (z5L ha) (z5L hb) (by
      have h3:=WK a.zw;have h4:=WK b.zw;obtain ⟨r,hr⟩:=z7v hla;rw [hr] at h3;simp only [List.length_tail,hr]
      simp at h3⊢;omega)
     unfold z7A at hc;rw [hla,hlb] at e;refine Mid.call (qe H b hb hlb) Z Z Z Z ?_;refine fM Z ?_;refine Run.zj Z Z Z ?_;refine fR Z ?_;refine Mid.call (hc) Z Z Z Z ?_;refine fM Z ?_;refine Run.fin Z (z4.go ?_);exact .t (by rw [e];rfl)
    |false=>
     rw [hla,hlb] at e;refine Mid.call (WY H b hb hlb) Z Z Z Z ?_;refine fM Z ?_;refine Run.zf Z Z Z ?_;refine fR Z ?_;refine Mid.Wi Z Z Z Z Z ?_;refine fM Z ?_;refine Run.fin Z (z4.go ?_);exact .t (by rw [e];rfl)
   |false=>
    refine Mid.call (WY H a ha hla) Z Z Z Z ?_;refine fM Z ?_
    cases hlb:Wt b.zw with
    |true=>
     rw [hla,hlb] at e;refine Mid.call (qe H b hb hlb) Z Z Z Z ?_;refine fM Z ?_;refine Run.zf Z Z Z ?_;refine fR Z ?_;refine Mid.Wi Z Z Z Z Z ?_;refine fM Z ?_;refine Run.fin Z (z4.go ?_);exact .t (by rw [e];rfl)
    |false=>
     rw [hla,hlb] at e;refine Mid.call (WY H b hb hlb) Z Z Z Z ?_;refine fM Z ?_;refine Run.zf Z Z Z ?_;refine fR Z ?_;refine caG Z Z (fun hg=>⟨_,rfl,zfu H ds hD a.name b.name,rfl⟩) Z Z ?_;refine fM Z ?_;refine Run.fin Z (z4.go ?_);exact .t (by rw [e];rfl)
theorem z9k (H:Pr P) (ds:List Def) (hD:Z6 ds):∀(k:Nat) (a b:Ref),a.zw.length+b.zw.length<k->a.Ok->b.Ok->z7A P 136 ds k a b
 |0,a,b,h,_,_=>by omega
 |k+1,a,b,h,ha,hb=>za3 H ds hD k a b ha hb fun x y hx hy hlt=>z9k H ds hD k x y (by omega) hx hy
end Go.GB.C11
namespace Go.GB.C11
open Go.GB
variable {P:Program}
theorem Qc {α:Type} {l:List α} {i:Nat} {y:α} (h:l[i]?=some y):l.drop i=y::l.drop (i+1):=by
 obtain ⟨hi,hy⟩:=w02.1 h;rw [w1k hi,hy]
theorem z9K {α β:Type} {a:List α} {b:List β} (h:a.length=b.length) {i:Nat} (hi:i<a.length):∃y,b[i]?=some y:=⟨b[i]'(by omega),by simp [show i<b.length by omega]⟩
theorem zdC (H:Pr P) (a b:List Int) (ha:a.length<=140737488355328) (hb:b.length<=140737488355328):z6 P 54 [.t (.lst (a.map nE)),.t (.lst (b.map nE))] ⟨[],0⟩ {v:= .t (.bool (decide (a=b)))}:=by
 refine z6.run H.i54 H.mixed Z Z ?_;refine fR Z ?_;refine lM Z Z Z ?_;refine fM Z ?_;refine lM Z Z Z ?_;refine fM Z ?_;refine Run.cond Z Z (fun h=>?_) (fun h=>?_)
 ·have h':¬ a.length=b.length:=by simp at h;omega
  refine fR Z ?_;refine Run.fin Z (z4.go ?_);exact .t (by simp;intro e;exact h' (by rw [e]))
 ·have h':a.length=b.length:=by simp at h;omega
  refine fR Z ?_;refine zu a (fun i (_:Unit)=>{env:=[(0,.t (.lst (a.map nE))),(1,.t (.lst (b.map nE))),(5,.t (.int .i64 i))],s:=⟨[],0⟩}) (fun r i _=>decide (a=b)=decide (r=b.drop i)) 0 () Z (by simp) Z Z Z ?_ ?_
  ·intro _ hinv;refine fR Z ?_;refine lM Z Z Z ?_;refine fM Z ?_;refine Run.zf Z Z (by simp) ?_;refine fR Z ?_;refine Run.fin Z (z4.go ?_);exact .t (by rw [hinv,h'];simp)
  ·intro i x r _ h1 hi hd hinv ih;obtain ⟨y,hy⟩:=z9K h' hi;have hinv':decide (a=b)=decide (x::r=b.drop i):=hinv;rw [Qc hy] at hinv';refine fR Z ?_;refine lM Z Z Z ?_;refine fM Z ?_;refine Run.zj Z Z (by simp;omega) ?_;refine fR Z ?_;refine Mid.za Z Z Z h1 Z Z ?_;refine fM Z ?_;refine Mid.za Z Z Z hy Z Z ?_;refine fM Z ?_;refine Run.cond Z Z (fun hc=>?_) (fun hc=>?_)
   ·have hc':¬ x=y:=by simpa using hc
    refine fR Z ?_;refine Run.fin Z (z4.go ?_);exact .t (by rw [hinv'];simp [hc'])
   ·have hc':x=y:=by simpa using hc
    refine fR Z ?_;refine aL Z Z Z Z Z ?_;refine fM Z ?_;exact zh 0 Z (ih () (by rw [hinv'];simp [hc'])) Z Z Z
structure zn where
 err:Int
 at_:Str
instance:DecidableEq zn:=fun a b=>decidable_of_iff (a.err=b.err/\a.at_=b.at_) (by cases a;cases b;simp)
def zn.enc (f:zn):List T:=[.int .i64 f.err,.str f.at_]
end Go.GB.C11
namespace Go.GB.C11
open Go.GB
variable {P:Program}
def qw (n:Str):Bool:=n==[73,110,116]||n==[83,116,114,105,110,103]||n==[66,111,111,108,101,97,110]||n==[73,68]
theorem YZ (H:Pr P) (n:Str):z6 P 116 [.t (.str n)] ⟨[],0⟩ {v:= .t (.bool (qw n))}:=by
 refine z6.run H.i116 H.mixed Z Z ?_;refine fR Z ?_;refine Run.fin Z (z4.go ?_);exact .t (by simp [qw])
def zaf (c:Int):Bool:=(decide (c≥65)&&decide (c<=90))||(decide (c≥97)&&decide (c<=122))||c==95
def wB (c:Int):Bool:=decide (c≥48)&&decide (c<=57)
theorem z9N (H:Pr P) (c:Int):z6 P 110 [.t (.int .u8 c)] ⟨[],0⟩ {v:= .t (.bool (zaf c))}:=by
 refine z6.run H.i110 H.mixed Z Z ?_;refine fR Z ?_;refine Run.fin Z (z4.go ?_);exact .t Z
theorem zbF (H:Pr P) (c:Int):z6 P 111 [.t (.int .u8 c)] ⟨[],0⟩ {v:= .t (.bool (wB c))}:=by
 refine z6.run H.i111 H.mixed Z Z ?_;refine fR Z ?_;refine Run.fin Z (z4.go ?_);exact .t Z
def z89 (first:Bool):List UInt8->Bool
 |[]=>true
 |c::r=>(zaf c.toNat||(!first&&wB c.toNat))&&z89 false r
def zt (s:Str):Bool:=decide (1<=s.length/\s.length<=64)&&z89 true s
theorem Qu (H:Pr P) (s:Str) (hs:s.length<=140737488355328):z6 P 86 [.t (.str s)] ⟨[],0⟩ {v:= .t (.bool (zt s))}:=by
 refine z6.run H.i86 H.mixed Z Z ?_;refine fR Z ?_;refine Run.cond Z Z (fun h=>?_) (fun h=>?_)
 ·have h':¬ (1<=s.length/\s.length<=64):=by simp at h;omega
  refine fR Z ?_;refine Run.fin Z (z4.go ?_);exact .t (by unfold zt;rw [show decide (1<=s.length/\s.length<=64)=false from by simpa using h'];rfl)
 ·have h':1<=s.length/\s.length<=64:=by simp at h;omega
  have e:zt s=z89 true s:=by unfold zt;rw [show decide (1<=s.length/\s.length<=64)=true from by simpa using h'];rfl
  refine fR Z ?_;refine zu s (fun i (_:Unit)=>{env:=[(0,.t (.str s)),(3,.t (.int .i64 i))],s:=⟨[],0⟩}) (fun r i _=>z89 true s=z89 (i==0) r) 0 () Z Z Z Z Z ?_ ?_
  ·intro _ hinv;refine fR Z ?_;refine Run.zf Z Z (by simp) ?_;refine fR Z ?_;refine Run.fin Z (z4.go ?_);exact .t (by rw [e,hinv];rfl)
  ·intro i c r _ h1 hi hd hinv ih;refine fR Z ?_;refine Run.zj Z Z (by simp;omega) ?_;refine fR Z ?_;refine Mid.byte Z Z h1 Z ?_;skip;refine Mid.call (z9N H c.toNat) Z Z Z Z ?_;refine fM Z ?_;refine byG Z Z Z h1 Z ?_;skip;refine caG Z Z (fun hg=>⟨_,rfl,zbF H c.toNat,rfl⟩) Z Z ?_;refine fM Z ?_
   have hb:((i:Int)==0)=(i==0):=by
    cases i with
    |zero=>rfl
    |succ i=>simp;omega
   have hb2:(i+1==0)=false:=by simp
   refine Run.cond Z Z (fun hc=>?_) (fun hc=>?_)
   ·have hc':(zaf c.toNat||(!(i==0)&&wB c.toNat))=false:=by
     rw [hb] at hc
     revert hc;cases zaf c.toNat<;>cases (i==0)<;>cases wB c.toNat<;>simp
    refine fR Z ?_;refine Run.fin Z (z4.go ?_);exact .t (by rw [e,hinv];simp only [z89];rw [hc'];rfl)
   ·have hc':(zaf c.toNat||(!(i==0)&&wB c.toNat))=true:=by
     rw [hb] at hc
     revert hc;cases zaf c.toNat<;>cases (i==0)<;>cases wB c.toNat<;>simp
    refine fR Z ?_;refine aL Z Z Z Z Z ?_;refine fM Z ?_;exact zh 0 Z (ih () (by rw [hinv,hb2];simp only [z89];rw [hc'];rfl)) Z Z Z
def rgW (first nn:Bool):List Int->Bool
 |[]=>true
 |w::r=>!(w !=1&&w !=2)&&!(!first&&w==1&&nn)&&rgW false (w==1) r
def YW (t:Ref):Bool:=zt t.name&&decide (t.zw.length<=24)&&rgW true false t.zw
theorem z3C (H:Pr P) (t:Ref) (ht:t.Ok):z6 P 114 [t.v] ⟨[],0⟩ {v:= .t (.bool (YW t))}:=by
 have hl:=ht.l;have hn:=ht.nm;refine z6.run H.i114 H.mixed Z Z ?_;refine fR Z ?_;refine Mid.call (Qu H t.name hn) Z Z Z Z ?_;refine fM Z ?_;refine lMG Z Z Z Z ?_;refine fM Z ?_;refine Run.cond Z Z (fun h=>?_) (fun h=>?_)
 ·refine fR Z ?_
  refine Run.fin Z (z4.go ?_);exact .t (by
   unfold YW
   have:(zt t.name&&decide (t.zw.length<=24))=false:=by
    cases h1:zt t.name with
    |false=>rfl
    |true=>rw [h1] at h;simp at h;simp;omega
   rw [this];rfl)
 ·have h':(zt t.name&&decide (t.zw.length<=24))=true:=by
   cases h1:zt t.name with
   |false=>rw [h1] at h;simp at h
   |true=>rw [h1] at h;simp at h;simp;omega
  have e:YW t=rgW true false t.zw:=by unfold YW;rw [h'];rfl
  refine fR Z ?_
  refine zu t.zw (fun i (_:Unit)=>{env:=[(1,.ptr 0 0),(3,.t (.int .i64 i))],s:=⟨[(0,.cells [.t (.str t.name),.t (.lst (t.zw.map nE))])],1⟩}) (fun r i _=>∃nn:Bool,(∀j:Nat,i=j+1->∃w,t.zw[j]?=some w/\nn=(w==1))/\rgW true false t.zw=rgW (i==0) nn r) 1 () Z ⟨false,fun j h=>by omega,rfl⟩ rfl rfl rfl ?_ ?_
  ·rintro _ ⟨nn,_,hinv⟩;refine fR Z ?_;refine lM Z Z Z ?_;refine fM Z ?_;refine Run.zf Z Z (by simp) ?_;refine fR Z ?_;refine Run.fin Z (z4.go ?_);exact .t (by rw [e,hinv];rfl)
  ·rintro i w r _ h1 hi hd ⟨nn,hnn,hinv⟩ ih;refine fR Z ?_;refine lM Z Z Z ?_;refine fM Z ?_;refine Run.zj Z Z (by simp;omega) ?_;refine fR Z ?_;refine Mid.za Z Z Z h1 Z Z ?_;refine fM Z ?_;refine elG Z Z Z Z h1 Z Z ?_;refine fM Z ?_;refine Run.cond Z Z (fun hc=>?_) (fun hc=>?_)
   ·refine fR Z ?_;refine Run.fin Z (z4.go ?_);exact .t (by rw [e,hinv];simp only [rgW];rw [show (w !=1&&w !=2)=true from hc];rfl)
   ·have hc':(w !=1&&w !=2)=false:=hc
    have hlast:∀j:Nat,i+1=j+1->∃w',t.zw[j]?=some w'/\(w==1)=(w'==1):=fun j hj=>by
     obtain rfl:j=i:=by omega
     exact ⟨w,h1,rfl⟩
    have hb2:(i+1==0)=false:=by simp
    cases i with
    |zero=>
     obtain ⟨nm,ws⟩:=t
     cases ws with
     |nil=>simp at hi
     |cons w0 r0=>
      simp at h1 hd;subst h1;subst hd;refine fR Z ?_;refine gr Z ?_;refine fM Z ?_;refine zgP Z Z Z Z ?_;refine gr Z ?_;refine fM Z ?_;refine Run.zf Z Z Z ?_;refine fR Z ?_;refine aL Z Z Z Z Z ?_;refine fM Z ?_;exact zh 1 Z (ih () ⟨w0==1,hlast,by rw [hinv,hb2];simp only [rgW];rw [hc'];rfl⟩) rfl rfl rfl
    |succ j=>
     obtain ⟨w',hw',rfl⟩:=hnn j rfl
     have ej:IntKind.i64.wrap (((j+1:Nat):Int) - 1)=(j:Int):=by rw [wrap64 (by omega) (by omega)];omega
     refine fR Z ?_;refine elG Z Z Z Z h1 Z Z ?_;refine fM Z ?_;refine zgP Z Z Z Z ?_
     rw [show ((j+1:Nat):Int) - 1=(j:Int) from by omega]
     refine elG Z Z Z Z hw' Z Z ?_;refine fM Z ?_;have hg:decide (((j+1:Nat):Int)>0)=true:=decide_eq_true (by omega)
     have hb1:(j+1==0)=false:=by simp
     refine Run.cond Z Z (fun hx=>?_) (fun hx=>?_)
     ·refine fR Z ?_
      refine Run.fin Z (z4.go ?_);exact .t (by
       rw [hg] at hx;have e3:(w==1&&w'==1)=true:=hx
       rw [e,hinv,hb1];simp only [rgW,hc',w2e,w13,e3];rfl)
     ·rw [hg] at hx;refine fR Z ?_;refine aL Z Z Z Z Z ?_;refine fM Z ?_
      exact zh 1 Z (ih () ⟨w==1,hlast,by
       have e3:(w==1&&w'==1)=false:=hx
       rw [hinv,hb1,hb2];simp only [rgW,hc',w2e,w13,e3]⟩) rfl rfl rfl
end Go.GB.C11
namespace Go.GB.C11
open Go.GB
variable {P:Program}
end Go.GB.C11
namespace Go.GB.C11
open Go.GB
end Go.GB.C11
namespace Go.GB.C11
open Go.GB
variable {P:Program}
def Input.v (x:Input):V:= .agg [.t (.str x.name),.t (.str x.ty.name),.t (.lst (x.ty.zw.map nE)),.t (.bool x.has),.t (.int .i64 x.YO.kind),.t (.int .i64 x.YO.int),.t (.str x.YO.text),.t (.lst (x.YO.items.map Val.enc)),.t (.lst (x.YO.keys.map sE)),.t (.lst (x.Zp.map Dir.enc))]
def Input.zero:Input:=⟨[],⟨[],[]⟩,false,Val.zero,[]⟩
theorem Input.ZF:Input.zero.Ok:=⟨⟨by decide,by decide⟩,Val.ZF,by decide,by simp [Input.zero],by decide⟩
def zU (n:Str):List Input->Option Input
 |[]=>none
 |d::r=>if (d.name==n)=true then some d else zU n r
theorem QL {n:Str}:∀{l:List Input} {d:Input},zU n l=some d->d∈l
 |[],d,h=>by simp [zU] at h
 |x::r,d,h=>by
  simp only [zU] at h;split at h
  ·cases h;exact w0l ..
  ·exact w08 _ (QL h)
def z0E (a b:Ref):Bool:=a.name==b.name&&decide (a.zw=b.zw)
def yA (ds:List Def) (n:Str) (k:Int):Int:=
 if (!(zi n ds).isSome&&!(qw n))=true then 8
 else if (!(zi n ds).isSome||((zi n ds).getD Def.zero).kind !=k)=true then 9
 else 0
end Go.GB.C11
namespace Go.GB.C11
open Go.GB
variable {P:Program}
def z9q (ds:List Def) (a b:Ref):Bool:=z0h (z5O ds a.name b.name) (a.zw.length+b.zw.length+1) a.zw b.zw
theorem z9Y (H:Pr P) (ds:List Def) (hD:Z6 ds) (a b:Ref) (ha:a.Ok) (hb:b.Ok):z6 P 136 [yT ds,a.v,b.v] ⟨[],0⟩ {v:= .t (.bool (z9q ds a b))}:=z9k H ds hD _ a b (w2r _) ha hb
def ze0 (y:Field) (a:Input):Bool:=!(zU a.name y.args).isSome||!(z0E a.ty ((zU a.name y.args).getD Input.zero).ty)
def qU (y:Field) (at_:Str):List Input->List zn
 |[]=>[]
 |a::r=>if ze0 y a=true then ⟨22,at_++[40]++a.name++[41]⟩::qU y at_ r else qU y at_ r
def zde (x:Field) (b:Input):Bool:=!(zU b.name x.args).isSome&&nnF b.ty.zw&&!b.has
def qu (x:Field) (at_:Str):List Input->List zn
 |[]=>[]
 |b::r=>if zde x b=true then ⟨22,at_++[40]++b.name++[41]⟩::qu x at_ r else qu x at_ r
def atF (t:Def) (x:Field):Str:=t.name++[46]++x.name
def z6Y (ds:List Def) (t:Def) (x:Field):List zn:=
 match Z5 x.name t.fields with
 |none=>[⟨20,atF t x⟩]
 |some y=>(if z9q ds y.ty x.ty=true then [] else [(⟨10,atF t x⟩:zn)])++(qU y (atF t x) x.args++qu x (atF t x) y.args)
def qo (ds:List Def) (t:Def):List Field->List zn
 |[]=>[]
 |x::r=>z6Y ds t x++qo ds t r
theorem zh3 {l:List Input} (h:∀y,y∈l->y.Ok) (n:Str):((zU n l).getD Input.zero).Ok:=by
 cases e:zU n l with
 |none=>exact Input.ZF
 |some x=>exact h x (QL e)
end Go.GB.C11
namespace Go.GB.C11
open Go.GB
variable {P:Program}
def z3K (ds:List Def) (pre:List Str) (n:Str):Int:=if (yA ds n 2==0&&decide (n∈pre))=true then 7 else yA ds n 2
def Yc (ds:List Def) (t:Def):List Str->List Str->List zn
 |_,[]=>[]
 |pre,n::r=>(if z3K ds pre n=0 then qo ds t ((zi n ds).getD Def.zero).fields else [(⟨z3K ds pre n,t.name⟩:zn)])++Yc ds t (pre++[n]) r
def zad (ds:List Def) (t:Def):List zn:=Yc ds t [] t.implements
end Go.GB.C11
namespace Go.GB.C11
open Go.GB
variable {P:Program}
def unE (ds:List Def) (pre:List ZA) (m:ZA):Int:=if (yA ds m.name 1==0&&W4 pre m.name)=true then 7 else yA ds m.name 1
def unL (ds:List Def) (t:Def):List ZA->List ZA->List zn
 |_,[]=>[]
 |pre,m::r=>(if unE ds pre m=0 then [] else [(⟨unE ds pre m,t.name++[46]++m.name⟩:zn)])++unL ds t (pre++[m]) r
def Wm (ds:List Def):List Def->List zn
 |[]=>[]
 |t::r=>(if t.kind=1 then zad ds t else if t.kind=3 then unL ds t [] t.members else [])++Wm ds r
def WU (ds:List Def):List zn:=Wm ds ds
end Go.GB.C11
namespace Go.GB.C11
open Go.GB
variable {P:Program}
end Go.GB.C11
namespace Go.GB.C11
open Go.GB
variable {P:Program}
end Go.GB.C11
namespace Go.GB.C11
open Go.GB
variable {P:Program}
def zdq:Str->Bool
 |a::b::_=>(a.toNat:Int)==95&&(b.toNat:Int)==95
 |_=>false
theorem Q7 (H:Pr P) (s:Str) (hs:s.length<=140737488355328):z6 P 99 [.t (.str s)] ⟨[],0⟩ {v:= .t (.bool (zdq s))}:=by
 match s,hs with
 |[],_=>
  refine z6.run H.i99 H.mixed Z Z ?_;refine fR Z ?_;refine Mid.Wi Z Z Z Z Z ?_;refine Mid.Wi Z Z Z Z Z ?_;refine fM Z ?_;refine Mid.Wi Z Z Z Z Z ?_;refine Mid.Wi Z Z Z Z Z ?_;refine fM Z ?_;refine Run.fin Z (z4.go ?_);exact .t Z
 |[a],_=>
  refine z6.run H.i99 H.mixed Z Z ?_;refine fR Z ?_;refine gr Z ?_;refine fM Z ?_;refine Mid.Wi Z Z Z Z Z ?_;refine Mid.Wi Z Z Z Z Z ?_;refine fM Z ?_;refine Run.fin Z (z4.go ?_);exact .t Z
 |a::b::r,hs=>
  refine z6.run H.i99 H.mixed Z Z ?_;refine fR Z ?_;refine gr Z ?_;refine fM Z ?_;refine gr Z ?_;refine fM Z ?_
  refine Run.fin Z (z4.go ?_);exact .t (by
   have:decide (((a::b::r).length:Int)≥2)=true:=by simp;omega
   rw [this];rfl)
def z0w (n:Str):Bool:=zt n&&!zdq n
theorem z3d (H:Pr P) (n:Str) (hn:n.length<=140737488355328):z6 P 133 [.t (.str n)] ⟨[],0⟩ {v:= .t (.bool (z0w n))}:=by
 refine z6.run H.i133 H.mixed Z Z ?_;refine fR Z ?_;refine Mid.call (Qu H n hn) Z Z Z Z ?_;refine fM Z ?_;refine caG Z Z (fun hg=>⟨_,rfl,Q7 H n hn,rfl⟩) Z Z ?_;refine fM Z ?_;refine Run.fin Z (z4.go ?_);exact .t Z
def ZC (n:Str) (bad twice:Bool) (at_:Str):List zn:=
 (if (bad||!z0w n)=true then [(⟨6,at_⟩:zn)] else [])++(if twice=true then [(⟨7,at_⟩:zn)] else [])
theorem z35 (H:Pr P) (n:Str) (hn:n.length<=140737488355328) (bad twice:Bool) (at_:Str):z6 P 117 [.t (.str n),.t (.bool bad),.t (.bool twice),.t (.str at_)] ⟨[],0⟩ {v:= .t (.lst ((ZC n bad twice at_).map zn.enc))}:=by
 refine z6.run H.i117 H.mixed Z Z ?_;refine fR Z ?_;refine caG Z Z (fun hg=>⟨_,rfl,z3d H n hn,rfl⟩) Z Z ?_;refine fM Z ?_;refine Run.cond Z Z (fun h=>?_) (fun h=>?_)
 ·refine fR Z ?_;refine apN zn.enc [(⟨6,at_⟩:zn)] Z Z Z ?_ (h1:=by first |omega|(simp;omega)|(simp;done)) (h2:=by first |omega|(simp;omega)|(simp;done));refine fM rfl ?_
  cases twice with
  |true=>
   refine Run.zj Z Z Z ?_;refine fR Z ?_;refine apM zn.enc [(⟨6,at_⟩:zn)] [(⟨7,at_⟩:zn)] Z Z Z Z Z ?_ (h1:=by first |omega|(simp;omega)|(simp;done)) (h2:=by first |omega|(simp;omega)|(simp;done));refine fM rfl ?_;refine Run.fin rfl (z4.go ?_);exact .own (by unfold ZC;rw [w0c h,w0c rfl])
  |false=>
   refine Run.zf Z Z Z ?_;refine fR Z ?_;refine Run.fin Z (z4.go ?_);exact .own (by unfold ZC;rw [w0c h,w0d (by simp)];rfl)
 ·refine fR Z ?_
  have h':¬ (bad||!z0w n)=true:=by rw [h];simp
  cases twice with
  |true=>
   refine Run.zj Z Z Z ?_;refine fR Z ?_;refine apN zn.enc [(⟨7,at_⟩:zn)] Z Z Z ?_ (h1:=by first |omega|(simp;omega)|(simp;done)) (h2:=by first |omega|(simp;omega)|(simp;done));refine fM rfl ?_;refine Run.fin rfl (z4.go ?_);exact .own (by unfold ZC;rw [w0d h',w0c rfl];rfl)
  |false=>
   refine Run.zf Z Z Z ?_;refine fR Z ?_;refine Run.fin Z (z4.go ?_);exact .nil (by unfold ZC;rw [w0d h',w0d (by simp)];rfl)
def Y1 (d:Def):Bool:=if d.kind=1∨d.kind=2 then ((d.fields.length:Int)==0) else if d.kind=3∨d.kind=4 then ((d.members.length:Int)==0) else if d.kind=5 then ((d.zp.length:Int)==0) else false
def QS (ds:List Def) (n:Str):Bool:=qw n||(zi n ds).isSome
theorem z7w (H:Pr P) (ds:List Def) (hD:Z6 ds) (n:Str):z6 P 120 [yT ds,.t (.str n)] ⟨[],0⟩ {v:= .t (.bool (QS ds n))}:=by
 refine z6.run H.i120 H.mixed Z Z ?_;refine fR Z ?_;refine Mid.call (yh H ds hD.l n) Z Z Z Z ?_;refine fM Z ?_;refine Mid.call (YZ H n) Z Z Z Z ?_;refine fM Z ?_;refine Run.fin Z (z4.go ?_);exact .t Z
def zcQ (ds:List Def) (n:Str):Bool:=qw n||((zi n ds).isSome&&((zi n ds).getD Def.zero).kind==4)
theorem z8L (H:Pr P) (ds:List Def) (hD:Z6 ds) (n:Str):z6 P 103 [yT ds,.t (.str n)] ⟨[],0⟩ {v:= .t (.bool (zcQ ds n))}:=by
 refine z6.run H.i103 H.mixed Z Z ?_;refine fR Z ?_;refine Mid.call (yh H ds hD.l n) Z Z Z Z ?_;refine fM Z ?_;refine Mid.call (YZ H n) Z Z Z Z ?_;refine fM Z ?_;refine Run.fin Z (z4.go ?_);exact .t Z
def z1R (ds:List Def) (n:Str):Bool:=zcQ ds n||((zi n ds).isSome&&((zi n ds).getD Def.zero).kind==5)
theorem QW (H:Pr P) (ds:List Def) (hD:Z6 ds) (n:Str):z6 P 122 [yT ds,.t (.str n)] ⟨[],0⟩ {v:= .t (.bool (z1R ds n))}:=by
 refine z6.run H.i122 H.mixed Z Z ?_;refine fR Z ?_;refine Mid.call (yh H ds hD.l n) Z Z Z Z ?_;refine fM Z ?_;refine Mid.call (z8L H ds hD n) Z Z Z Z ?_;refine fM Z ?_;refine Run.fin Z (z4.go ?_);exact .t Z
theorem W6 (H:Pr P) (l:List Input) (hl:l.length<=140737488355328) (n:Str):z6 P 121 [.t (.lst (l.map Input.enc)),.t (.str n)] ⟨[],0⟩ {v:= .tup [Input.v ((zU n l).getD Input.zero),.t (.bool (zU n l).isSome)]}:=by
 refine z6.run H.i121 H.mixed Z Z ?_;refine fR Z ?_;refine zu l (fun i (_:Unit)=>{env:=[(0,.t (.lst (l.map Input.enc))),(1,.t (.str n)),(4,.ptr 0 0),(6,.t (.int .i64 i))],s:=⟨[(0,.cells [.t (.str []),.t (.str []),.zJ,.t (.bool false),.t (.int .i64 0),.t (.int .i64 0),.t (.str []),.zJ,.zJ,.zJ])],1⟩}) (fun r i _=>zU n l=zU n r) 1 () Z Z Z Z Z ?_ ?_
 ·intro _ hinv;refine fR Z ?_;refine lM Z Z Z ?_;refine fM Z ?_;refine Run.zf Z Z (by simp) ?_;refine fR Z ?_
  have e:zU n l=none:=by rw [hinv];rfl
  rw [e];refine Run.fin Z (z4.go ?_);exact .wx (.agg (.cons (.t Z) (.cons (.t Z) (.cons (.nil Z) (.cons (.t Z) (.cons (.t Z) (.cons (.t Z) (.cons (.t Z) (.cons (.nil Z) (.cons (.nil Z) (.cons (.nil Z) .nil))))))))))) (.t Z)
 ·intro i x r _ h1 hi hd hinv ih;refine fR Z ?_;refine lM Z Z Z ?_;refine fM Z ?_;refine Run.zj Z Z (by simp;omega) ?_;refine fR Z ?_;refine Mid.za Z Z Z h1 Z Z ?_;refine fM Z ?_;refine Run.cond Z Z (fun h=>?_) (fun h=>?_)
  ·refine fR Z ?_;refine Mid.za Z Z Z h1 Z Z ?_;refine fM Z ?_
   have e:zU n l=some x:=by rw [hinv];simp only [zU];rw [w0c h]
   rw [e];refine Run.fin Z (z4.go ?_);exact .wx (.le (.same Z)) (.t Z)
  ·refine fR Z ?_;refine aL Z Z Z Z Z ?_;refine fM Z ?_
   have h':¬ (x.name==n)=true:=by rw [h];simp
   exact zh 1 Z (ih () (by rw [hinv];simp only [zU];rw [w0d h'])) Z Z Z
theorem zd3 (H:Pr P) (d:Def):z6 P 118 [d.v] ⟨[],0⟩ {v:= .t (.bool (Y1 d))}:=by
 refine z6.run H.i118 H.mixed Z Z ?_;refine fR Z ?_;refine Run.cond Z Z (fun h1=>?_) (fun h1=>?_)
 ·have e:Y1 d=((d.fields.length:Int)==0):=by unfold Y1;rw [w0c (.inl (by simpa using h1))]
  skip;refine Run.zj Z Z h1 ?_;refine fR Z ?_;refine lM Z Z Z ?_;refine fM Z ?_;refine Run.fin Z (z4.go ?_);exact .t (by rw [e])
 ·have n1:¬ d.kind=1:=by simpa using h1
  refine fR Z ?_;refine Run.cond Z Z (fun h2=>?_) (fun h2=>?_)
  ·have e:Y1 d=((d.fields.length:Int)==0):=by unfold Y1;rw [w0c (.inr (by simpa using h2))]
   refine fR Z ?_;refine lM Z Z Z ?_;refine fM Z ?_;refine Run.fin Z (z4.go ?_);exact .t (by rw [e])
  ·have n2:¬ d.kind=2:=by simpa using h2
   refine fR Z ?_;refine Run.cond Z Z (fun h3=>?_) (fun h3=>?_)
   ·have e:Y1 d=((d.members.length:Int)==0):=by unfold Y1;rw [w0d (by omega),w0c (.inl (by simpa using h3))]
    skip;refine Run.zj Z Z h3 ?_;refine fR Z ?_;refine lM Z Z Z ?_;refine fM Z ?_;refine Run.fin Z (z4.go ?_);exact .t (by rw [e])
   ·have n3:¬ d.kind=3:=by simpa using h3
    refine fR Z ?_;refine Run.cond Z Z (fun h4=>?_) (fun h4=>?_)
    ·have e:Y1 d=((d.members.length:Int)==0):=by unfold Y1;rw [w0d (by omega),w0c (.inr (by simpa using h4))]
     refine fR Z ?_;refine lM Z Z Z ?_;refine fM Z ?_;refine Run.fin Z (z4.go ?_);exact .t (by rw [e])
    ·have n4:¬ d.kind=4:=by simpa using h4
     refine fR Z ?_;refine Run.cond Z Z (fun h5=>?_) (fun h5=>?_)
     ·have e:Y1 d=((d.zp.length:Int)==0):=by unfold Y1;rw [w0d (by omega),w0d (by omega),w0c (by simpa using h5)]
      refine fR Z ?_;refine lM Z Z Z ?_;refine fM Z ?_;refine Run.fin Z (z4.go ?_);exact .t (by rw [e])
     ·have n5:¬ d.kind=5:=by simpa using h5
      refine fR Z ?_;refine Run.fin Z (z4.go ?_);exact .t (by unfold Y1;rw [w0d (by omega),w0d (by omega),w0d n5])
end Go.GB.C11
namespace Go.GB.C11
open Go.GB
variable {P:Program}
theorem z0L {n:Str}:∀{l:List Def} {d:Def},zi n l=some d->d.name=n
 |[],d,h=>by simp [zi] at h
 |x::r,d,h=>by
  simp only [zi] at h;split at h
  ·rename_i hx;cases h;simpa using hx
  ·exact z0L h
theorem z3x (H:Pr P) (l:List Str) (hl:l.length<=140737488355328) (s:Str):z6 P 135 [.t (.lst (l.map sE)),.t (.str s)] ⟨[],0⟩ {v:= .t (.bool (decide (s∈l)))}:=by
 refine z6.run H.i135 H.mixed Z Z ?_;refine fR Z ?_;refine zu l (fun i (_:Unit)=>{env:=[(0,.t (.lst (l.map sE))),(1,.t (.str s)),(5,.t (.int .i64 i))],s:=⟨[],0⟩}) (fun r i _=>decide (s∈l)=decide (s∈r)) 0 () Z Z Z Z Z ?_ ?_
 ·intro _ hinv;refine fR Z ?_;refine lM Z Z Z ?_;refine fM Z ?_;refine Run.zf Z Z (by simp) ?_;refine fR Z ?_;refine Run.fin Z (z4.go ?_);exact .t (by rw [hinv];simp)
 ·intro i x r _ h1 hi hd hinv ih;refine fR Z ?_;refine lM Z Z Z ?_;refine fM Z ?_;refine Run.zj Z Z (by simp;omega) ?_;refine fR Z ?_;refine Mid.za Z Z Z h1 Z Z ?_;refine fM Z ?_;refine Run.cond Z Z (fun h=>?_) (fun h=>?_)
  ·have h':x=s:=by simpa using h
   refine fR Z ?_;refine Run.fin Z (z4.go ?_);exact .t (by rw [hinv];simp [h'])
  ·have h':¬ x=s:=by simpa using h
   have h2:¬ s=x:=fun e=>h' e.symm;refine fR Z ?_;refine aL Z Z Z Z Z ?_;refine fM Z ?_;exact zh 0 Z (ih () (by rw [hinv];simp [h2])) Z Z Z
def zgz:List Int->Bool
 |[]=>false
 |w::r=>((w::r).length:Int)==1&&w==1
theorem z4J (H:Pr P) (t:Ref):z6 P 141 [t.v] ⟨[],0⟩ {v:= .t (.bool (zgz t.zw))}:=by
 obtain ⟨n,ws⟩:=t
 match ws with
 |[]=>
  refine z6.run H.i141 H.mixed Z Z ?_;refine fR Z ?_;refine lM Z Z Z ?_;refine fM Z ?_;refine Mid.Wi Z Z Z Z Z ?_;refine Mid.Wi Z Z Z Z Z ?_;refine Mid.Wi Z Z Z Z Z ?_;refine fM Z ?_;refine Run.fin Z (z4.go ?_);exact .t Z
 |w::r=>
  have h1:(w::r)[0]?=some w:=rfl;refine z6.run H.i141 H.mixed Z Z ?_;refine fR Z ?_;refine lM Z Z Z ?_;refine fM Z ?_;refine gr Z ?_;refine fM Z ?_;refine Run.fin Z (z4.go ?_);exact .t Z
def z0k (ds:List Def) (nm:Str) (x:Input) (l:List Str):Bool:=
 zgz x.ty.zw&&(x.ty.name==nm||((zi x.ty.name ds).isSome&&((zi x.ty.name ds).getD Def.zero).kind==5))&&!decide (x.ty.name∈l)
def yi (ds:List Def) (nm:Str):List Input->List Str->List Str
 |[],l=>l
 |x::r,l=>yi ds nm r (if z0k ds nm x l=true then l++[x.ty.name] else l)
theorem zc5 (H:Pr P) (ds:List Def) (hD:Z6 ds) (d:Def) (hd:d.Ok) (nm:Str) (hl:d.zp.length<=4398046511104):
  z6 P 134 [yT ds,d.v,.t (.str nm),.zJ] ⟨[],0⟩ {v:= .own 2 1 ((yi ds nm d.zp []).map sE),ob:=[(2,.arr (yi ds nm d.zp []).length)],n:=3}:=by
 refine z6.run H.i134 H.mixed Z Z ?_;refine fR Z ?_
 refine zu d.zp (fun i (B:List Str)=>{env:=[(2,.t (.str nm)),(3,.own 2 1 (B.map sE)),(4,.ptr 0 0),(5,.ptr 1 0),(9,.t (.int .i64 i))],s:=⟨[(0,.cells [.t (.lst (ds.map Def.enc))]),(1,(TCo d)),(2,.arr B.length)],3⟩}) (fun r i B=>B.length+r.length<=4398046511104/\yi ds nm d.zp []=yi ds nm r B) 2 [] Z ⟨by simpa using hl,rfl⟩ rfl rfl rfl ?_ ?_
 ·rintro B ⟨_,hB⟩;have hB':yi ds nm d.zp []=B:=hB;rw [hB'];refine fR Z ?_;refine lM Z Z Z ?_;refine fM Z ?_;refine Run.zf Z Z (by simp) ?_;refine fR Z ?_;refine Run.fin Z (z4.chg Z Z ?_ ?_)
  ·exact .le (.same Z)
  ·exact leSA
 ·rintro i x r B h1 hi hdr ⟨hlB,hB⟩ ih;simp only [w0b] at hlB;have hx:=hd.n x (zMG h1);refine fR Z ?_;refine lM Z Z Z ?_;refine fM Z ?_;refine Run.zj Z Z (by simp;omega) ?_;refine fR Z ?_;refine Mid.za Z Z Z h1 Z Z ?_;refine fM Z ?_;refine Mid.call (yh H ds hD.l x.ty.name) Z Z Z Z ?_;refine fM Z ?_;refine Mid.call (z4J H x.ty) Z Z Z Z ?_;refine fM Z ?_;refine caG Z Z (fun hg=>⟨_,rfl,z3x H B (by omega) x.ty.name,rfl⟩) Z Z ?_;refine fM Z ?_;refine Run.cond Z Z (fun hc=>?_) (fun hc=>?_)
  ·have e:z0k ds nm x B=true:=hc;refine fR Z ?_;refine apM sE B [x.ty.name] Z Z Z Z Z ?_ (h1:=by first |omega|(simp;omega)|(simp;done)) (h2:=by first |omega|(simp;omega)|(simp;done));refine fM rfl ?_;refine aL rfl rfl rfl rfl rfl ?_;refine fM rfl ?_;exact zh 3 rfl (ih (B++[x.ty.name]) ⟨by simp;omega,by rw [hB];simp only [yi];rw [w0c e]⟩) rfl rfl rfl
  ·have e:¬ z0k ds nm x B=true:=by rw [show z0k ds nm x B=false from hc];simp
   refine fR Z ?_;refine aL Z Z Z Z Z ?_;refine fM Z ?_;exact zh 3 Z (ih B ⟨by omega,by rw [hB];simp only [yi];rw [w0d e]⟩) rfl rfl rfl
theorem zee (H:Pr P) (ds:List Def) (hD:Z6 ds) (d:Def) (hd:d.Ok) (nm:Str) (l:List Str) (hl:l.length+d.zp.length<=4398046511104):
  z6 P 134 [yT ds,d.v,.t (.str nm),.own 0 1 (l.map sE)] ⟨[(0,.arr l.length)],1⟩ {v:= .own 0 1 ((yi ds nm d.zp l).map sE),ob:=[(0,.arr (yi ds nm d.zp l).length)],rd:=true}:=by
 refine z6.run H.i134 H.mixed Z Z ?_;refine fR Z ?_
 refine zu d.zp (fun i (B:List Str)=>{env:=[(2,.t (.str nm)),(3,.own 0 1 (B.map sE)),(4,.ptr 1 0),(5,.ptr 2 0),(9,.t (.int .i64 i))],s:=⟨[(0,.arr B.length),(1,.cells [.t (.lst (ds.map Def.enc))]),(2,(TCo d))],3⟩}) (fun r i B=>B.length+r.length<=4398046511104/\yi ds nm d.zp l=yi ds nm r B) 3 l Z ⟨by exact hl,rfl⟩ rfl rfl rfl ?_ ?_
 ·rintro B ⟨_,hB⟩;have hB':yi ds nm d.zp l=B:=hB;rw [hB'];refine fR Z ?_;refine lM Z Z Z ?_;refine fM Z ?_;refine Run.zf Z Z (by simp) ?_;refine fR Z ?_;refine Run.fin Z (z4.chg Z Z ?_ ?_)
  ·exact .le (.same Z)
  ·exact leSA
 ·rintro i x r B h1 hi hdr ⟨hlB,hB⟩ ih;simp only [w0b] at hlB;have hx:=hd.n x (zMG h1);refine fR Z ?_;refine lM Z Z Z ?_;refine fM Z ?_;refine Run.zj Z Z (by simp;omega) ?_;refine fR Z ?_;refine Mid.za Z Z Z h1 Z Z ?_;refine fM Z ?_;refine Mid.call (yh H ds hD.l x.ty.name) Z Z Z Z ?_;refine fM Z ?_;refine Mid.call (z4J H x.ty) Z Z Z Z ?_;refine fM Z ?_;refine caG Z Z (fun hg=>⟨_,rfl,z3x H B (by omega) x.ty.name,rfl⟩) Z Z ?_;refine fM Z ?_;refine Run.cond Z Z (fun hc=>?_) (fun hc=>?_)
  ·have e:z0k ds nm x B=true:=hc;refine fR Z ?_;refine apM sE B [x.ty.name] Z Z Z Z Z ?_ (h1:=by first |omega|(simp;omega)|(simp;done)) (h2:=by first |omega|(simp;omega)|(simp;done));refine fM rfl ?_;refine aL rfl rfl rfl rfl rfl ?_;refine fM rfl ?_;exact zh 3 rfl (ih (B++[x.ty.name]) ⟨by simp;omega,by rw [hB];simp only [yi];rw [w0c e]⟩) rfl rfl rfl
  ·have e:¬ z0k ds nm x B=true:=by rw [show z0k ds nm x B=false from hc];simp
   refine fR Z ?_;refine aL Z Z Z Z Z ?_;refine fM Z ?_;exact zh 3 Z (ih B ⟨by omega,by rw [hB];simp only [yi];rw [w0d e]⟩) rfl rfl rfl
theorem z6l (ds:List Def) (nm:Str):∀(ins:List Input) (l:List Str),l.length<=(yi ds nm ins l).length
 |[],l=>w07 _
 |x::r,l=>by
  simp only [yi];refine w0u ?_ (z6l ds nm r _)
  split<;>simp
def z2o (ds:List Def) (nm:Str):Nat->Nat->List Str->List Str
 |0,_,l=>l
 |k+1,i,l=>match l[i]? with
  |none=>l
  |some n=>z2o ds nm k (i+1) (yi ds nm ((zi n ds).getD Def.zero).zp l)
def qv (ds:List Def) (d:Def):Bool:=d.kind==5&&decide (d.name∈z2o ds d.name (ds.length+2) 0 (yi ds d.name d.zp []))
structure LOk (ds:List Def) (nm:Str) (l:List Str):Prop where
 nd:l.Nodup
 mem:∀x,x∈l->x∈nm::ds.map (fun o=>o.name)
theorem z4q {α:Type} [BEq α] [LawfulBEq α]:∀{l m:List α},l.Nodup->(∀x,x∈l->x∈m)->l.length<=m.length
 |[],_,_,_=>by simp
 |a::r,m,hn,hs=>by
  have ha:a∈m:=hs a (by simp);obtain ⟨hn1,hn2⟩:=w1c.1 hn
  have h1:=z4q (l:=r) (m:=m.erase a) hn2 (fun x hx=>by
   have hne:x≠a:=by rintro rfl;exact hn1 hx
   exact (List.mem_erase_of_ne hne).2 (hs x (w08 _ hx)))
  have h2:=List.length_erase_of_mem ha;have h3:0<m.length:=List.length_pos_of_mem ha;simp only [w0b];omega
theorem LOk.len {ds:List Def} {nm:Str} {l:List Str} (h:LOk ds nm l):l.length<=ds.length+1:=by
 have:=z4q h.nd h.mem;simpa using this
theorem z0F {ds:List Def} {nm:Str}:∀{ins:List Input} {l:List Str},LOk ds nm l->LOk ds nm (yi ds nm ins l)
 |[],l,h=>h
 |x::r,l,h=>by
  simp only [yi];split
  ·rename_i hc;refine z0F ⟨?_,?_⟩
   ·unfold z0k at hc;simp only [w0a] at hc
    have hn:¬ x.ty.name∈l:=by simpa using hc.2
    rw [List.nodup_append]
    exact ⟨h.nd,by simp,fun a ha b hb e=>by simp at hb;subst hb;subst e;exact hn ha⟩
   ·intro y hy
    rcases w19.1 hy with hy|hy
    ·exact h.mem y hy
    ·simp at hy;subst hy;unfold z0k at hc;simp only [w0a,w2j,beq_iff_eq] at hc
     rcases hc.1.2 with e|e
     ·rw [e];simp
     ·cases hf:zi x.ty.name ds with
      |none=>rw [hf] at e;simp at e
      |some o=>
       have h1:=ZN hf;have h2:=z0L hf;rw [←h2];exact w08 _ (w1a.2 ⟨o,h1,rfl⟩)
  ·exact z0F h
theorem z6b (H:Pr P) (ds:List Def) (hD:Z6 ds) (d:Def) (hd:d.Ok) (hil:∀o,o∈d::ds->o.zp.length<=2199023255552):z6 P 119 [yT ds,d.v] ⟨[],0⟩ {v:= .t (.bool (qv ds d))}:=by
 have hlb:=hD.lb
 have hz:∀n,((zi n ds).getD Def.zero).zp.length<=2199023255552:=by
  intro n
  cases hf:zi n ds with
  |none=>simp [Def.zero]
  |some o=>exact hil o (w08 _ (ZN hf))
 refine z6.run H.i119 H.mixed Z Z ?_;refine fR Z ?_;refine Run.cond Z Z (fun hk=>?_) (fun hk=>?_)
 ·have e:qv ds d=false:=by unfold qv;rw [show (d.kind==5)=false from by simpa using hk];rfl
  refine fR Z ?_;refine Run.fin Z (z4.go ?_);exact .t (by rw [e])
 ·have hk':(d.kind==5)=true:=by simpa using hk
  refine fR Z ?_
  have h0:LOk ds d.name (yi ds d.name d.zp []):=z0F ⟨List.nodup_nil,by simp⟩
  refine Mid.z4b [] (zc5 H ds hD d hd d.name (by have:=hil d (by simp);omega)) Z Z Z Z (by simp [zP]) (by repeat' (first |exact trivial|exact rfl|refine And.intro ?_ ?_|exact (congrArg some (z5.zD _ _ _ _ _ _)).symm|exact (congrArg some (z5.zE _ _ _)).symm)) Z Z (ob':=[(4,.arr (yi ds d.name d.zp []).length)]) (rfl) Z Z ?_
  refine fM Z ?_
  have eB:qv ds d=decide (d.name∈z2o ds d.name (ds.length+2) 0 (yi ds d.name d.zp [])):=by unfold qv;rw [hk'];rfl
  generalize hC:z2o ds d.name (ds.length+2) 0 (yi ds d.name d.zp [])=C at eB
  have hN:∀(i:Nat) (l:List Str),LOk ds d.name l->i<=l.length->ds.length+2 - i=(ds.length+1 - i)+1:=by
   intro i l hl hi;have:=hl.len;omega
  refine z13 (β:=Nat×List Str) (fun b=>{env:=[(2,.ptr 0 0),(3,.ptr 1 0),(5,.own 4 1 (b.2.map sE)),(6,.t (.int .i64 b.1))],s:=⟨[(0,.cells [.t (.lst (ds.map Def.enc))]),(1,(TCo d)),(4,.arr b.2.length)],5⟩})
   (fun b=>LOk ds d.name b.2/\b.1<=b.2.length/\C=z2o ds d.name (ds.length+2 - b.1) b.1 b.2) (fun b=>ds.length+2 - b.1) 5 (0,yi ds d.name d.zp []) rfl ⟨h0,by simp,hC.symm⟩ rfl rfl rfl ?_
  rintro ⟨i,l⟩ ⟨hl,hi,hinv⟩ ih;dsimp only at hl hi hinv ih⊢;have hlen:=hl.len;have hN':=hN i l hl hi;rw [hN'] at hinv;refine fR Z ?_;refine lM Z Z Z ?_;refine fM Z ?_;by_cases hlt:i<l.length
  ·refine Run.zj Z Z (by simp;omega) ?_;have hg:l[i]?=some l[i]:=w09 hlt;generalize l[i]=n at hg;have hF:=z0P hD n;have hnx:LOk ds d.name (yi ds d.name ((zi n ds).getD Def.zero).zp l):=z0F hl;simp only [z2o,hg] at hinv;have hzn:=hz n;refine fR Z ?_;refine Mid.za Z Z Z hg Z Z ?_;refine fM Z ?_;refine Mid.call (yh H ds hD.l n) Z Z Z Z ?_;refine fM Z ?_
   refine Mid.z4b [4] (zee H ds hD ((zi n ds).getD Def.zero) hF d.name l (by omega)) Z Z Z Z (by simp [zP];simp [z5.bd]) (by repeat' (first |exact trivial|exact rfl|refine And.intro ?_ ?_|exact (congrArg some (z5.zD _ _ _ _ _ _)).symm|exact (congrArg some (z5.zE _ _ _)).symm)) Z Z (ob':=[(4,.arr (yi ds d.name ((zi n ds).getD Def.zero).zp l).length)]) (rfl) Z Z ?_
   refine fM Z ?_;refine aL Z Z Z Z Z ?_;refine fM Z ?_
   exact zh 5 Z (ih (i+1,yi ds d.name ((zi n ds).getD Def.zero).zp l) (by simp only;omega) ⟨hnx,by simp only;have:=z6l ds d.name ((zi n ds).getD Def.zero).zp l;omega,by rw [hinv];simp only;congr 1;omega⟩) rfl rfl rfl
  ·refine Run.zf Z Z (by simp;omega) ?_;have hg:l[i]?=none:=w12 (by omega);simp only [z2o,hg] at hinv;refine fR Z ?_;refine Mid.call (z3x H l (by omega) d.name) Z Z Z Z ?_;refine fM Z ?_;refine Run.fin Z (z4.go ?_);exact .t (by rw [eB,hinv])
end Go.GB.C11
namespace Go.GB.C11
open Go.GB
variable {P:Program}
theorem zal (H:Pr P) (n:Str) (hn:n.length<=140737488355328) (bad twice:Bool) (at_:Str):z6 P 117 [.t (.str n),.t (.bool bad),.t (.bool twice),.t (.str at_)] ⟨[],0⟩ {v:= .own 0 2 ((ZC n bad twice at_).map zn.enc),ob:=[(0,.arr (ZC n bad twice at_).length)],n:=1}:=by
 refine z6.run H.i117 H.mixed Z Z ?_;refine fR Z ?_;refine caG Z Z (fun hg=>⟨_,rfl,z3d H n hn,rfl⟩) Z Z ?_;refine fM Z ?_;refine Run.cond Z Z (fun h=>?_) (fun h=>?_)
 ·refine fR Z ?_;refine apN zn.enc [(⟨6,at_⟩:zn)] Z Z Z ?_ (h1:=by first |omega|(simp;omega)|(simp;done)) (h2:=by first |omega|(simp;omega)|(simp;done));refine fM rfl ?_
  cases twice with
  |true=>
   refine Run.zj Z Z Z ?_;refine fR Z ?_;refine apM zn.enc [(⟨6,at_⟩:zn)] [(⟨7,at_⟩:zn)] Z Z Z Z Z ?_ (h1:=by first |omega|(simp;omega)|(simp;done)) (h2:=by first |omega|(simp;omega)|(simp;done));refine fM rfl ?_
   have e:ZC n bad true at_=[⟨6,at_⟩]++[⟨7,at_⟩]:=by unfold ZC;rw [w0c h,w0c rfl]
   rw [e];refine Run.fin Z (z4.chg Z Z ?_ ?_)
   ·exact .le (.same Z)
   ·exact leSA
  |false=>
   refine Run.zf Z Z Z ?_;refine fR Z ?_
   have e:ZC n bad false at_=[⟨6,at_⟩]:=by unfold ZC;rw [w0c h,w0d (by simp)];rfl
   rw [e];refine Run.fin Z (z4.chg Z Z ?_ ?_)
   ·exact .le (.same Z)
   ·exact leSA
 ·refine fR Z ?_
  have h':¬ (bad||!z0w n)=true:=by rw [h];simp
  refine Yz 0 Z (st':={env:=[(3,.t (.str at_)),(9,.own 0 2 ([].map zn.enc)),(21,.t (.bool twice))],s:=⟨[(0,.arr 0)],1⟩}) ?_ Z Z Z
  cases twice with
  |true=>
   refine Run.zj Z Z Z ?_;refine fR Z ?_;refine apM zn.enc [] [(⟨7,at_⟩:zn)] Z Z Z Z Z ?_ (h1:=by first |omega|(simp;omega)|(simp;done)) (h2:=by first |omega|(simp;omega)|(simp;done));refine fM rfl ?_
   have e:ZC n bad true at_=[⟨7,at_⟩]:=by unfold ZC;rw [w0d h',w0c rfl];rfl
   rw [e];refine Run.fin Z (z4.chg Z Z ?_ ?_)
   ·exact .le (.same Z)
   ·exact leSA
  |false=>
   refine Run.zf Z Z Z ?_;refine fR Z ?_
   have e:ZC n bad false at_=[]:=by unfold ZC;rw [w0d h',w0d (by simp)];rfl
   rw [e];refine Run.fin Z (z4.chg Z Z ?_ ?_)
   ·exact .le (.same Z)
   ·exact leSA
def zgw (n:Str):Bool:=n==[81,117,101,114,121]||n==[77,117,116,97,116,105,111,110]||n==[83,117,98,115,99,114,105,112,116,105,111,110]
def Qp (d:Def):Bool:=(zgw d.name&&d.kind !=1)||decide (d.kind<1)||decide (d.kind>5)
def z12 (ds:List Def) (i:Nat) (n:Str):Bool:=qw n||(ds.take i).any fun o=>o.name==n
def YY (ds:List Def) (i:Nat) (d:Def):List zn:=
 ZC d.name false (z12 ds i d.name) d.name++(if Y1 d=true then [⟨8,d.name⟩] else [])++(if Qp d=true then [⟨9,d.name⟩] else [])++(if qv ds d=true then [⟨5,d.name⟩] else [])
theorem wR (n:Str) (a b:Bool) (s:Str):(ZC n a b s).length<=2:=by
 unfold ZC;split<;>split<;>simp
theorem zbn (H:Pr P) (ds:List Def) (hD:Z6 ds) (hil:∀o,o∈ds->o.zp.length<=2199023255552) (i:Nat) (d:Def) (h:ds[i]?=some d):z6 P 91 [yT ds,.t (.int .i64 i)] ⟨[],0⟩ {v:= .t (.lst ((YY ds i d).map zn.enc))}:=by
 have hdm:=zMG h;have hd:=hD.d d hdm;have hnm:=hd.nm;have hdl:=hD.l;have hi:i<ds.length:=(w02.1 h).1;have hnl:=wR d.name false (z12 ds i d.name) d.name;have e0:z12 ds i d.name=(qw d.name||(ds.take i).any fun o=>o.name==d.name):=rfl;refine z6.run H.i91 H.mixed Z Z ?_;refine fR Z ?_;refine Mid.za Z Z Z h Z Z ?_;refine fM Z ?_;refine Mid.call (YZ H d.name) Z Z Z Z ?_;refine fM Z ?_;refine zu (ds.take i) (fun j (B:Bool)=>{env:=[(1,.t (.int .i64 i)),(2,.ptr 0 0),(5,.ptr 1 0),(6,.t (.bool B)),(7,.t (.int .i64 j))],s:=⟨[(0,.cells [.t (.lst (ds.map Def.enc))]),(1,(TCo d))],2⟩}) (fun r j B=>z12 ds i d.name=(B||r.any fun o=>o.name==d.name)) 2 (qw d.name) Z e0 Z Z Z ?_ ?_
 ·intro B hB
  have hl:(ds.take i).length=i:=by simp;omega
  have hB':z12 ds i d.name=B:=by rw [hB];simp
  rw [hl]
  have t0:∀L:List zn,L.length<=5->L=YY ds i d->Run P n91 0 (z4 ⟨[],0⟩ {v:= .t (.lst ((YY ds i d).map zn.enc))} r91 .ret) (yf 200 [It.c c91_0]) {env:=[(8,.own 2 2 (L.map zn.enc))],s:=⟨[(2,.arr L.length)],3⟩}:=by
   rintro L hLl rfl;refine fR Z ?_;refine Run.fin Z (z4.go ?_);exact .own Z
  have t3:∀L:List zn,L.length<=4->L++(if qv ds d=true then [⟨5,d.name⟩] else [])=YY ds i d->Run P n91 0 (z4 ⟨[],0⟩ {v:= .t (.lst ((YY ds i d).map zn.enc))} r91 .ret) (yf 200 [It.c c91_3]) {env:=[(2,.ptr 0 0),(5,.ptr 1 0),(8,.own 2 2 (L.map zn.enc))],s:=⟨[(0,.cells [.t (.lst (ds.map Def.enc))]),(1,(TCo d)),(2,.arr L.length)],3⟩}:=by
   rintro L hLl hL;refine fR Z ?_
   refine Mid.call (z6b H ds hD d hd (by intro o ho;rcases w17.1 ho with rfl|ho;exact hil _ hdm;exact hil _ ho)) Z Z Z Z ?_
   refine fM Z ?_;refine Run.cond Z Z (fun hc=>?_) (fun hc=>?_)
   ·refine fR Z ?_;refine apM zn.enc L [(⟨5,d.name⟩:zn)] Z Z Z Z Z ?_ (h1:=by simp;omega) (h2:=by simp;omega);refine Mid.W3 (f:=1) rfl trivial ?_;refine Mid.z4o rfl ?_
    exact Yz 3 Z (t0 (L++[⟨5,d.name⟩]) (by simp;omega) (by rw [←hL,w0c (show qv ds d=true from hc)]<;>simp)) Z Z Z
   ·exact Yz 3 Z (t0 L (by omega) (by rw [←hL,w0d (show ¬ qv ds d=true by rw [show qv ds d=false from hc];simp)]<;>simp)) Z Z Z
  have t7:∀L:List zn,L.length<=3->L++(if Qp d=true then [⟨9,d.name⟩] else [])++(if qv ds d=true then [⟨5,d.name⟩] else [])=YY ds i d->Run P n91 0 (z4 ⟨[],0⟩ {v:= .t (.lst ((YY ds i d).map zn.enc))} r91 .ret) (yf 200 [It.c c91_7]) {env:=[(2,.ptr 0 0),(5,.ptr 1 0),(8,.own 2 2 (L.map zn.enc))],s:=⟨[(0,.cells [.t (.lst (ds.map Def.enc))]),(1,(TCo d)),(2,.arr L.length)],3⟩}:=by
   rintro L hLl hL;refine fR Z ?_;refine Run.cond Z Z (fun hb=>?_) (fun hb=>?_)
   ·refine fR Z ?_;refine apM zn.enc L [(⟨9,d.name⟩:zn)] Z Z Z Z Z ?_ (h1:=by simp;omega) (h2:=by simp;omega);refine Mid.W3 (f:=1) rfl trivial ?_;refine Mid.z4o rfl ?_
    exact Yz 3 Z (t3 (L++[⟨9,d.name⟩]) (by simp;omega) (by rw [←hL,w0c (show Qp d=true from hb)]<;>simp)) Z Z Z
   ·exact Yz 3 Z (t3 L (by omega) (by rw [←hL,w0d (show ¬ Qp d=true by rw [show Qp d=false from hb];simp)]<;>simp)) Z Z Z
  refine fR Z ?_;refine Run.zf Z Z (by simp) ?_;refine fR Z ?_;rw [hB'] at hnl
  refine Mid.z4b [] (zal H d.name hnm false B d.name) Z Z Z Z (by simp [zP]) (by repeat' (first |exact trivial|exact rfl|refine And.intro ?_ ?_|exact (congrArg some (z5.zD _ _ _ _ _ _)).symm|exact (congrArg some (z5.zE _ _ _)).symm)) Z Z (ob':=[(2,.arr (ZC d.name false B d.name).length)]) (rfl) Z Z ?_
  refine fM Z ?_;refine Mid.call (zd3 H d) Z Z Z Z ?_;refine fM Z ?_
  have hL:ZC d.name false B d.name++(if Y1 d=true then [⟨8,d.name⟩] else [])++(if Qp d=true then [⟨9,d.name⟩] else [])++(if qv ds d=true then [⟨5,d.name⟩] else [])=YY ds i d:=by unfold YY;rw [hB']
  generalize ZC d.name false B d.name=L at hL hnl;refine Run.cond Z Z (fun he=>?_) (fun he=>?_)
  ·refine fR Z ?_;refine apM zn.enc L [(⟨8,d.name⟩:zn)] Z Z Z Z Z ?_ (h1:=by simp;omega) (h2:=by simp;omega);refine Mid.W3 (f:=1) rfl trivial ?_;refine Mid.z4o rfl ?_
   exact Yz 3 Z (t7 (L++[⟨8,d.name⟩]) (by simp;omega) (by rw [←hL,w0c (show Y1 d=true from he)]<;>simp)) Z Z Z
  ·exact Yz 3 Z (t7 L (by omega) (by rw [←hL,w0d (show ¬ Y1 d=true by rw [show Y1 d=false from he];simp)]<;>simp)) Z Z Z
 ·intro j o r B h1 hj hjd hB ih
  have hji:j<i:=by simp at hj;omega
  have ho:ds[j]?=some o:=by rw [w0p] at h1;rw [w0c hji] at h1;exact h1
  have hjl:j<ds.length:=by omega
  refine fR Z ?_;refine Run.zj Z Z (by simp;omega) ?_;refine fR Z ?_;refine elG Z Z Z Z ho Z Z ?_;refine fM Z ?_;refine aL Z Z Z Z Z ?_;refine fM Z ?_
  exact zh 2 Z (ih (B||o.name==d.name) (by rw [hB];simp only [w14];cases B<;>simp)) Z Z Z
end Go.GB.C11
namespace Go.GB.C11
open Go.GB
variable {P:Program}
def zcB (ds:List Def) (p:List Input) (x:Input) (at_:Str):List zn:=
 ZC x.name false (zU x.name p).isSome at_++(if QS ds x.ty.name=false then [⟨8,at_⟩] else if z1R ds x.ty.name=false then [⟨10,at_⟩] else [])
def inF (ds:List Def) (pre post:Str):List Input->List Input->List zn
 |_,[]=>[]
 |p,x::r=>zcB ds p x (pre++x.name++post)++inF ds pre post (p++[x]) r
theorem YV (H:Pr P) (ds:List Def) (hD:Z6 ds) (l:List Input) (hl:l.length<=140737488355328) (hlo:∀y,y∈l->y.Ok) (pre post:Str) (hp:pre.length<=1125899906842624) (hq:post.length<=1125899906842624) (ht:(inF ds pre post [] l).length<=4398046511104):
  z6 P 94 [yT ds,.t (.lst (l.map Input.enc)),.t (.str pre),.t (.str post)] ⟨[],0⟩ {v:= .t (.lst ((inF ds pre post [] l).map zn.enc))}:=by
 generalize hT:inF ds pre post [] l=tot at ht;refine z6.run H.i94 H.mixed Z Z ?_;refine fR Z ?_;refine zu l (fun i (B:List zn)=>{env:=[(1,.t (.lst (l.map Input.enc))),(2,.t (.str pre)),(3,.t (.str post)),(4,.ptr 0 0),(9,.own 1 2 (B.map zn.enc)),(10,.t (.int .i64 i))],s:=⟨[(0,.cells [.t (.lst (ds.map Def.enc))]),(1,.arr B.length)],2⟩}) (fun r i B=>B++inF ds pre post (l.take i) r=tot) 1 [] Z (by simpa using hT) Z Z Z ?_ ?_
 ·rintro B hB
  obtain rfl:B=tot:=by rw [←hB];simp [inF]
  refine fR Z ?_;refine lM Z Z Z ?_;refine fM Z ?_;refine Run.zf Z Z (by simp) ?_;refine fR Z ?_;refine Run.fin Z (z4.go ?_);exact .own Z
 ·rintro i x r B h1 hi hd hB ih;have hx:=hlo x (zMG h1);have hxn:=hx.nm
  have htk:l.take i++[x]=l.take (i+1):=by rw [w11,h1];rfl
  have htkl:(l.take i).length<=140737488355328:=by simp;omega
  simp only [inF,zcB,htk] at hB;generalize hAt:pre++x.name++post=at_ at hB
  have hatl:at_.length<=4503599627370496:=by rw [←hAt];simp;omega
  have hlen:=congrArg List.length hB;simp only [w0g] at hlen;refine fR Z ?_;refine lM Z Z Z ?_;refine fM Z ?_;refine Run.zj Z Z (by simp;omega) ?_;refine fR Z ?_;refine Mid.za Z Z Z h1 Z Z ?_;refine fM Z ?_;refine pu Z ?_;refine fM Z ?_;refine pu Z ?_;refine fM Z ?_;refine lTo Z Z Z Z ?_;refine fM Z ?_;rw [hAt];refine Mid.za Z Z Z h1 Z Z ?_;refine fM Z ?_;refine Mid.call (W6 H (l.take i) htkl x.name) Z Z Z Z ?_;refine fM Z ?_;refine Mid.za Z Z Z h1 Z Z ?_;refine fM Z ?_;refine Mid.call (z35 H x.name hxn false (zU x.name (l.take i)).isSome at_) Z Z Z Z ?_;skip;generalize ZC x.name false (zU x.name (l.take i)).isSome at_=N at hB hlen;refine apM zn.enc B N Z Z Z Z Z ?_ (h1:=by first |omega|(simp;omega)|(simp;done)) (h2:=by first |omega|(simp;omega)|(simp;done));refine fM rfl ?_;refine Mid.za rfl rfl rfl h1 rfl rfl ?_;refine fM rfl ?_;refine Mid.call (z7w H ds hD x.ty.name) rfl rfl rfl rfl ?_;refine fM rfl ?_;refine Run.cond rfl rfl (fun hk=>?_) (fun hk=>?_)
  ·have hk':QS ds x.ty.name=false:=by simpa using hk
   rw [w0c hk'] at hB hlen;simp only [w0b,w16] at hlen;refine fR Z ?_;refine apM zn.enc (B++N) [(⟨8,at_⟩:zn)] Z Z Z Z Z ?_ (h1:=by first |omega|(simp;omega)|(simp;done)) (h2:=by first |omega|(simp;omega)|(simp;done));refine fM rfl ?_;refine aL rfl rfl rfl rfl rfl ?_;refine fM rfl ?_;exact zh 2 rfl (ih (B++N++[⟨8,at_⟩]) (by rw [←hB];simp)) rfl rfl rfl
  ·have hk':¬ QS ds x.ty.name=false:=by simpa using hk
   rw [w0d hk'] at hB hlen;refine fR Z ?_;refine Mid.za Z Z Z h1 Z Z ?_;refine fM Z ?_;refine Mid.call (QW H ds hD x.ty.name) Z Z Z Z ?_;refine fM Z ?_;refine Run.cond Z Z (fun hy=>?_) (fun hy=>?_)
   ·have hy':z1R ds x.ty.name=false:=by simpa using hy
    rw [w0c hy'] at hB hlen;simp only [w0b,w16] at hlen;refine fR Z ?_;refine apM zn.enc (B++N) [(⟨10,at_⟩:zn)] Z Z Z Z Z ?_ (h1:=by first |omega|(simp;omega)|(simp;done)) (h2:=by first |omega|(simp;omega)|(simp;done));refine fM rfl ?_;refine aL rfl rfl rfl rfl rfl ?_;refine fM rfl ?_;exact zh 2 rfl (ih (B++N++[⟨10,at_⟩]) (by rw [←hB];simp)) rfl rfl rfl
   ·have hy':¬ z1R ds x.ty.name=false:=by simpa using hy
    rw [w0d hy'] at hB hlen;refine fR Z ?_;refine aL Z Z Z Z Z ?_;refine fM Z ?_;exact zh 2 Z (ih (B++N) (by rw [←hB];simp)) Z Z Z
def zdP (ds:List Def) (n:Str):Bool:=!qw n&&(zi n ds).isSome&&((zi n ds).getD Def.zero).kind==5
def z87 (ds:List Def) (p:List Field) (x:Field) (at_:Str):List zn:=
 ZC x.name false (Z5 x.name p).isSome at_++(if QS ds x.ty.name=false then [⟨8,at_⟩] else if zdP ds x.ty.name=true then [⟨10,at_⟩] else [])++inF ds (at_++[40]) [41] [] x.args
def z0G (ds:List Def) (n:Str):List Field->List Field->List zn
 |_,[]=>[]
 |p,x::r=>z87 ds p x (n++[46]++x.name)++z0G ds n (p++[x]) r
theorem Qh (H:Pr P) (ds:List Def) (hD:Z6 ds) (d:Def) (hd:d.Ok) (ht:(z0G ds d.name [] d.fields).length<=4398046511104):z6 P 92 [yT ds,d.v] ⟨[],0⟩ {v:= .t (.lst ((z0G ds d.name [] d.fields).map zn.enc))}:=by
 have hfl:=hd.fl;have hnm:=hd.nm;generalize hT:z0G ds d.name [] d.fields=tot at ht;refine z6.run H.i92 H.mixed Z Z ?_;refine fR Z ?_;refine zu d.fields (fun i (B:List zn)=>{env:=[(2,.ptr 0 0),(3,.ptr 1 0),(5,.own 2 2 (B.map zn.enc)),(6,.t (.int .i64 i))],s:=⟨[(0,.cells [.t (.lst (ds.map Def.enc))]),(1,(TCo d)),(2,.arr B.length)],3⟩}) (fun r i B=>B++z0G ds d.name (d.fields.take i) r=tot) 2 [] Z (by simpa using hT) Z Z Z ?_ ?_
 ·rintro B hB
  obtain rfl:B=tot:=by rw [←hB];simp [z0G]
  refine fR Z ?_;refine lM Z Z Z ?_;refine fM Z ?_;refine Run.zf Z Z (by simp) ?_;refine fR Z ?_;refine Run.fin Z (z4.go ?_);exact .own Z
 ·rintro i x r B h1 hi hdr hB ih;have hx:=hd.f x (zMG h1);have hxn:=hx.nm;have hxl:=hx.al
  have htk:d.fields.take i++[x]=d.fields.take (i+1):=by rw [w11,h1];rfl
  have htkl:(d.fields.take i).length<=140737488355328:=by simp;omega
  simp only [z0G,z87,htk] at hB;generalize hAt:d.name++[46]++x.name=at_ at hB
  have hatl:at_.length<=1125899906842000:=by rw [←hAt];simp;omega
  have hlen:=congrArg List.length hB;simp only [w0g] at hlen;refine fR Z ?_;refine lM Z Z Z ?_;refine fM Z ?_;refine Run.zj Z Z (by simp;omega) ?_;refine fR Z ?_;refine Mid.za Z Z Z h1 Z Z ?_;refine fM Z ?_;refine pu Z ?_;refine fM Z ?_;refine pu Z ?_;refine fM Z ?_;refine lTo Z Z Z Z ?_;refine fM Z ?_;rw [hAt];refine Mid.call (Q3 H ⟨0,[],[],[],d.fields.take i,[],[]⟩ htkl x.name) Z Z Z Z ?_;refine fM Z ?_;refine Mid.call (z35 H x.name hxn false (Z5 x.name (d.fields.take i)).isSome at_) Z Z Z Z ?_;skip;generalize ZC x.name false (Z5 x.name (d.fields.take i)).isSome at_=N at hB hlen;refine apM zn.enc B N Z Z Z Z Z ?_ (h1:=by first |omega|(simp;omega)|(simp;done)) (h2:=by first |omega|(simp;omega)|(simp;done));refine fM rfl ?_;refine Mid.call (yh H ds hD.l x.ty.name) rfl rfl rfl rfl ?_;refine fM rfl ?_;refine Mid.call (z7w H ds hD x.ty.name) rfl rfl rfl rfl ?_;refine fM rfl ?_;refine Run.cond rfl rfl (fun hk=>?_) (fun hk=>?_)
  ·have hk':QS ds x.ty.name=false:=by simpa using hk
   rw [w0c hk'] at hB hlen;simp only [w0b,w16] at hlen;refine fR Z ?_;refine apM zn.enc (B++N) [(⟨8,at_⟩:zn)] Z Z Z Z Z ?_ (h1:=by first |omega|(simp;omega)|(simp;done)) (h2:=by first |omega|(simp;omega)|(simp;done));refine fM rfl ?_;refine pu rfl ?_;refine Mid.call (YV H ds hD x.args hxl hx.a (at_++[40]) [41] (by simp;omega) (by decide) (by omega)) rfl rfl rfl rfl ?_;skip;generalize inF ds (at_++[40]) [41] [] x.args=M at hB hlen;refine apM zn.enc (B++N++[⟨8,at_⟩]) M rfl rfl rfl rfl rfl ?_ (h1:=by first |omega|(simp;omega)|(simp;done)) (h2:=by first |omega|(simp;omega)|(simp;done));refine fM rfl ?_;refine aL rfl rfl rfl rfl rfl ?_;refine fM rfl ?_;exact zh 3 rfl (ih (B++N++[⟨8,at_⟩]++M) (by rw [←hB];simp)) rfl rfl rfl
  ·have hk':¬ QS ds x.ty.name=false:=by simpa using hk
   rw [w0d hk'] at hB hlen;refine fR Z ?_;refine Mid.call (YZ H x.ty.name) Z Z Z Z ?_;refine fM Z ?_;refine Run.cond Z Z (fun hy=>?_) (fun hy=>?_)
   ·have hy':zdP ds x.ty.name=true:=hy;rw [w0c hy'] at hB hlen;simp only [w0b,w16] at hlen;refine fR Z ?_;refine apM zn.enc (B++N) [(⟨10,at_⟩:zn)] Z Z Z Z Z ?_ (h1:=by first |omega|(simp;omega)|(simp;done)) (h2:=by first |omega|(simp;omega)|(simp;done));refine fM rfl ?_;refine pu rfl ?_;refine Mid.call (YV H ds hD x.args hxl hx.a (at_++[40]) [41] (by simp;omega) (by decide) (by omega)) rfl rfl rfl rfl ?_;skip;generalize inF ds (at_++[40]) [41] [] x.args=M at hB hlen;refine apM zn.enc (B++N++[⟨10,at_⟩]) M rfl rfl rfl rfl rfl ?_ (h1:=by first |omega|(simp;omega)|(simp;done)) (h2:=by first |omega|(simp;omega)|(simp;done));refine fM rfl ?_;refine aL rfl rfl rfl rfl rfl ?_;refine fM rfl ?_;exact zh 3 rfl (ih (B++N++[⟨10,at_⟩]++M) (by rw [←hB];simp)) rfl rfl rfl
   ·have hy':¬ zdP ds x.ty.name=true:=by rw [show zdP ds x.ty.name=false from hy];simp
    rw [w0d hy'] at hB hlen;simp only [w16] at hlen;refine fR Z ?_;refine pu Z ?_;refine Mid.call (YV H ds hD x.args hxl hx.a (at_++[40]) [41] (by simp;omega) (by decide) (by omega)) Z Z Z Z ?_;skip;generalize inF ds (at_++[40]) [41] [] x.args=M at hB hlen;refine apM zn.enc (B++N) M Z Z Z Z Z ?_ (h1:=by first |omega|(simp;omega)|(simp;done)) (h2:=by first |omega|(simp;omega)|(simp;done));refine fM rfl ?_;refine aL rfl rfl rfl rfl rfl ?_;refine fM rfl ?_;exact zh 3 rfl (ih (B++N++M) (by rw [←hB];simp)) rfl rfl rfl
def z5o (n:Str):Bool:=n==[116,114,117,101]||n==[102,97,108,115,101]||n==[110,117,108,108]
def z21 (t:Str):List ZA->List ZA->List zn
 |_,[]=>[]
 |p,x::r=>ZC x.name (z5o x.name) (W4 p x.name) (t++[46]++x.name)++z21 t (p++[x]) r
theorem q5 (H:Pr P) (d:Def) (hd:d.Ok) (ht:(z21 d.name [] d.members).length<=4398046511104):z6 P 93 [d.v] ⟨[],0⟩ {v:= .t (.lst ((z21 d.name [] d.members).map zn.enc))}:=by
 have hfl:=hd.ml;have hnm:=hd.nm;generalize hT:z21 d.name [] d.members=tot at ht;refine z6.run H.i93 H.mixed Z Z ?_;refine fR Z ?_;refine zu d.members (fun i (B:List zn)=>{env:=[(1,.ptr 0 0),(3,.own 1 2 (B.map zn.enc)),(4,.t (.int .i64 i))],s:=⟨[(0,(TCo d)),(1,.arr B.length)],2⟩}) (fun r i B=>B++z21 d.name (d.members.take i) r=tot) 1 [] Z (by simpa using hT) Z Z Z ?_ ?_
 ·rintro B hB
  obtain rfl:B=tot:=by rw [←hB];simp [z21]
  refine fR Z ?_;refine lM Z Z Z ?_;refine fM Z ?_;refine Run.zf Z Z (by simp) ?_;refine fR Z ?_;refine Run.fin Z (z4.go ?_);exact .own Z
 ·rintro i x r B h1 hi hdr hB ih;have hx:=hd.m x (zMG h1);have hxn:=hx.nm
  have htk:d.members.take i++[x]=d.members.take (i+1):=by rw [w11,h1];rfl
  have htkl:(d.members.take i).length<=140737488355328:=by simp;omega
  simp only [z21,htk] at hB;generalize hAt:d.name++[46]++x.name=at_ at hB
  have hatl:at_.length<=1125899906842000:=by rw [←hAt];simp;omega
  have hlen:=congrArg List.length hB;simp only [w0g] at hlen;refine fR Z ?_;refine lM Z Z Z ?_;refine fM Z ?_;refine Run.zj Z Z (by simp;omega) ?_;refine fR Z ?_;refine Mid.za Z Z Z h1 Z Z ?_;refine fM Z ?_;refine zu (d.members.take i) (fun j (C:Bool)=>{env:=[(1,.ptr 0 0),(3,.own 1 2 (B.map zn.enc)),(4,.t (.int .i64 i)),(5,.t (.str x.name)),(6,.t (.bool C)),(7,.t (.int .i64 j))],s:=⟨[(0,(TCo d)),(1,.arr B.length)],2⟩}) (fun r j C=>W4 (d.members.take i) x.name=(C||W4 r x.name)) 2 false Z (by simp) Z Z Z ?_ ?_
  ·intro C hC
   have hl:(d.members.take i).length=i:=by simp;omega
   have hC':W4 (d.members.take i) x.name=C:=by rw [hC];simp [W4]
   rw [hl];rw [hC'] at hB hlen;refine fR Z ?_;refine Run.zf Z Z (by simp) ?_;refine fR Z ?_;refine pu Z ?_;refine fM Z ?_;refine pu Z ?_;rw [hAt];refine Mid.call (z35 H x.name hxn (z5o x.name) C at_) Z Z Z Z ?_;skip;generalize ZC x.name (z5o x.name) C at_=N at hB hlen;refine apM zn.enc B N Z Z Z Z Z ?_ (h1:=by first |omega|(simp;omega)|(simp;done)) (h2:=by first |omega|(simp;omega)|(simp;done));refine fM rfl ?_;refine aL rfl rfl rfl rfl rfl ?_;refine fM rfl ?_;exact zh 2 rfl (ih (B++N) (by rw [←hB];simp)) rfl rfl rfl
  ·intro j o r2 C h2 hj hjd hC ih2
   have hji:j<i:=by simp at hj;omega
   have ho:d.members[j]?=some o:=by rw [w0p] at h2;rw [w0c hji] at h2;exact h2
   have hjl:j<d.members.length:=by omega
   refine fR Z ?_;refine Run.zj Z Z (by simp;omega) ?_;refine fR Z ?_;refine elG Z Z Z Z ho Z Z ?_;refine fM Z ?_;refine aL Z Z Z Z Z ?_;refine fM Z ?_
   exact zh 2 Z (ih2 (C||o.name==x.name) (by rw [hC];simp only [W4,w14];cases C<;>simp)) Z Z Z
end Go.GB.C11
namespace Go.GB.C11
open Go.GB
variable {P:Program}
def z0a:Str:=[81,117,101,114,121]
def zdH (ds:List Def) (d:Def):List zn:=
 if d.kind=1 then z0G ds d.name [] d.fields else if d.kind=2 then z0G ds d.name [] d.fields
 else if d.kind=4 then z21 d.name [] d.members else if d.kind=5 then inF ds (d.name++[46]) [] [] d.zp else []
def z5u (ds:List Def):Nat->List Def->List zn
 |_,[]=>[]
 |i,d::r=>YY ds i d++zdH ds d++z5u ds (i+1) r
def z7i (ds:List Def) (q:Bool):List zn:=if (q&&!(zi z0a ds).isSome)=true then [⟨30,z0a⟩] else []
def Ym (ds:List Def) (q:Bool):List zn:=z5u ds 0 ds++z7i ds q
end Go.GB.C11
namespace Go.GB
open Go.RowKit Go.WideShapes Go.ChangeShapes
abbrev z5c:Nat->Lab:=fun _=> .fix none
def WT (P:Program):Nat->TypeId->List T->Prop
 |0,_,_=>False
 |n+1,t,ts=>
  match P.underlying t with
  |some .bool=>∃b,ts=[.bool b]
  |some (.int k)=>∃x,ts=[.int k x]/\(Lit.int k x).wf=true
  |some .string=>∃s,ts=[.str s]/\s.length<=reachBytes
  |some (.slice e)=>∃xs,ts=[.lst xs]/\xs.length*P.bytesOf e<=reachBytes/\xs.length<=maxLen/\∀c∈xs,WT P n e c
  |some (.struct fs)=>ts.length=P.cellsOf t/\∀f∈fs.toList,WT P n f.type ((ts.drop f.offset).take (P.cellsOf f.type))
  |some (.array m e)=>ts.length=P.cellsOf t/\∀i,i<m->WT P n e ((ts.drop (i*P.cellsOf e)).take (P.cellsOf e))
  |_=>False
def z1i (P:Program):Nat->List (Nat×TypeId)->Option Nat
 |off,[]=>some off
 |off,(o,t)::r=>if o=off then z1i P (off+P.cellsOf t) r else none
def z2R (P:Program) (S:List TypeId):Bool:=
 S.all fun t=>
  match P.underlying t with
  |some .bool=>true
  |some (.int _)=>true
  |some .string=>true
  |some (.slice e)=>S.contains e&&decide (0<P.cellsOf e)
  |some (.struct fs)=>(fs.toList.all fun f=>S.contains f.type)&&(z1i P 0 (fs.toList.map fun f=>(f.offset,f.type))==some (P.cellsOf t))
  |some (.array m e)=>S.contains e&&(z1i P 0 ((List.range m).map fun i=>(i*P.cellsOf e,e))==some (P.cellsOf t))
  |_=>false
def z3G (w:World) (cs:List Value) (ts:List T):Prop:=cs.length=ts.length/\∀(j:Nat) (v:Value) (x:T),cs[j]?=some v->ts[j]?=some x->zR z5c w v x
theorem z3G.one {w:World} {v:Value} {x:T} (h:zR z5c w v x):z3G w [v] [x]:=by
 refine ⟨rfl,fun j u y h1 h2=>?_⟩
 cases j with
 |zero=>simp at h1 h2;subst h1;subst h2;exact h
 |succ j=>simp at h1
theorem z0y {α β:Type} {g:α->Option β}:∀{l:List α} {r:List β},l.mapM g=some r->l.length=r.length/\∀(j:Nat) (x:α),l[j]?=some x->∃y,r[j]?=some y/\g x=some y
 |[],r,h=>by simp at h;subst h;simp
 |a::l,r,h=>by
  simp only [List.mapM_cons,w03,Option.pure_def,w01] at h;obtain ⟨y,hy,r',hr,h⟩:=h;simp at h;subst h;obtain ⟨i1,i2⟩:=z0y hr
  refine ⟨by simp [i1],fun j x hx=>?_⟩
  cases j with
  |zero=>simp at hx;subst hx;exact ⟨y,rfl,hy⟩
  |succ j=>simpa using i2 j x (by simpa using hx)
theorem za2 {w:World} {a:Addr} {v:Value} (h:w.cell? a=some v):a.spot=none:=by
 unfold World.cell? at h
 cases hs:a.spot with
 |none=>rfl
 |some s=>
  rw [hs] at h
  split at h<;>simp_all
theorem cells?_at {w:World} {base n:Nat} {a:Addr} {cs:List Value} (h:w.cells? base a n=some cs):cs.length=n/\∀(j:Nat) (v:Value),cs[j]?=some v->w.cell? (a.add j)=some v:=by
 unfold World.cells? at h;split at h
 ·obtain ⟨h1,h2⟩:=z0y h;simp at h1;refine ⟨h1.symm,fun j v hj=>?_⟩
  have hlt:j<n:=by rw [h1];exact (w02.1 hj).1
  obtain ⟨y,e1,e2⟩:=h2 j j (by simp [hlt]);rw [hj] at e1;simp at e1;subst e1;exact e2
 ·cases h
theorem z1U {α:Type} {Q:Nat->α->Prop}:∀(n:Nat),(∀j,j<n->∃v,Q j v)->∃vs:List α,vs.length=n/\∀(j:Nat) (v:α),vs[j]?=some v->Q j v
 |0,_=>⟨[],rfl,by simp⟩
 |n+1,h=>by
  obtain ⟨vs,hl,hv⟩:=z1U n (fun j hj=>h j (by omega));obtain ⟨v,hq⟩:=h n (by omega)
  refine ⟨vs++[v],by simp [hl],fun j u hu=>?_⟩
  by_cases hj:j<vs.length
  ·rw [w0h hj] at hu;exact hv j u hu
  ·rw [w0i (by omega)] at hu;by_cases e:j=n
   ·subst e;rw [hl] at hu;simp at hu;subst hu;exact hq
   ·rw [w12 (by simp;omega)] at hu;cases hu
section
variable {H:Type} {enc:TypeId×Value->H} {P:Program} {w:World} {sp:Nat->Bool} {held:Bool} {S:List TypeId}
theorem Wk {e:TypeId} {r:Nat->Bool}:∀(l:List (DataW H)),(DataW.weightsAll P e l).all r=true->∀d∈l,(d.weights P e).all r=true
 |[],_,d,h=>by cases h
 |x::l,h,d,hd=>by
  simp only [DataW.weightsAll,List.all_append,w0a] at h
  cases hd with
  |head=>exact h.1
  |tail _ hd=>exact Wk l h.2 d hd
theorem qM {r:Nat->Bool}:∀(ts:List TypeId) (l:List (DataW H)),(DataW.weightsEach P ts l).all r=true->∀(j:Nat) t d,ts[j]?=some t->l[j]?=some d->(d.weights P t).all r=true
 |[],l,_,j,t,d,h,_=>by simp at h
 |t::ts,[],_,j,t',d,_,h=>by simp at h
 |t::ts,x::l,h,j,t',d,h1,h2=>by
  simp only [DataW.weightsEach,List.all_append,w0a] at h
  cases j with
  |zero=>simp at h1 h2;subst h1;subst h2;exact h.1
  |succ j=>exact qM ts l h.2 j t' d (by simpa using h1) (by simpa using h2)
def z3H (P:Program) (t:TypeId) (ts:List T):V:=if Zd P t then .agg (ts.map V.t) else .t (ts.headD .z11)
def L.all (w:World):L:={lab:=z5c,fro:=fun _=>0,nxt:=0,w:=w,frf:=fun _ _=>0}
theorem Z7.all (w:World):Z7 (L.all w) ⟨[],0⟩:=⟨by simp [zl],fun b b' k h=>by simp [L.all] at h,fun _ _=>rfl,fun b k h=>by simp [L.all] at h,fun _ _=>rfl,fun b b' k i h=>by simp [L.all] at h,fun b k h=>by simp [L.all] at h,fun _ _ _=>rfl⟩
inductive WTs (P:Program):List TypeId->List V->Prop
 |nil:WTs P [] []
 |cons {t:TypeId} {ts:List TypeId} {n:Nat} {xs:List T} {vs:List V} (h:WT P n t xs) (r:WTs P ts vs):WTs P (t::ts) (z3H P t xs::vs)
theorem QI (hl:laidOutB P=true) {W W':World} (hb:Below W.heap.size W W') {sp':Nat->Bool}:∀(ts:List TypeId) (vs:List Value) (ds:List (DataW H)) (ps:List MemPlace),(∀t∈ts,P.readableRec t=true/\t<P.types.size)->DataW.TrodAll enc P W 0 (fun _=>true) true ts vs ds ps->
  (∀p∈ps,p.block<W.heap.size)->(∀p∈ps,sp' p.block=true)->DataW.TrodAll enc P W' 0 sp' true ts vs ds ps
 |[],[],[],_,_,h,_,_=>h
 |t::ts,v::vs,d::ds,_,hT,⟨p,q,h1,h2,e⟩,hlt,hs=>by
  subst e;refine ⟨p,q,WideElems.Trod_stays hl (hT t (by simp)).1 (hT t (by simp)).2 h1 (fun x hx=>hb.same (hlt x (w1l _ hx))) (fun x hx=>hs x (w1l _ hx)),?_,rfl⟩;exact QI hl hb ts vs ds q (fun t ht=>hT t (w08 _ ht)) h2 (fun x hx=>hlt x (List.mem_append_right _ hx)) (fun x hx=>hs x (List.mem_append_right _ hx))
 |[],_::_,_,_,_,h,_,_=>by simp [DataW.TrodAll] at h
 |[],[],_::_,_,_,h,_,_=>by simp [DataW.TrodAll] at h
 |_::_,[],_,_,_,h,_,_=>by simp [DataW.TrodAll] at h
 |_::_,_::_,[],_,_,h,_,_=>by simp [DataW.TrodAll] at h
end
section
variable {H:Type} {enc:TypeId×Value->H} {P:Program}
theorem z3R {f:Func} {s:ChangeSpec} {apart fresh handsOn again:Bool} {W W':World} {args:Array Value} {v:Value} {ds gs:List (DataW H)} {before pa pv:List MemPlace}
  (hW:DataW.Whole enc P f.params.toList s.vars apart W args.toList ds gs before)
  (hres:∀(b:Nat) (sp:Nat->Bool) (hd:Bool),DataW.TrodAll enc P W' b sp hd f.resultTypes.toList (v.resultList f.resultTypes.size) (s.fn H (ds++gs)).results [])
  (hargs:∀sp:Nat->Bool,(∀p∈before,sp p.block=true)->DataW.TrodAll enc P W' 0 sp true f.params.toList args.toList (s.fn H (ds++gs)).args pa)
  (hvars:∀sp:Nat->Bool,(∀p∈before,sp p.block=true)->DataW.TrodVars enc P W' sp s.vars (s.fn H (ds++gs)).vars pv)
  (hps:before=pa++pv) (hb:Below W.heap.size W W')
  (hok:∀(j:Nat) (t:TypeId) (r:Value),f.resultTypes[j]?=some t->(v.resultList f.resultTypes.size)[j]?=some r->Value.okWide P W' .any 0 t r):
  s.post enc P f apart fresh handsOn again W args v W':=by
 have hlt:∀p∈before,p.block<W.heap.size:=fun p hp=>hW.lt p hp
 have hold:∀p∈before,(fun b=>decide (b<W.heap.size)) p.block=true:=fun p hp=>by simpa using hlt p hp
 refine ⟨ds,gs,before,[],pa,pv,hW,hres _ _ _,hargs _ hold,hvars _ hold,World.keptBut_mono (fun p hp=>⟨hp,?_⟩) (hb.frame (· ∈before)),fun _=>?_⟩
 ·rw [hps,w19] at hp;exact Or.inr hp
 ·obtain ⟨_,_,_,_,_,hz,hn⟩:=hW;refine ⟨hok,_,_,([]++pa)++pv,⟨[]++pa,pv,trodAll_append (hargs _ (fun _ _=>rfl)) (hres _ _ _),hvars _ (fun _ _=>rfl),rfl,?_,?_⟩,?_⟩
  ·intro b off hp
   have hin:MemPlace.cell b off∈before:=by rw [hps];simpa using hp
   rw [hb.frozen (hlt _ hin)];exact hz b off hin
  ·intro ha;have:=hn ha;rw [hps] at this;simpa using this
  ·intro p hp _;rw [hps];simpa using hp
end
inductive Sh where
 |bool
 |int (k:IntKind)
 |str
 |lst (b:Nat) (s:List Sh)
 |any
 |num (i:Nat)
def z19 (P:Program) (g:TypeId->Option (List Sh)):Nat->List (Nat×TypeId)->Option (List Sh)
 |_,[]=>some []
 |off,(o,t)::r=>
  if o=off then
   match g t with
   |some a=>if a.length=P.cellsOf t then (z19 P g (off+P.cellsOf t) r).map fun b=>a++b else none
   |none=>none
  else none
def z0o (P:Program) (sp:TypeId->Option Nat):Nat->TypeId->Option (List Sh)
 |0,t=>
  match P.underlying t with
  |some .bool=>some [.bool]
  |some (.int k)=>some [.int k]
  |some .string=>some [.str]
  |some (.slice e)=>match sp e with|some i=>some [.num i]|none=>some [.any]
  |_=>none
 |n+1,t=>
  match P.underlying t with
  |some .bool=>some [.bool]
  |some (.int k)=>some [.int k]
  |some .string=>some [.str]
  |some (.slice e)=>match sp e with|some i=>some [.num i]|none=>(z0o P sp n e).map fun s=>[.lst (P.bytesOf e) s]
  |some (.struct fs)=>(z19 P (z0o P sp n) 0 (fs.toList.map fun f=>(f.offset,f.type))).bind fun s=>if s.length=P.cellsOf t then some s else none
  |some (.array m e)=>(z19 P (z0o P sp n) 0 ((List.range m).map fun i=>(i*P.cellsOf e,e))).bind fun s=>if s.length=P.cellsOf t then some s else none
  |_=>none
mutual
def Sh.ok (Y:Nat->T->Prop):Sh->T->Prop
 | .bool,x=>∃b,x= .bool b
 | .int k,x=>∃n,x= .int k n/\(Lit.int k n).wf=true
 | .str,x=>∃s,x= .str s/\s.length<=reachBytes
 | .lst b sh,x=>∃xs:List (List T),x= .lst xs/\xs.length*b<=reachBytes/\xs.length<=maxLen/\∀c∈xs,Sh.oks Y sh c
 | .any,_=>True
 | .num i,x=>Y i x
def Sh.oks (Y:Nat->T->Prop):List Sh->List T->Prop
 |[],[]=>True
 |s::r,x::ts=>s.ok Y x/\Sh.oks Y r ts
 |_,_=>False
end
theorem Sh.z3w {Y:Nat->T->Prop}:∀{a b:List Sh} {ts us:List T},Sh.oks Y a ts->Sh.oks Y b us->Sh.oks Y (a++b) (ts++us)
 |[],b,[],us,_,h=>h
 |[],b,x::ts,us,h,_=>by simp [Sh.oks] at h
 |s::r,b,[],us,h,_=>by simp [Sh.oks] at h
 |s::r,b,x::ts,us,h,k=>by
  simp only [Sh.oks,w23] at h⊢;exact ⟨h.1,Sh.z3w h.2 k⟩
theorem z1e {P:Program} {Y:Nat->T->Prop} {g:TypeId->Option (List Sh)} {n:Nat} (hg:∀t sh ts,g t=some sh->WT P n t ts->Sh.oks Y sh ts):∀(l:List (Nat×TypeId)) (off:Nat) (sh:List Sh) (ts:List T),z19 P g off l=some sh->(∀p∈l,WT P n p.2 ((ts.drop p.1).take (P.cellsOf p.2)))->
  ∃us,Sh.oks Y sh us/\us=(ts.drop off).take sh.length
 |[],off,sh,ts,h,_=>by simp [z19] at h;subst h;exact ⟨[],trivial,by simp⟩
 |(o,t)::r,off,sh,ts,h,hp=>by
  simp only [z19] at h;split at h
  ·rename_i e;subst e;split at h
   ·rename_i a ha;split at h
    ·rename_i hl;simp only [w05] at h;obtain ⟨b,hb,rfl⟩:=h;have h1:=hg t a _ ha (hp (o,t) (by simp));obtain ⟨us,h2,h3⟩:=z1e hg r _ b ts hb fun p hpm=>hp p (w08 _ hpm);refine ⟨_,Sh.z3w h1 h2,?_⟩;simp only at h1⊢;rw [h3,w0g,hl,List.take_add,List.drop_drop]
    ·cases h
   ·cases h
  ·cases h
theorem Qg {P:Program} {sp:TypeId->Option Nat} {Y:Nat->T->Prop}:∀(n m:Nat) (t:TypeId) (sh:List Sh) (ts:List T),(∀e i k xs,k<n->sp e=some i->xs.length*P.bytesOf e<=reachBytes->xs.length<=maxLen->(∀c∈xs,WT P k e c)->Y i (.lst xs))->z0o P sp m t=some sh->WT P n t ts->Sh.oks Y sh ts
 |0,m,t,sh,ts,_,_,h=>by simp [WT] at h
 |n+1,0,t,sh,ts,hsp,hs,h=>by
  simp only [z0o] at hs;simp only [WT] at h
  cases hu:P.underlying t with
  |none=>rw [hu] at h;exact h.elim
  |some td=>
   rw [hu] at h hs
   cases td with
   |bool=>simp only [w00] at hs h;subst hs;obtain ⟨b,rfl⟩:=h;exact ⟨⟨b,rfl⟩,trivial⟩
   |int k=>simp at hs h;subst hs;obtain ⟨x,rfl,hw⟩:=h;exact ⟨⟨x,rfl,hw⟩,trivial⟩
   |string=>simp at hs h;subst hs;obtain ⟨s,rfl,hw⟩:=h;exact ⟨⟨s,rfl,hw⟩,trivial⟩
   |slice e=>
    obtain ⟨xs,rfl,hr,hl,hc⟩:=h
    cases he:sp e with
    |none=>simp only [he,w00] at hs;subst hs;exact ⟨trivial,trivial⟩
    |some i=>simp only [he,w00] at hs;subst hs;exact ⟨hsp e i n xs (by omega) he hr hl hc,trivial⟩
   |_=>simp at hs
 |n+1,m+1,t,sh,ts,hsp,hs,h=>by
  have hsp':∀e i k xs,k<n->sp e=some i->xs.length*P.bytesOf e<=reachBytes->xs.length<=maxLen->(∀c∈xs,WT P k e c)->Y i (.lst xs):=fun e i k xs hk=>hsp e i k xs (by omega);simp only [z0o] at hs;simp only [WT] at h
  cases hu:P.underlying t with
  |none=>rw [hu] at h;exact h.elim
  |some td=>
   rw [hu] at h hs
   cases td with
   |bool=>simp only [w00] at hs h;subst hs;obtain ⟨b,rfl⟩:=h;exact ⟨⟨b,rfl⟩,trivial⟩
   |int k=>simp at hs h;subst hs;obtain ⟨x,rfl,hw⟩:=h;exact ⟨⟨x,rfl,hw⟩,trivial⟩
   |string=>simp at hs h;subst hs;obtain ⟨s,rfl,hw⟩:=h;exact ⟨⟨s,rfl,hw⟩,trivial⟩
   |slice e=>
    obtain ⟨xs,rfl,hr,hl,hc⟩:=h
    cases hse:sp e with
    |none=>
     simp only [hse,w05] at hs;obtain ⟨s,he,rfl⟩:=hs;exact ⟨⟨xs,rfl,hr,hl,fun c hcm=>Qg n m e s c hsp' he (hc c hcm)⟩,trivial⟩
    |some i=>simp only [hse,w00] at hs;subst hs;exact ⟨hsp e i n xs (by omega) hse hr hl hc,trivial⟩
   |struct fs=>
    simp only [w01] at hs h;obtain ⟨s,hs,hs2⟩:=hs;split at hs2
    ·rename_i hl;simp at hs2;subst hs2
     obtain ⟨us,h1,h2⟩:=z1e (ts:=ts) (Y:=Y) (g:=z0o P sp m) (n:=n) (fun t sh ts a b=>Qg n m t sh ts hsp' a b) _ 0 s hs (fun p hp=>by
      rw [w1a] at hp;obtain ⟨f,hf,rfl⟩:=hp
      exact h.2 f hf)
     rw [List.drop_zero,w0w (by omega)] at h2;subst h2;exact h1
    ·cases hs2
   |array k e=>
    simp only [w01] at hs h;obtain ⟨s,hs,hs2⟩:=hs;split at hs2
    ·rename_i hl;simp at hs2;subst hs2
     obtain ⟨us,h1,h2⟩:=z1e (ts:=ts) (Y:=Y) (g:=z0o P sp m) (n:=n) (fun t sh ts a b=>Qg n m t sh ts hsp' a b) _ 0 s hs (fun p hp=>by
      rw [w1a] at hp;obtain ⟨i,hi,rfl⟩:=hp
      exact h.2 i (w2o.1 hi))
     rw [List.drop_zero,w0w (by omega)] at h2;subst h2;exact h1
    ·cases hs2
   |_=>simp at h
theorem Sh.zC {Y:Nat->T->Prop} {s:Sh} {r:List Sh} {ts:List T} (h:Sh.oks Y (s::r) ts):∃x ts',ts=x::ts'/\s.ok Y x/\Sh.oks Y r ts':=by
 cases ts with
 |nil=>simp [Sh.oks] at h
 |cons x ts=>exact ⟨x,ts,rfl,h⟩
theorem Sh.yW {Y:Nat->T->Prop} {ts:List T} (h:Sh.oks Y [] ts):ts=[]:=by
 cases ts with
 |nil=>rfl
 |cons x ts=>simp [Sh.oks] at h
theorem yI {α:Type} {f:α->List T} {Q:α->Prop}:∀(xs:List (List T)),(∀c∈xs,∃a,c=f a/\Q a)->∃l:List α,xs=l.map f/\∀a∈l,Q a
 |[],_=>⟨[],rfl,by simp⟩
 |c::xs,h=>by
  obtain ⟨l,h1,h2⟩:=yI xs (fun c hc=>h c (w08 _ hc));obtain ⟨a,rfl,ha⟩:=h c (by simp)
  exact ⟨a::l,by simp [h1],fun b hb=>by
   rcases w17.1 hb with e|e
   ·subst e;exact ha
   ·exact h2 b e⟩
theorem WTs.cons_inv {P:Program} {t:TypeId} {ts:List TypeId} {vs:List V} (h:WTs P (t::ts) vs) {m:Nat} {sh:List Sh} {sp:TypeId->Option Nat} {Y:Nat->T->Prop} (hsp:∀e i n xs,sp e=some i->xs.length*P.bytesOf e<=reachBytes->xs.length<=maxLen->(∀c∈xs,WT P n e c)->Y i (.lst xs)) (hs:z0o P sp m t=some sh):∃xs r,vs=z3H P t xs::r/\Sh.oks Y sh xs/\WTs P ts r:=by
 cases h with
 |cons h r=>exact ⟨_,_,rfl,Qg _ _ _ _ _ (fun e i k xs _=>hsp e i k xs) hs h,r⟩
theorem WTs.zgW {P:Program} {vs:List V} (h:WTs P [] vs):vs=[]:=by
 cases h;rfl
theorem zgH {P:Program} {t:TypeId} (h:Zd P t=true) (xs:List T):z3H P t xs= .agg (xs.map V.t):=by simp [z3H,h]
theorem zgb {P:Program} {t:TypeId} (h:Zd P t=false) (x:T):z3H P t [x]= .t x:=by simp [z3H,h]
theorem zhd {α:Type} {l:List α} (h:l.length=2):∃a b,l=[a,b]:=by
 match l,h with
 |[a,b],_=>exact ⟨a,b,rfl⟩
end Go.GB
