/-
  YtpakhiccblfcmaaGreatP6: lemmas of this proof (part 6). No conditions.
-/
import Derived.Test.YtpakhiccblfcmaaGreatP5
import Derived.Test.YtpakhiccblfcmaaGreatP4
import Derived.KernelRfl
import Derived.Test.YtpakhiccblfcmaaGreatP2
import Derived.Carry
import Derived.Handed
import Derived.ChangeSame
import Derived.ProofKit
import Derived.OpenShut
import Derived.JoinedCond
import Derived.Deep.CondSized
import Derived.Test.YtpakhiccblfcmaaGreatP3
set_option linter.all false
set_option maxRecDepth 100000
set_option maxHeartbeats 16000000
namespace Go.GB.C29
open Go.GB Go.GB.C26
variable {P:Program}
def qy:Str:=[110,97,109,101]
def meS:Str:=[109,101]
def yU:Str:=[81,117,101,114,121]
def YP:Str:=[85,115,101,114]
def z8z:Str:=[83,116,114,105,110,103]
def exD:List Def:=[{kind:=1,name:=yU,implements:=[],zX:=[],fields:=[⟨meS,[],⟨YP,[]⟩,[]⟩],members:=[],ze:=[]},{kind:=1,name:=YP,implements:=[],zX:=[],fields:=[⟨qy,[],⟨z8z,[]⟩,[]⟩],members:=[],ze:=[]}]
def exS:zH:=⟨[[97]],.lst (exD.map Def.enc),[],[⟨yU,meS,0,false,[],[]⟩,⟨YP,qy,0,false,[],[]⟩]⟩
def exX:za:= .mk qy YP qy [] ⟨z8z,[]⟩ [] (-1) []
def exY:za:= .mk meS yU meS [] ⟨YP,[]⟩ [] (-1) [exX]
theorem z7I (H:wa P):z7 P 21 [] ⟨[],0⟩ {v:= .tup [exS.v,.agg [.t (.int .i64 1),.t (.lst ([exY].map za.enc))]]}:=by
 refine z7.run H.i21 H.mixed Z Z ?_
 refine Run.wW (f:=57) Z (by (repeat' (first |exact trivial|exact Bool.not_or_self _|exact yK _|exact yJ _|exact grd3 _ _|exact yL _ _|refine And.intro ?_ ?_|exact rfl|(simp;done)|(simp<;>omega)));done) ?_
 refine Mid.zgt Z Z Z ?_;refine fM Z ?_;refine Run.fin Z (z3.go ?_);exact .wM (.agg (.cons (.own Z) (.cons (.own Z) (.cons (.nil Z) (.cons (.own Z) .nil))))) (.agg (.cons (.t Z) (.cons (.t Z) .nil)))
def one:List zp:=[⟨0,1,[]⟩]
def jQ:zx:=⟨yU,meS,0,false,[],[]⟩
def jU:zx:=⟨YP,qy,0,false,[],[]⟩
def z8:List Int:=[0,0,0,0,0,0,0,0]
def o8:List Int:=[1,0,0,0,0,0,0,0]
theorem nok (sp:List zp) (js:List zx) (A:List Int) (hA:A.length=8) (hsp:sp=[]∨sp=one) (hj:js=[]∨js=[jQ]∨js=[jU]):NOk exS sp js [] 1 A:=by
 refine ⟨by decide,by decide,hA,?_,?_,by decide,?_,?_,by simp⟩
 ·rcases hsp with rfl|rfl<;>decide
 ·rcases hj with rfl|rfl|rfl<;>decide
 ·rcases hsp with rfl|rfl<;>simp [one,zp.ok]
 ·rcases hj with rfl|rfl|rfl<;>simp [jQ,jU,zx.ok]
theorem zaR:Sol exS yU one one [jQ] [] [(meS,1)] o8:=
 ⟨by decide,by decide,by decide,by decide,by rfl,by rfl,⟨o8,3,by rfl,nok _ _ _ rfl (.inr rfl) (.inr (.inl rfl)),fun _ h=>absurd h (by decide),by rfl⟩,nok _ _ _ rfl (.inr rfl) (.inr (.inl rfl))⟩
theorem zaO:Sol exS YP one one [jU] [] [(qy,1)] o8:=
 ⟨by decide,by decide,by decide,by decide,by rfl,by rfl,⟨o8,3,by rfl,nok _ _ _ rfl (.inr rfl) (.inr (.inr rfl)),fun _ h=>absurd h (by decide),by rfl⟩,nok _ _ _ rfl (.inr rfl) (.inr (.inr rfl))⟩
theorem zf8:Sol exS yU [] [] [jQ] [] [] z8:=
 ⟨by decide,by decide,by decide,by decide,by rfl,by rfl,⟨z8,3,by rfl,nok _ _ _ rfl (.inl rfl) (.inr (.inl rfl)),fun h=>absurd h (by decide),by rfl⟩,nok _ _ _ rfl (.inl rfl) (.inr (.inl rfl))⟩
theorem zeN:Sol exS YP [] [] [jU] [] [] z8:=
 ⟨by decide,by decide,by decide,by decide,by rfl,by rfl,⟨z8,3,by rfl,nok _ _ _ rfl (.inl rfl) (.inr (.inr rfl)),fun h=>absurd h (by decide),by rfl⟩,nok _ _ _ rfl (.inl rfl) (.inr (.inr rfl))⟩
theorem z8e {ty:Str} (h1:ty≠yU) (h2:ty≠YP):wv exS.z4.length ty exS.zE [] []=[]:=by
 have e1:¬ yU=ty:=fun e=>h1 e.symm;have e2:¬ YP=ty:=fun e=>h2 e.symm;simp [exS,wv,inj,e1,e2]
theorem zb4 (ty:Str):wT exS.z4.length ty exS.keys []=[]:=rfl
theorem zel {ty:Str} (h1:ty≠yU) (h2:ty≠YP):Sol exS ty one one [] [] [] o8:=
 ⟨by decide,by decide,by decide,by decide,z8e h1 h2,zb4 ty,⟨o8,3,by rfl,nok _ _ _ rfl (.inr rfl) (.inl rfl),fun h=>absurd h (by decide),by rfl⟩,nok _ _ _ rfl (.inr rfl) (.inl rfl)⟩
theorem zez {ty:Str} (h1:ty≠yU) (h2:ty≠YP):Sol exS ty [] [] [] [] [] z8:=
 ⟨by decide,by decide,by decide,by decide,z8e h1 h2,zb4 ty,⟨z8,3,by rfl,nok _ _ _ rfl (.inl rfl) (.inl rfl),fun h=>absurd h (by decide),by rfl⟩,nok _ _ _ rfl (.inl rfl) (.inl rfl)⟩
def exG (h:List zp):Prop:=h=[]∨h=one
def exC (ty:Str) (here:List zp) (f:Str):Bool:=!here.isEmpty&&((ty==yU&&f==meS)||(ty==YP&&f==qy))
def z3c (ty:Str) (here:List zp) (f:Str):List zp:=if exC ty here f then one else []
def z4Z (ty:Str) (here:List zp) (f:Str):Int:=if here.isEmpty then 0 else if f=tyN then 1 else if exC ty here f then 1 else 0
theorem zaz (ty:Str) (here:List zp) (f:Str) (h:exG here):∃sp js ks F A,Sol exS ty here sp js ks F A/\js.length<=1000/\y6 exS.z4.length sp js ks F A f 0 exS.z4.length []=z3c ty here f/\Z3 exS.z4.length F A f=z4Z ty here f:=by
 have hqu:yU≠YP:=by decide
 rcases h with rfl|rfl
 ·have e1:z3c ty [] f=[]:=by simp [z3c,exC]
  have e2:z4Z ty [] f=0:=by simp [z4Z]
  rw [e1,e2];by_cases h1:ty=yU
  ·subst h1
   refine ⟨_,_,_,_,_,zf8,by decide,?_,?_⟩
   ·by_cases hf:f=meS
    ·subst hf;rfl
    ·have hf2:¬ meS=f:=fun e=>hf e.symm;simp [y6,yW,jQ,hf2,exS]
   ·simp [Z3,Z6,z8,exS];exact fun _=>rfl
  ·by_cases h2:ty=YP
   ·subst h2
    refine ⟨_,_,_,_,_,zeN,by decide,?_,?_⟩
    ·by_cases hf:f=qy
     ·subst hf;rfl
     ·have hf2:¬ qy=f:=fun e=>hf e.symm;simp [y6,yW,jU,hf2,exS]
    ·simp [Z3,Z6,z8,exS];exact fun _=>rfl
   ·exact ⟨_,_,_,_,_,zez h1 h2,by decide,by simp [y6,yW,exS],by simp [Z3,Z6,z8,exS];exact fun _=>rfl⟩
 ·by_cases h1:ty=yU
  ·subst h1;by_cases hf:f=meS
   ·subst hf
    exact ⟨_,_,_,_,_,zaR,by decide,by rfl,by rfl⟩
   ·have hf2:¬ meS=f:=fun e=>hf e.symm
    have ec:exC yU one f=false:=by simp [exC,one,hf,hqu]
    refine ⟨_,_,_,_,_,zaR,by decide,?_,?_⟩
    ·simp [z3c,ec,y6,yW,jQ,hf2,exS]
    ·by_cases ht:f=tyN
     ·subst ht;rfl
     ·simp [z4Z,ec,Z3,Z6,o8,exS,hf,ht]
  ·by_cases h2:ty=YP
   ·subst h2;by_cases hf:f=qy
    ·subst hf
     exact ⟨_,_,_,_,_,zaO,by decide,by rfl,by rfl⟩
    ·have hf2:¬ qy=f:=fun e=>hf e.symm
     have ec:exC YP one f=false:=by simp [exC,one,hf,h1]
     refine ⟨_,_,_,_,_,zaO,by decide,?_,?_⟩
     ·simp [z3c,ec,y6,yW,jU,hf2,exS]
     ·by_cases ht:f=tyN
      ·subst ht;rfl
      ·simp [z4Z,ec,Z3,Z6,o8,exS,hf,ht]
   ·have ec:exC ty one f=false:=by simp [exC,h1,h2]
    exact ⟨_,_,_,_,_,zel h1 h2,by decide,by simp [z3c,ec,y6,yW,exS],by
     by_cases ht:f=tyN
     ·subst ht;simp [z4Z,one,Z3,Z6,o8,exS];rfl
     ·simp [z4Z,ec,Z3,Z6,o8,exS,ht]⟩
theorem z8q (ty:Str) (here:List zp) (f:Str):z3c ty here f=[]∨z3c ty here f=one:=by unfold z3c;split<;>simp
theorem zdk (s:zH) (t:Str) {l:List zp} (h:exG l):exG (yT s t l):=by
 rcases h with rfl|rfl
 ·exact .inl Z
 ·unfold yT one;simp only [List.filter_cons,List.filter_nil];split
  ·exact .inr Z
  ·exact .inl Z
theorem zf0:Z8 exD:=by
 refine ⟨by decide,?_,by decide⟩
 intro y hy;simp only [exD,List.mem_cons,List.not_mem_nil,or_false] at hy
 rcases hy with rfl|rfl
 all_goals
  refine ⟨by decide,by decide,by simp,by decide,?_,by decide,by simp,by decide,by simp,by decide,by decide⟩
  intro f hf;simp only [List.mem_cons,List.not_mem_nil,or_false] at hf;subst hf
  exact ⟨by decide,by simp,⟨by decide,by decide⟩,by decide,by simp,by decide⟩
theorem zcA:Env exS exD exG z3c where
 doc:=rfl
 zbz:=zf0
 js:=by decide
 ok:=fun ty here f h=>by
  obtain ⟨sp,js,ks,F,A,a,b,c,_⟩:=zaz ty here f h;exact ⟨sp,js,ks,F,A,a,b,c⟩
 cl:=fun ty here f t _=>zdk _ _ (z8q ty here f)
 len:=fun ty here f _=>by rcases z8q ty here f with h|h<;>rw [h]<;>decide
theorem zfU:zeS exS exG z4Z where
 ok:=fun ty here f h=>by
  obtain ⟨sp,js,ks,F,A,a,_,_,c⟩:=zaz ty here f h;exact ⟨sp,js,ks,F,A,a,c⟩
end Go.GB.C29
namespace Go.GB.C29
open Go.GB Go.GB.C26
variable {P:Program}
def exL:List Place:=[⟨-1,⟨[],[]⟩,yU,one,[exY]⟩,⟨0,⟨yU,meS⟩,YP,one,[exX]⟩]
theorem Qf:Zk exS exD z3c 1 [exY]=exL:=by rfl
theorem zco:qb z4Z exL 0=some 1:=by rfl
theorem zdr:z49 exL 1=[⟨yU,meS⟩]:=by rfl
theorem zep:exX.Ok:= .mk (by decide) (by simp) ⟨by decide,by decide⟩ (by decide) (by simp)
theorem zey:exY.Ok:= .mk (by decide) (by simp) ⟨by decide,by decide⟩ (by decide) (by intro x hx;simp at hx;subst hx;exact zep)
theorem yR (H:wa P):z7 P 8 [] ⟨[],0⟩ {v:= .t (.bool true)}:=by
 have hy:∀x,x∈[exY]->x.Ok:=by intro x hx;simp at hx;subst hx;exact zey
 have h1:=z0H H zcA 1 [exY] (by decide) hy (.inr rfl) (by decide) (by rw [Qf];decide)
 have h2:=z66 H zcA zfU 1 [exY] (by decide) hy (.inr rfl) (by decide) (by rw [Qf];decide) (by rw [Qf];intro p hp;simp only [exL,List.mem_cons,List.not_mem_nil,or_false] at hp;rcases hp with rfl|rfl<;>exact ⟨.inr rfl,by decide⟩)
 rw [Qf] at h1 h2;rw [zco] at h2;have h3:=zdE H exL (by decide) 1;rw [zdr] at h3;refine z7.run H.i8 H.mixed Z Z ?_;refine fR Z ?_;refine Mid.call (z7I H) Z Z Z Z ?_;refine fM Z ?_;refine Mid.call (h1) Z Z Z Z ?_;refine fM Z ?_;refine Mid.call (h2) Z Z Z Z ?_;refine fM Z ?_;refine lM Z Z Z ?_;refine fM Z ?_;refine gr Z ?_;refine fM Z ?_;refine lMG Z Z Z Z ?_;refine fM Z ?_;refine gr Z ?_;refine fM Z ?_;refine lMG Z Z Z Z ?_;refine fM Z ?_;refine gr Z ?_;refine fM Z ?_;refine lMG Z Z Z Z ?_;refine fM Z ?_;refine Run.zj Z Z Z ?_;refine fR Z ?_;refine Mid.call (h3) Z Z Z Z ?_;refine fM Z ?_;refine pu Z ?_;refine fM Z ?_;refine gr Z ?_;refine fM Z ?_;refine gr Z ?_;refine fM Z ?_;refine lMG Z Z Z Z ?_;refine fM Z ?_;refine gr Z ?_;refine fM Z ?_;refine gr Z ?_;refine fM Z ?_;refine Run.fin Z (z3.go ?_);exact .t Z
end Go.GB.C29
namespace Go.GB.C26
open Go.GB
variable {P:Program}
section
variable {s:zH} {name:Str} {here sp:List zp} {js:List zx} {ks:List zJ} {D A:List Int}
end
instance spotDec:DecidableEq zp:=fun a b=>
 if h:a.graph=b.graph/\a.depth=b.depth/\a.yc=b.yc then .isTrue (by cases a;cases b;simp at h;simp [h]) else .isFalse (fun e=>h (by rw [e];simp))
end Go.GB.C26
namespace Go.GB.C29
open Go.GB Go.GB.C26
structure zfX (P:Program):Prop where
 p29:wa P
 mixed:P.follows .mixedOrders=true
variable {P:Program}
section
variable {s:zH} {ds:List Def} {G:List zp->Prop} {Ch:Str->List zp->Str->List zp} {Lv:Str->List zp->Str->Int}
end
end Go.GB.C29
namespace Go.GB.C11
open Go.GB
variable {P:Program}
def nnF:List Int->Bool
 |[]=>false
 |w::_=>w==1
def ZC:List Int->List Int
 |[]=>[]
 |w::r=>if (w==1)=true then r else w::r
def zca:List Int->Bool
 |[]=>false
 |w::_=>w==2
def Wu (w:List Int):Bool:=zca (ZC w)
theorem Wf (w:List Int):(ZC w).length<=w.length:=by
 cases w with
 |nil=>simp [ZC]
 |cons a r=>simp only [ZC];split<;>simp
theorem z37 {w:List Int} (h:nnF w=true):ZC w=w.tail:=by
 cases w with
 |nil=>cases h
 |cons a r=>simp only [nnF] at h;simp only [ZC];rw [if_pos h];rfl
theorem zcP {w:List Int} (h:¬ nnF w=true):ZC w=w:=by
 cases w with
 |nil=>rfl
 |cons a r=>simp only [nnF] at h;simp only [ZC];rw [if_neg h]
theorem z8J (f:FuncId) (hi:zd P f=some (n129,c129.bare,r129)) (hm:P.follows .mixedOrders=true) (t:Ref) (ht:t.Ok):z7 P f [t.v] ⟨[],0⟩ {v:= .t (.bool (nnF t.zr))}:=by
 have hl:=ht.l;obtain ⟨n,w⟩:=t;refine z7.run hi hm Z Z ?_
 cases w with
 |nil=>
  refine fR Z ?_;refine lM Z Z Z ?_;refine fM Z ?_;refine Mid.W7 Z Z Z Z Z ?_;refine Mid.W7 Z Z Z Z Z ?_;refine Mid.W7 Z Z Z Z Z ?_;refine fM Z ?_;refine Run.fin Z (z3.go ?_);exact .t Z
 |cons a r=>
  refine fR Z ?_;refine lM Z Z Z ?_;refine fM Z ?_;refine gr Z ?_;refine fM Z ?_;refine Run.fin Z (z3.go ?_);exact .t (by simp [nnF])
theorem z61 (H:Pr P) (t:Ref) (ht:t.Ok):z7 P 129 [t.v] ⟨[],0⟩ {v:= .t (.bool (nnF t.zr))}:=z8J 129 H.i129 H.mixed t ht
theorem z2k (H:Pr P) (t:Ref) (ht:t.Ok):z7 P 129 [t.v] ⟨[],0⟩ {v:= .t (.bool (nnF t.zr))}:=z8J 129 H.i129 H.mixed t ht
theorem zfp (H:Pr P) (l:List Int) (hl:l.length*8<=140737488355328):z7 P 41 [.t (.lst (l.map nE))] ⟨[],0⟩ {v:= .t (.lst (l.map nE))}:=by
 refine z7.run H.i41 H.mixed Z Z ?_;refine fR Z ?_;refine p0 Z ?_;refine fM Z ?_;refine Run.z4k Z Z (fun h=>?_) (fun _=>?_)
 ·have hn:l=[]:=by
   cases l with
   |nil=>rfl
   |cons x r=>
    have:=h (nE x) (by simp);simp [nE] at this
  subst hn;refine fR Z ?_;refine Run.fin Z (z3.go ?_);exact .nil Z
 ·refine fR Z ?_;refine apN nE l Z Z Z ?_ (h1:=hl) (h2:=by omega);refine fM rfl ?_;refine Run.fin rfl (z3.go ?_);exact .own rfl
theorem z6T {t:Ref} (ht:t.Ok):(⟨t.name,ZC t.zr⟩:Ref).Ok:=⟨by have:=Wf t.zr;have:=ht.l;show (ZC t.zr).length*8<=_;omega,ht.nm⟩
theorem zbZ (H:Pr P) (n:Str) (a:Int) (r:List Int) (hl:r.length*8<=140737488355320):z7 P 139 [(⟨n,a::r⟩:Ref).v] ⟨[],0⟩ {v:=(⟨n,r⟩:Ref).v}:=by
 refine z7.run H.i139 H.mixed Z Z ?_;refine fR Z ?_;refine lF1 Z Z Z Z ?_;refine apN nE r Z Z Z ?_ (h1:=by omega) (h2:=by omega);refine fM rfl ?_;refine Run.fin rfl (z3.go ?_);exact .agg (.cons (.t rfl) (.cons (.own rfl) .nil))
theorem YC (H:Pr P) (t:Ref) (ht:t.Ok):z7 P 126 [t.v] ⟨[],0⟩ {v:=(⟨t.name,ZC t.zr⟩:Ref).v}:=by
 have hl:=ht.l;have hn:=z2k H t ht;obtain ⟨n,w⟩:=t;refine z7.run H.i126 H.mixed Z Z ?_;refine fR Z ?_;refine Mid.call (hn) Z Z Z Z ?_;refine fM Z ?_;refine Run.cond Z Z (fun h=>?_) (fun h=>?_)
 ·have h':nnF w=true:=h
  cases w with
  |nil=>cases h'
  |cons a r=>
   have e:ZC (a::r)=r:=z37 h';refine fR Z ?_;refine Mid.call (zbZ H n a r (by simp at hl;omega)) Z Z Z Z ?_;refine fM Z ?_;refine Run.fin Z (z3.go ?_);exact .agg (.cons (.t Z) (.cons (.t (by rw [e])) .nil))
 ·have h':¬ nnF w=true:=by rw [show nnF w=false from h];simp
  refine fR Z ?_;refine apN nE w Z Z Z ?_ (h1:=hl) (h2:=by simp at hl;omega);refine fM rfl ?_;refine Run.fin rfl (z3.go ?_);exact .agg (.cons (.t rfl) (.cons (.own (by rw [zcP h'])) .nil))
end Go.GB.C11
namespace Go.GB.C11
open Go.GB
variable {P:Program}
theorem QH (H:Pr P) (t:Ref) (ht:t.Ok):z7 P 98 [t.v] ⟨[],0⟩ {v:= .t (.bool (Wu t.zr))}:=by
 have hn:=YC H t ht;unfold Wu;generalize ZC t.zr=N at hn;refine z7.run H.i98 H.mixed Z Z ?_;refine fR Z ?_;refine Mid.call (hn) Z Z Z Z ?_;refine fM Z ?_;refine lM Z Z Z ?_;refine fM Z ?_
 cases N with
 |nil=>
  refine Mid.W7 Z Z Z Z Z ?_;refine Mid.W7 Z Z Z Z Z ?_;refine Mid.W7 Z Z Z Z Z ?_;refine fM Z ?_;refine Run.fin Z (z3.go ?_);exact .t Z
 |cons a r=>
  refine gr Z ?_;refine fM Z ?_;refine Run.fin Z (z3.go ?_);exact .t (by simp [zca])
theorem z6s {w:List Int} (h:Wu w=true):∃r,ZC w=2::r:=by
 unfold Wu at h
 cases hn:ZC w with
 |nil=>rw [hn] at h;cases h
 |cons a r=>rw [hn] at h;simp [zca] at h;subst h;exact ⟨r,rfl⟩
theorem WB (H:Pr P) (t:Ref) (ht:t.Ok) (h:Wu t.zr=true):z7 P 142 [t.v] ⟨[],0⟩ {v:= .tup [(⟨t.name,(ZC t.zr).tail⟩:Ref).v,.t (.bool true)]}:=by
 have hn:=YC H t ht;have hi:=QH H t ht;rw [h] at hi;obtain ⟨r,hr⟩:=z6s h;have hlen:=Wf t.zr;have hl:=ht.l;rw [hr] at hn hlen⊢;refine z7.run H.i142 H.mixed Z Z ?_;refine fR Z ?_;refine Mid.call (hi) Z Z Z Z ?_;refine fM Z ?_;refine Run.zj Z Z Z ?_;refine fR Z ?_;refine Mid.call (hn) Z Z Z Z ?_;skip;refine Mid.call (zbZ H t.name 2 r (by simp at hlen;omega)) Z Z Z Z ?_;refine fM Z ?_;refine Run.fin Z (z3.go ?_);exact .wM (.agg (.cons (.t Z) (.cons (.t Z) .nil))) (.t Z)
theorem WO (H:Pr P) (t:Ref) (ht:t.Ok) (h:Wu t.zr=false):z7 P 142 [t.v] ⟨[],0⟩ {v:= .tup [(⟨[],[]⟩:Ref).v,.t (.bool false)]}:=by
 have hi:=QH H t ht;rw [h] at hi;refine z7.run H.i142 H.mixed Z Z ?_;refine fR Z ?_;refine Mid.call (hi) Z Z Z Z ?_;refine fM Z ?_;refine Run.zm Z Z Z ?_;refine fR Z ?_;refine Run.fin Z (z3.go ?_);exact .wM (.agg (.cons (.t Z) (.cons (.nil Z) .nil))) (.t Z)
def isF (ds:List Def) (o n:Str):Bool:=decide (o∈y4 ds n)
theorem qF (t:Def) (nm:Str):∀(r pre:List Def),(Yr t nm pre r).length<=r.length
 |[],pre=>by simp [Yr]
 |o::r,pre=>by
  have:=qF t nm r (pre++[o]);simp only [Yr]
  split<;>simp<;>omega
theorem qM (ds:List Def) (nm:Str):(y4 ds nm).length<=ds.length:=by
 rw [z97];exact qF _ nm ds []
theorem zfh (H:Pr P) (ds:List Def) (hD:Z8 ds) (o n:Str):z7 P 143 [yS ds,.t (.str o),.t (.str n)] ⟨[],0⟩ {v:= .t (.bool (isF ds o n))}:=by
 have hl:=qM ds n;have:=hD.l;refine z7.run H.i143 H.mixed Z Z ?_;refine fR Z ?_;refine Mid.call (z0i H ds hD n) Z Z Z Z ?_;refine fM Z ?_;refine Mid.call (z4W H (y4 ds n) (by omega) o) Z Z Z Z ?_;refine fM Z ?_;refine Run.fin Z (z3.go ?_);exact .t Z
def QX (bas:Bool):Nat->List Int->List Int->Bool
 |0,_,_=>false
 |k+1,a,b=>
  if nnF b=true then nnF a&&QX bas k (ZC a) (ZC b)
  else if nnF a=true then QX bas k (ZC a) b
  else if (Wu a||Wu b)=true then Wu a&&Wu b&&QX bas k (ZC a).tail (ZC b).tail
  else bas
def z55 (ds:List Def) (a b:Str):Bool:=a==b||isF ds a b
def z7r (P:Program) (f:Nat) (ds:List Def) (k:Nat) (a b:Ref):Prop:=z7 P f [yS ds,a.v,b.v] ⟨[],0⟩ {v:= .t (.bool (QX (z55 ds a.name b.name) k a.zr b.zr))}
theorem z4K {t:Ref} (ht:t.Ok):(⟨t.name,(ZC t.zr).tail⟩:Ref).Ok:=⟨by
 have:=Wf t.zr;have:=ht.l;show (ZC t.zr).tail.length*8<=_
 rw [List.length_tail];omega,ht.nm⟩
end Go.GB.C11
namespace Go.GB.C11
open Go.GB
variable {P:Program}
theorem za6 (H:Pr P) (ds:List Def) (hD:Z8 ds) (k:Nat) (a b:Ref) (ha:a.Ok) (hb:b.Ok)
  (hrec:∀x y:Ref,x.Ok->y.Ok->x.zr.length+y.zr.length<a.zr.length+b.zr.length->z7r P 136 ds k x y):z7r P 136 ds (k+1) a b:=by
 unfold z7r;refine z7.run H.i136 H.mixed Z Z ?_;refine fR Z ?_;refine Mid.call (z2k H b hb) Z Z Z Z ?_;refine fM Z ?_;refine Run.cond Z Z (fun h1=>?_) (fun h1=>?_)
 ·have h1':nnF b.zr=true:=h1
  have e:QX (z55 ds a.name b.name) (k+1) a.zr b.zr=(nnF a.zr&&QX (z55 ds a.name b.name) k (ZC a.zr) (ZC b.zr)):=by simp only [QX];rw [if_pos h1']
  have hc:=hrec ⟨a.name,ZC a.zr⟩ ⟨b.name,ZC b.zr⟩ (z6T ha) (z6T hb) (by
   have:=Wf a.zr;have h2:=z37 h1'
   cases hw:b.zr with
   |nil=>rw [hw] at h1';cases h1'
   |cons c r=>rw [hw] at h2;simp only [h2];simp;omega)
  unfold z7r at hc;refine fR Z ?_;refine Mid.call (z2k H a ha) Z Z Z Z ?_;refine fM Z ?_;refine caG Z Z (fun hg=>⟨_,rfl,YC H a ha,rfl⟩) Z Z ?_;refine fM Z ?_;refine caG Z Z (fun hg=>⟨_,rfl,YC H b hb,rfl⟩) Z Z ?_;skip;refine caG Z Z (fun hg=>⟨_,rfl,hc,rfl⟩) Z Z ?_;refine fM Z ?_;refine Run.fin Z (z3.go ?_);exact .t (by rw [e])
 ·have h1':¬ nnF b.zr=true:=by rw [show nnF b.zr=false from h1];simp
  refine fR Z ?_;refine Mid.call (z2k H a ha) Z Z Z Z ?_;refine fM Z ?_;refine Run.cond Z Z (fun h2=>?_) (fun h2=>?_)
  ·have h2':nnF a.zr=true:=h2
   have e:QX (z55 ds a.name b.name) (k+1) a.zr b.zr=QX (z55 ds a.name b.name) k (ZC a.zr) b.zr:=by simp only [QX];rw [if_neg h1',if_pos h2']
   have hc:=hrec ⟨a.name,ZC a.zr⟩ b (z6T ha) hb (by
    have h2:=z37 h2'
    cases hw:a.zr with
    |nil=>rw [hw] at h2';cases h2'
    |cons c r=>rw [hw] at h2;simp only [h2];simp)
   unfold z7r at hc;refine fR Z ?_;refine Mid.call (YC H a ha) Z Z Z Z ?_;refine fM Z ?_;refine Mid.call (hc) Z Z Z Z ?_;refine fM Z ?_;refine Run.fin Z (z3.go ?_);exact .t (by rw [e])
  ·have h2':¬ nnF a.zr=true:=by rw [show nnF a.zr=false from h2];simp
   have e:QX (z55 ds a.name b.name) (k+1) a.zr b.zr=if (Wu a.zr||Wu b.zr)=true then Wu a.zr&&Wu b.zr&&QX (z55 ds a.name b.name) k (ZC a.zr).tail (ZC b.zr).tail else z55 ds a.name b.name:=by simp only [QX];rw [if_neg h1',if_neg h2']
   refine fR Z ?_
   cases hla:Wu a.zr with
   |true=>
    refine Mid.call (WB H a ha hla) Z Z Z Z ?_;refine fM Z ?_
    cases hlb:Wu b.zr with
    |true=>
     have hc:=hrec ⟨a.name,(ZC a.zr).tail⟩ ⟨b.name,(ZC b.zr).tail⟩ (z4K ha) (z4K hb) (by
      have h3:=Wf a.zr;have h4:=Wf b.zr;obtain ⟨r,hr⟩:=z6s hla;rw [hr] at h3;simp only [List.length_tail,hr]
      simp at h3⊢;omega)
     unfold z7r at hc;rw [hla,hlb] at e;refine Mid.call (WB H b hb hlb) Z Z Z Z ?_;refine fM Z ?_;refine Run.zm Z Z Z ?_;refine fR Z ?_;refine Mid.call (hc) Z Z Z Z ?_;refine fM Z ?_;refine Run.fin Z (z3.go ?_);exact .t (by rw [e];rfl)
    |false=>
     rw [hla,hlb] at e;refine Mid.call (WO H b hb hlb) Z Z Z Z ?_;refine fM Z ?_;refine Run.zj Z Z Z ?_;refine fR Z ?_;refine Mid.W7 Z Z Z Z Z ?_;refine fM Z ?_;refine Run.fin Z (z3.go ?_);exact .t (by rw [e];rfl)
   |false=>
    refine Mid.call (WO H a ha hla) Z Z Z Z ?_;refine fM Z ?_
    cases hlb:Wu b.zr with
    |true=>
     rw [hla,hlb] at e;refine Mid.call (WB H b hb hlb) Z Z Z Z ?_;refine fM Z ?_;refine Run.zj Z Z Z ?_;refine fR Z ?_;refine Mid.W7 Z Z Z Z Z ?_;refine fM Z ?_;refine Run.fin Z (z3.go ?_);exact .t (by rw [e];rfl)
    |false=>
     rw [hla,hlb] at e;refine Mid.call (WO H b hb hlb) Z Z Z Z ?_;refine fM Z ?_;refine Run.zj Z Z Z ?_;refine fR Z ?_;refine caG Z Z (fun hg=>⟨_,rfl,zfh H ds hD a.name b.name,rfl⟩) Z Z ?_;refine fM Z ?_;refine Run.fin Z (z3.go ?_);exact .t (by rw [e];rfl)
theorem z86 (H:Pr P) (ds:List Def) (hD:Z8 ds):∀(k:Nat) (a b:Ref),a.zr.length+b.zr.length<k->a.Ok->b.Ok->z7r P 136 ds k a b
 |0,a,b,h,_,_=>by omega
 |k+1,a,b,h,ha,hb=>za6 H ds hD k a b ha hb fun x y hx hy hlt=>z86 H ds hD k x y (by omega) hx hy
end Go.GB.C11
namespace Go.GB.C11
open Go.GB
variable {P:Program}
theorem Qe {α:Type} {l:List α} {i:Nat} {y:α} (h:l[i]?=some y):l.drop i=y::l.drop (i+1):=by
 obtain ⟨hi,hy⟩:=List.getElem?_eq_some_iff.1 h;rw [List.drop_eq_getElem_cons hi,hy]
theorem z9b {α β:Type} {a:List α} {b:List β} (h:a.length=b.length) {i:Nat} (hi:i<a.length):∃y,b[i]?=some y:=⟨b[i]'(by omega),by simp [show i<b.length by omega]⟩
theorem zdj (H:Pr P) (a b:List Int) (ha:a.length<=140737488355328) (hb:b.length<=140737488355328):z7 P 54 [.t (.lst (a.map nE)),.t (.lst (b.map nE))] ⟨[],0⟩ {v:= .t (.bool (decide (a=b)))}:=by
 refine z7.run H.i54 H.mixed Z Z ?_;refine fR Z ?_;refine lM Z Z Z ?_;refine fM Z ?_;refine lM Z Z Z ?_;refine fM Z ?_;refine Run.cond Z Z (fun h=>?_) (fun h=>?_)
 ·have h':¬ a.length=b.length:=by simp at h;omega
  refine fR Z ?_;refine Run.fin Z (z3.go ?_);exact .t (by simp;intro e;exact h' (by rw [e]))
 ·have h':a.length=b.length:=by simp at h;omega
  refine fR Z ?_;refine zD a (fun i (_:Unit)=>{env:=[(0,.t (.lst (a.map nE))),(1,.t (.lst (b.map nE))),(5,.t (.int .i64 i))],s:=⟨[],0⟩}) (fun r i _=>decide (a=b)=decide (r=b.drop i)) 0 () Z (by simp) Z Z Z ?_ ?_
  ·intro _ hinv;refine fR Z ?_;refine lM Z Z Z ?_;refine fM Z ?_;refine Run.zj Z Z (by simp) ?_;refine fR Z ?_;refine Run.fin Z (z3.go ?_);exact .t (by rw [hinv,h'];simp)
  ·intro i x r _ h1 hi hd hinv ih;obtain ⟨y,hy⟩:=z9b h' hi;have hinv':decide (a=b)=decide (x::r=b.drop i):=hinv;rw [Qe hy] at hinv';refine fR Z ?_;refine lM Z Z Z ?_;refine fM Z ?_;refine Run.zm Z Z (by simp;omega) ?_;refine fR Z ?_;refine Mid.zg Z Z Z h1 Z Z ?_;refine fM Z ?_;refine Mid.zg Z Z Z hy Z Z ?_;refine fM Z ?_;refine Run.cond Z Z (fun hc=>?_) (fun hc=>?_)
   ·have hc':¬ x=y:=by simpa using hc
    refine fR Z ?_;refine Run.fin Z (z3.go ?_);exact .t (by rw [hinv'];simp [hc'])
   ·have hc':x=y:=by simpa using hc
    refine fR Z ?_;refine aL Z Z Z Z Z ?_;refine fM Z ?_;exact zn 0 Z (ih () (by rw [hinv'];simp [hc'])) Z Z Z
structure zk where
 err:Int
 at_:Str
instance:DecidableEq zk:=fun a b=>decidable_of_iff (a.err=b.err/\a.at_=b.at_) (by cases a;cases b;simp)
def zk.enc (f:zk):List T:=[.int .i64 f.err,.str f.at_]
end Go.GB.C11
namespace Go.GB.C11
open Go.GB
variable {P:Program}
def WX (n:Str):Bool:=n==[73,110,116]||n==[83,116,114,105,110,103]||n==[66,111,111,108,101,97,110]||n==[73,68]
theorem YT (H:Pr P) (n:Str):z7 P 116 [.t (.str n)] ⟨[],0⟩ {v:= .t (.bool (WX n))}:=by
 refine z7.run H.i116 H.mixed Z Z ?_;refine fR Z ?_;refine Run.fin Z (z3.go ?_);exact .t (by simp [WX])
def zan (c:Int):Bool:=(decide (c≥65)&&decide (c<=90))||(decide (c≥97)&&decide (c<=122))||c==95
def wm (c:Int):Bool:=decide (c≥48)&&decide (c<=57)
theorem za7 (H:Pr P) (c:Int):z7 P 110 [.t (.int .u8 c)] ⟨[],0⟩ {v:= .t (.bool (zan c))}:=by
 refine z7.run H.i110 H.mixed Z Z ?_;refine fR Z ?_;refine Run.fin Z (z3.go ?_);exact .t Z
theorem zcz (H:Pr P) (c:Int):z7 P 111 [.t (.int .u8 c)] ⟨[],0⟩ {v:= .t (.bool (wm c))}:=by
 refine z7.run H.i111 H.mixed Z Z ?_;refine fR Z ?_;refine Run.fin Z (z3.go ?_);exact .t Z
def z78 (first:Bool):List UInt8->Bool
 |[]=>true
 |c::r=>(zan c.toNat||(!first&&wm c.toNat))&&z78 false r
def zq (s:Str):Bool:=decide (1<=s.length/\s.length<=64)&&z78 true s
theorem Q5 (H:Pr P) (s:Str) (hs:s.length<=140737488355328):z7 P 86 [.t (.str s)] ⟨[],0⟩ {v:= .t (.bool (zq s))}:=by
 refine z7.run H.i86 H.mixed Z Z ?_;refine fR Z ?_;refine Run.cond Z Z (fun h=>?_) (fun h=>?_)
 ·have h':¬ (1<=s.length/\s.length<=64):=by simp at h;omega
  refine fR Z ?_;refine Run.fin Z (z3.go ?_);exact .t (by unfold zq;rw [show decide (1<=s.length/\s.length<=64)=false from by simpa using h'];rfl)
 ·have h':1<=s.length/\s.length<=64:=by simp at h;omega
  have e:zq s=z78 true s:=by unfold zq;rw [show decide (1<=s.length/\s.length<=64)=true from by simpa using h'];rfl
  refine fR Z ?_;refine zD s (fun i (_:Unit)=>{env:=[(0,.t (.str s)),(3,.t (.int .i64 i))],s:=⟨[],0⟩}) (fun r i _=>z78 true s=z78 (i==0) r) 0 () Z Z Z Z Z ?_ ?_
  ·intro _ hinv;refine fR Z ?_;refine Run.zj Z Z (by simp) ?_;refine fR Z ?_;refine Run.fin Z (z3.go ?_);exact .t (by rw [e,hinv];rfl)
  ·intro i c r _ h1 hi hd hinv ih;refine fR Z ?_;refine Run.zm Z Z (by simp;omega) ?_;refine fR Z ?_;refine Mid.byte Z Z h1 Z ?_;skip;refine Mid.call (za7 H c.toNat) Z Z Z Z ?_;refine fM Z ?_;refine byG Z Z Z h1 Z ?_;skip;refine caG Z Z (fun hg=>⟨_,rfl,zcz H c.toNat,rfl⟩) Z Z ?_;refine fM Z ?_
   have hb:((i:Int)==0)=(i==0):=by
    cases i with
    |zero=>rfl
    |succ i=>simp;omega
   have hb2:(i+1==0)=false:=by simp
   refine Run.cond Z Z (fun hc=>?_) (fun hc=>?_)
   ·have hc':(zan c.toNat||(!(i==0)&&wm c.toNat))=false:=by
     rw [hb] at hc
     revert hc;cases zan c.toNat<;>cases (i==0)<;>cases wm c.toNat<;>simp
    refine fR Z ?_;refine Run.fin Z (z3.go ?_);exact .t (by rw [e,hinv];simp only [z78];rw [hc'];rfl)
   ·have hc':(zan c.toNat||(!(i==0)&&wm c.toNat))=true:=by
     rw [hb] at hc
     revert hc;cases zan c.toNat<;>cases (i==0)<;>cases wm c.toNat<;>simp
    refine fR Z ?_;refine aL Z Z Z Z Z ?_;refine fM Z ?_;exact zn 0 Z (ih () (by rw [hinv,hb2];simp only [z78];rw [hc'];rfl)) Z Z Z
def rgW (first nn:Bool):List Int->Bool
 |[]=>true
 |w::r=>!(w !=1&&w !=2)&&!(!first&&w==1&&nn)&&rgW false (w==1) r
def YR (t:Ref):Bool:=zq t.name&&decide (t.zr.length<=24)&&rgW true false t.zr
theorem z2P (H:Pr P) (t:Ref) (ht:t.Ok):z7 P 114 [t.v] ⟨[],0⟩ {v:= .t (.bool (YR t))}:=by
 have hl:=ht.l;have hn:=ht.nm;refine z7.run H.i114 H.mixed Z Z ?_;refine fR Z ?_;refine Mid.call (Q5 H t.name hn) Z Z Z Z ?_;refine fM Z ?_;refine lMG Z Z Z Z ?_;refine fM Z ?_;refine Run.cond Z Z (fun h=>?_) (fun h=>?_)
 ·refine fR Z ?_
  refine Run.fin Z (z3.go ?_);exact .t (by
   unfold YR
   have:(zq t.name&&decide (t.zr.length<=24))=false:=by
    cases h1:zq t.name with
    |false=>rfl
    |true=>rw [h1] at h;simp at h;simp;omega
   rw [this];rfl)
 ·have h':(zq t.name&&decide (t.zr.length<=24))=true:=by
   cases h1:zq t.name with
   |false=>rw [h1] at h;simp at h
   |true=>rw [h1] at h;simp at h;simp;omega
  have e:YR t=rgW true false t.zr:=by unfold YR;rw [h'];rfl
  refine fR Z ?_
  refine zD t.zr (fun i (_:Unit)=>{env:=[(1,.ptr 0 0),(3,.t (.int .i64 i))],s:=⟨[(0,.cells [.t (.str t.name),.t (.lst (t.zr.map nE))])],1⟩}) (fun r i _=>∃nn:Bool,(∀j:Nat,i=j+1->∃w,t.zr[j]?=some w/\nn=(w==1))/\rgW true false t.zr=rgW (i==0) nn r) 1 () Z ⟨false,fun j h=>by omega,rfl⟩ rfl rfl rfl ?_ ?_
  ·rintro _ ⟨nn,_,hinv⟩;refine fR Z ?_;refine lM Z Z Z ?_;refine fM Z ?_;refine Run.zj Z Z (by simp) ?_;refine fR Z ?_;refine Run.fin Z (z3.go ?_);exact .t (by rw [e,hinv];rfl)
  ·rintro i w r _ h1 hi hd ⟨nn,hnn,hinv⟩ ih;refine fR Z ?_;refine lM Z Z Z ?_;refine fM Z ?_;refine Run.zm Z Z (by simp;omega) ?_;refine fR Z ?_;refine Mid.zg Z Z Z h1 Z Z ?_;refine fM Z ?_;refine elG Z Z Z Z h1 Z Z ?_;refine fM Z ?_;refine Run.cond Z Z (fun hc=>?_) (fun hc=>?_)
   ·refine fR Z ?_;refine Run.fin Z (z3.go ?_);exact .t (by rw [e,hinv];simp only [rgW];rw [show (w !=1&&w !=2)=true from hc];rfl)
   ·have hc':(w !=1&&w !=2)=false:=hc
    have hlast:∀j:Nat,i+1=j+1->∃w',t.zr[j]?=some w'/\(w==1)=(w'==1):=fun j hj=>by
     obtain rfl:j=i:=by omega
     exact ⟨w,h1,rfl⟩
    have hb2:(i+1==0)=false:=by simp
    cases i with
    |zero=>
     obtain ⟨nm,ws⟩:=t
     cases ws with
     |nil=>simp at hi
     |cons w0 r0=>
      simp at h1 hd;subst h1;subst hd;refine fR Z ?_;refine gr Z ?_;refine fM Z ?_;refine zg4 Z Z Z Z ?_;refine gr Z ?_;refine fM Z ?_;refine Run.zj Z Z Z ?_;refine fR Z ?_;refine aL Z Z Z Z Z ?_;refine fM Z ?_;exact zn 1 Z (ih () ⟨w0==1,hlast,by rw [hinv,hb2];simp only [rgW];rw [hc'];rfl⟩) rfl rfl rfl
    |succ j=>
     obtain ⟨w',hw',rfl⟩:=hnn j rfl
     have ej:IntKind.i64.wrap (((j+1:Nat):Int) - 1)=(j:Int):=by rw [wrap64 (by omega) (by omega)];omega
     refine fR Z ?_;refine elG Z Z Z Z h1 Z Z ?_;refine fM Z ?_;refine zg4 Z Z Z Z ?_
     rw [show ((j+1:Nat):Int) - 1=(j:Int) from by omega]
     refine elG Z Z Z Z hw' Z Z ?_;refine fM Z ?_;have hg:decide (((j+1:Nat):Int)>0)=true:=decide_eq_true (by omega)
     have hb1:(j+1==0)=false:=by simp
     refine Run.cond Z Z (fun hx=>?_) (fun hx=>?_)
     ·refine fR Z ?_
      refine Run.fin Z (z3.go ?_);exact .t (by
       rw [hg] at hx;have e3:(w==1&&w'==1)=true:=hx
       rw [e,hinv,hb1];simp only [rgW,hc',Bool.not_false,Bool.true_and,e3];rfl)
     ·rw [hg] at hx;refine fR Z ?_;refine aL Z Z Z Z Z ?_;refine fM Z ?_
      exact zn 1 Z (ih () ⟨w==1,hlast,by
       have e3:(w==1&&w'==1)=false:=hx
       rw [hinv,hb1,hb2];simp only [rgW,hc',Bool.not_false,Bool.true_and,e3]⟩) rfl rfl rfl
end Go.GB.C11
namespace Go.GB.C11
open Go.GB
variable {P:Program}
end Go.GB.C11
namespace Go.GB.C11
open Go.GB
end Go.GB.C11
namespace Go.GB.C11
open Go.GB
variable {P:Program}
def Input.v (x:Input):V:= .agg [.t (.str x.name),.t (.str x.ty.name),.t (.lst (x.ty.zr.map nE)),.t (.bool x.has),.t (.int .i64 x.YN.kind),.t (.int .i64 x.YN.int),.t (.str x.YN.text),.t (.lst (x.YN.items.map Val.enc)),.t (.lst (x.YN.keys.map sE)),.t (.lst (x.zX.map Dir.enc))]
def Input.zero:Input:=⟨[],⟨[],[]⟩,false,Val.zero,[]⟩
theorem Input.ZD:Input.zero.Ok:=⟨⟨by decide,by decide⟩,Val.ZD,by decide,by simp [Input.zero],by decide⟩
def zV (n:Str):List Input->Option Input
 |[]=>none
 |d::r=>if (d.name==n)=true then some d else zV n r
theorem Qt {n:Str}:∀{l:List Input} {d:Input},zV n l=some d->d∈l
 |[],d,h=>by simp [zV] at h
 |x::r,d,h=>by
  simp only [zV] at h;split at h
  ·cases h;exact List.mem_cons_self ..
  ·exact List.mem_cons_of_mem _ (Qt h)
def z3d (a b:Ref):Bool:=a.name==b.name&&decide (a.zr=b.zr)
def yx (ds:List Def) (n:Str) (k:Int):Int:=
 if (!(zf n ds).isSome&&!(WX n))=true then 8
 else if (!(zf n ds).isSome||((zf n ds).getD Def.zero).kind !=k)=true then 9
 else 0
end Go.GB.C11
namespace Go.GB.C11
open Go.GB
variable {P:Program}
def z83 (ds:List Def) (a b:Ref):Bool:=QX (z55 ds a.name b.name) (a.zr.length+b.zr.length+1) a.zr b.zr
theorem z9k (H:Pr P) (ds:List Def) (hD:Z8 ds) (a b:Ref) (ha:a.Ok) (hb:b.Ok):z7 P 136 [yS ds,a.v,b.v] ⟨[],0⟩ {v:= .t (.bool (z83 ds a b))}:=z86 H ds hD _ a b (Nat.lt_succ_self _) ha hb
def zdN (y:Field) (a:Input):Bool:=!(zV a.name y.args).isSome||!(z3d a.ty ((zV a.name y.args).getD Input.zero).ty)
def qA (y:Field) (at_:Str):List Input->List zk
 |[]=>[]
 |a::r=>if zdN y a=true then ⟨22,at_++[40]++a.name++[41]⟩::qA y at_ r else qA y at_ r
def zd7 (x:Field) (b:Input):Bool:=!(zV b.name x.args).isSome&&nnF b.ty.zr&&!b.has
def WV (x:Field) (at_:Str):List Input->List zk
 |[]=>[]
 |b::r=>if zd7 x b=true then ⟨22,at_++[40]++b.name++[41]⟩::WV x at_ r else WV x at_ r
def atF (t:Def) (x:Field):Str:=t.name++[46]++x.name
def z6v (ds:List Def) (t:Def) (x:Field):List zk:=
 match Zb x.name t.fields with
 |none=>[⟨20,atF t x⟩]
 |some y=>(if z83 ds y.ty x.ty=true then [] else [(⟨10,atF t x⟩:zk)])++(qA y (atF t x) x.args++WV x (atF t x) y.args)
def q6 (ds:List Def) (t:Def):List Field->List zk
 |[]=>[]
 |x::r=>z6v ds t x++q6 ds t r
theorem zgl {l:List Input} (h:∀y,y∈l->y.Ok) (n:Str):((zV n l).getD Input.zero).Ok:=by
 cases e:zV n l with
 |none=>exact Input.ZD
 |some x=>exact h x (Qt e)
end Go.GB.C11
namespace Go.GB.C11
open Go.GB
variable {P:Program}
def z3p (ds:List Def) (pre:List Str) (n:Str):Int:=if (yx ds n 2==0&&decide (n∈pre))=true then 7 else yx ds n 2
def Y6 (ds:List Def) (t:Def):List Str->List Str->List zk
 |_,[]=>[]
 |pre,n::r=>(if z3p ds pre n=0 then q6 ds t ((zf n ds).getD Def.zero).fields else [(⟨z3p ds pre n,t.name⟩:zk)])++Y6 ds t (pre++[n]) r
def z9p (ds:List Def) (t:Def):List zk:=Y6 ds t [] t.implements
end Go.GB.C11
namespace Go.GB.C11
open Go.GB
variable {P:Program}
def unE (ds:List Def) (pre:List zN) (m:zN):Int:=if (yx ds m.name 1==0&&wV pre m.name)=true then 7 else yx ds m.name 1
def unL (ds:List Def) (t:Def):List zN->List zN->List zk
 |_,[]=>[]
 |pre,m::r=>(if unE ds pre m=0 then [] else [(⟨unE ds pre m,t.name++[46]++m.name⟩:zk)])++unL ds t (pre++[m]) r
def W9 (ds:List Def):List Def->List zk
 |[]=>[]
 |t::r=>(if t.kind=1 then z9p ds t else if t.kind=3 then unL ds t [] t.members else [])++W9 ds r
def WS (ds:List Def):List zk:=W9 ds ds
end Go.GB.C11
namespace Go.GB.C11
open Go.GB
variable {P:Program}
end Go.GB.C11
namespace Go.GB.C11
open Go.GB
variable {P:Program}
end Go.GB.C11
namespace Go.GB.C11
open Go.GB
variable {P:Program}
def zdC:Str->Bool
 |a::b::_=>(a.toNat:Int)==95&&(b.toNat:Int)==95
 |_=>false
theorem qP (H:Pr P) (s:Str) (hs:s.length<=140737488355328):z7 P 99 [.t (.str s)] ⟨[],0⟩ {v:= .t (.bool (zdC s))}:=by
 match s,hs with
 |[],_=>
  refine z7.run H.i99 H.mixed Z Z ?_;refine fR Z ?_;refine Mid.W7 Z Z Z Z Z ?_;refine Mid.W7 Z Z Z Z Z ?_;refine fM Z ?_;refine Mid.W7 Z Z Z Z Z ?_;refine Mid.W7 Z Z Z Z Z ?_;refine fM Z ?_;refine Run.fin Z (z3.go ?_);exact .t Z
 |[a],_=>
  refine z7.run H.i99 H.mixed Z Z ?_;refine fR Z ?_;refine gr Z ?_;refine fM Z ?_;refine Mid.W7 Z Z Z Z Z ?_;refine Mid.W7 Z Z Z Z Z ?_;refine fM Z ?_;refine Run.fin Z (z3.go ?_);exact .t Z
 |a::b::r,hs=>
  refine z7.run H.i99 H.mixed Z Z ?_;refine fR Z ?_;refine gr Z ?_;refine fM Z ?_;refine gr Z ?_;refine fM Z ?_
  refine Run.fin Z (z3.go ?_);exact .t (by
   have:decide (((a::b::r).length:Int)≥2)=true:=by simp;omega
   rw [this];rfl)
def z09 (n:Str):Bool:=zq n&&!zdC n
theorem z22 (H:Pr P) (n:Str) (hn:n.length<=140737488355328):z7 P 133 [.t (.str n)] ⟨[],0⟩ {v:= .t (.bool (z09 n))}:=by
 refine z7.run H.i133 H.mixed Z Z ?_;refine fR Z ?_;refine Mid.call (Q5 H n hn) Z Z Z Z ?_;refine fM Z ?_;refine caG Z Z (fun hg=>⟨_,rfl,qP H n hn,rfl⟩) Z Z ?_;refine fM Z ?_;refine Run.fin Z (z3.go ?_);exact .t Z
def ZB (n:Str) (bad twice:Bool) (at_:Str):List zk:=
 (if (bad||!z09 n)=true then [(⟨6,at_⟩:zk)] else [])++(if twice=true then [(⟨7,at_⟩:zk)] else [])
theorem z2S (H:Pr P) (n:Str) (hn:n.length<=140737488355328) (bad twice:Bool) (at_:Str):z7 P 117 [.t (.str n),.t (.bool bad),.t (.bool twice),.t (.str at_)] ⟨[],0⟩ {v:= .t (.lst ((ZB n bad twice at_).map zk.enc))}:=by
 refine z7.run H.i117 H.mixed Z Z ?_;refine fR Z ?_;refine caG Z Z (fun hg=>⟨_,rfl,z22 H n hn,rfl⟩) Z Z ?_;refine fM Z ?_;refine Run.cond Z Z (fun h=>?_) (fun h=>?_)
 ·refine fR Z ?_;refine apN zk.enc [(⟨6,at_⟩:zk)] Z Z Z ?_ (h1:=by first |omega|(simp;omega)|(simp;done)) (h2:=by first |omega|(simp;omega)|(simp;done));refine fM rfl ?_
  cases twice with
  |true=>
   refine Run.zm Z Z Z ?_;refine fR Z ?_;refine apM zk.enc [(⟨6,at_⟩:zk)] [(⟨7,at_⟩:zk)] Z Z Z Z Z ?_ (h1:=by first |omega|(simp;omega)|(simp;done)) (h2:=by first |omega|(simp;omega)|(simp;done));refine fM rfl ?_;refine Run.fin rfl (z3.go ?_);exact .own (by unfold ZB;rw [if_pos h,if_pos rfl])
  |false=>
   refine Run.zj Z Z Z ?_;refine fR Z ?_;refine Run.fin Z (z3.go ?_);exact .own (by unfold ZB;rw [if_pos h,if_neg (by simp)];rfl)
 ·refine fR Z ?_
  have h':¬ (bad||!z09 n)=true:=by rw [h];simp
  cases twice with
  |true=>
   refine Run.zm Z Z Z ?_;refine fR Z ?_;refine apN zk.enc [(⟨7,at_⟩:zk)] Z Z Z ?_ (h1:=by first |omega|(simp;omega)|(simp;done)) (h2:=by first |omega|(simp;omega)|(simp;done));refine fM rfl ?_;refine Run.fin rfl (z3.go ?_);exact .own (by unfold ZB;rw [if_neg h',if_pos rfl];rfl)
  |false=>
   refine Run.zj Z Z Z ?_;refine fR Z ?_;refine Run.fin Z (z3.go ?_);exact .nil (by unfold ZB;rw [if_neg h',if_neg (by simp)];rfl)
def Y1 (d:Def):Bool:=if d.kind=1∨d.kind=2 then ((d.fields.length:Int)==0) else if d.kind=3∨d.kind=4 then ((d.members.length:Int)==0) else if d.kind=5 then ((d.ze.length:Int)==0) else false
def QQ (ds:List Def) (n:Str):Bool:=WX n||(zf n ds).isSome
theorem z6d (H:Pr P) (ds:List Def) (hD:Z8 ds) (n:Str):z7 P 120 [yS ds,.t (.str n)] ⟨[],0⟩ {v:= .t (.bool (QQ ds n))}:=by
 refine z7.run H.i120 H.mixed Z Z ?_;refine fR Z ?_;refine Mid.call (yh H ds hD.l n) Z Z Z Z ?_;refine fM Z ?_;refine Mid.call (YT H n) Z Z Z Z ?_;refine fM Z ?_;refine Run.fin Z (z3.go ?_);exact .t Z
def zbM (ds:List Def) (n:Str):Bool:=WX n||((zf n ds).isSome&&((zf n ds).getD Def.zero).kind==4)
theorem z8j (H:Pr P) (ds:List Def) (hD:Z8 ds) (n:Str):z7 P 103 [yS ds,.t (.str n)] ⟨[],0⟩ {v:= .t (.bool (zbM ds n))}:=by
 refine z7.run H.i103 H.mixed Z Z ?_;refine fR Z ?_;refine Mid.call (yh H ds hD.l n) Z Z Z Z ?_;refine fM Z ?_;refine Mid.call (YT H n) Z Z Z Z ?_;refine fM Z ?_;refine Run.fin Z (z3.go ?_);exact .t Z
def z11 (ds:List Def) (n:Str):Bool:=zbM ds n||((zf n ds).isSome&&((zf n ds).getD Def.zero).kind==5)
theorem QS (H:Pr P) (ds:List Def) (hD:Z8 ds) (n:Str):z7 P 122 [yS ds,.t (.str n)] ⟨[],0⟩ {v:= .t (.bool (z11 ds n))}:=by
 refine z7.run H.i122 H.mixed Z Z ?_;refine fR Z ?_;refine Mid.call (yh H ds hD.l n) Z Z Z Z ?_;refine fM Z ?_;refine Mid.call (z8j H ds hD n) Z Z Z Z ?_;refine fM Z ?_;refine Run.fin Z (z3.go ?_);exact .t Z
theorem W1 (H:Pr P) (l:List Input) (hl:l.length<=140737488355328) (n:Str):z7 P 121 [.t (.lst (l.map Input.enc)),.t (.str n)] ⟨[],0⟩ {v:= .tup [Input.v ((zV n l).getD Input.zero),.t (.bool (zV n l).isSome)]}:=by
 refine z7.run H.i121 H.mixed Z Z ?_;refine fR Z ?_;refine zD l (fun i (_:Unit)=>{env:=[(0,.t (.lst (l.map Input.enc))),(1,.t (.str n)),(4,.ptr 0 0),(6,.t (.int .i64 i))],s:=⟨[(0,.cells [.t (.str []),.t (.str []),.zI,.t (.bool false),.t (.int .i64 0),.t (.int .i64 0),.t (.str []),.zI,.zI,.zI])],1⟩}) (fun r i _=>zV n l=zV n r) 1 () Z Z Z Z Z ?_ ?_
 ·intro _ hinv;refine fR Z ?_;refine lM Z Z Z ?_;refine fM Z ?_;refine Run.zj Z Z (by simp) ?_;refine fR Z ?_
  have e:zV n l=none:=by rw [hinv];rfl
  rw [e];refine Run.fin Z (z3.go ?_);exact .wM (.agg (.cons (.t Z) (.cons (.t Z) (.cons (.nil Z) (.cons (.t Z) (.cons (.t Z) (.cons (.t Z) (.cons (.t Z) (.cons (.nil Z) (.cons (.nil Z) (.cons (.nil Z) .nil))))))))))) (.t Z)
 ·intro i x r _ h1 hi hd hinv ih;refine fR Z ?_;refine lM Z Z Z ?_;refine fM Z ?_;refine Run.zm Z Z (by simp;omega) ?_;refine fR Z ?_;refine Mid.zg Z Z Z h1 Z Z ?_;refine fM Z ?_;refine Run.cond Z Z (fun h=>?_) (fun h=>?_)
  ·refine fR Z ?_;refine Mid.zg Z Z Z h1 Z Z ?_;refine fM Z ?_
   have e:zV n l=some x:=by rw [hinv];simp only [zV];rw [if_pos h]
   rw [e];refine Run.fin Z (z3.go ?_);exact .wM (.le (.same Z)) (.t Z)
  ·refine fR Z ?_;refine aL Z Z Z Z Z ?_;refine fM Z ?_
   have h':¬ (x.name==n)=true:=by rw [h];simp
   exact zn 1 Z (ih () (by rw [hinv];simp only [zV];rw [if_neg h'])) Z Z Z
theorem zaQ (H:Pr P) (d:Def):z7 P 118 [d.v] ⟨[],0⟩ {v:= .t (.bool (Y1 d))}:=by
 refine z7.run H.i118 H.mixed Z Z ?_;refine fR Z ?_;refine Run.cond Z Z (fun h1=>?_) (fun h1=>?_)
 ·have e:Y1 d=((d.fields.length:Int)==0):=by unfold Y1;rw [if_pos (.inl (by simpa using h1))]
  skip;refine Run.zm Z Z h1 ?_;refine fR Z ?_;refine lM Z Z Z ?_;refine fM Z ?_;refine Run.fin Z (z3.go ?_);exact .t (by rw [e])
 ·have n1:¬ d.kind=1:=by simpa using h1
  refine fR Z ?_;refine Run.cond Z Z (fun h2=>?_) (fun h2=>?_)
  ·have e:Y1 d=((d.fields.length:Int)==0):=by unfold Y1;rw [if_pos (.inr (by simpa using h2))]
   refine fR Z ?_;refine lM Z Z Z ?_;refine fM Z ?_;refine Run.fin Z (z3.go ?_);exact .t (by rw [e])
  ·have n2:¬ d.kind=2:=by simpa using h2
   refine fR Z ?_;refine Run.cond Z Z (fun h3=>?_) (fun h3=>?_)
   ·have e:Y1 d=((d.members.length:Int)==0):=by unfold Y1;rw [if_neg (by omega),if_pos (.inl (by simpa using h3))]
    skip;refine Run.zm Z Z h3 ?_;refine fR Z ?_;refine lM Z Z Z ?_;refine fM Z ?_;refine Run.fin Z (z3.go ?_);exact .t (by rw [e])
   ·have n3:¬ d.kind=3:=by simpa using h3
    refine fR Z ?_;refine Run.cond Z Z (fun h4=>?_) (fun h4=>?_)
    ·have e:Y1 d=((d.members.length:Int)==0):=by unfold Y1;rw [if_neg (by omega),if_pos (.inr (by simpa using h4))]
     refine fR Z ?_;refine lM Z Z Z ?_;refine fM Z ?_;refine Run.fin Z (z3.go ?_);exact .t (by rw [e])
    ·have n4:¬ d.kind=4:=by simpa using h4
     refine fR Z ?_;refine Run.cond Z Z (fun h5=>?_) (fun h5=>?_)
     ·have e:Y1 d=((d.ze.length:Int)==0):=by unfold Y1;rw [if_neg (by omega),if_neg (by omega),if_pos (by simpa using h5)]
      refine fR Z ?_;refine lM Z Z Z ?_;refine fM Z ?_;refine Run.fin Z (z3.go ?_);exact .t (by rw [e])
     ·have n5:¬ d.kind=5:=by simpa using h5
      refine fR Z ?_;refine Run.fin Z (z3.go ?_);exact .t (by unfold Y1;rw [if_neg (by omega),if_neg (by omega),if_neg n5])
end Go.GB.C11
namespace Go.GB.C11
open Go.GB
variable {P:Program}
theorem WH {n:Str}:∀{l:List Def} {d:Def},zf n l=some d->d.name=n
 |[],d,h=>by simp [zf] at h
 |x::r,d,h=>by
  simp only [zf] at h;split at h
  ·rename_i hx;cases h;simpa using hx
  ·exact WH h
theorem z6Q (H:Pr P) (l:List Str) (hl:l.length<=140737488355328) (s:Str):z7 P 135 [.t (.lst (l.map sE)),.t (.str s)] ⟨[],0⟩ {v:= .t (.bool (decide (s∈l)))}:=by
 refine z7.run H.i135 H.mixed Z Z ?_;refine fR Z ?_;refine zD l (fun i (_:Unit)=>{env:=[(0,.t (.lst (l.map sE))),(1,.t (.str s)),(5,.t (.int .i64 i))],s:=⟨[],0⟩}) (fun r i _=>decide (s∈l)=decide (s∈r)) 0 () Z Z Z Z Z ?_ ?_
 ·intro _ hinv;refine fR Z ?_;refine lM Z Z Z ?_;refine fM Z ?_;refine Run.zj Z Z (by simp) ?_;refine fR Z ?_;refine Run.fin Z (z3.go ?_);exact .t (by rw [hinv];simp)
 ·intro i x r _ h1 hi hd hinv ih;refine fR Z ?_;refine lM Z Z Z ?_;refine fM Z ?_;refine Run.zm Z Z (by simp;omega) ?_;refine fR Z ?_;refine Mid.zg Z Z Z h1 Z Z ?_;refine fM Z ?_;refine Run.cond Z Z (fun h=>?_) (fun h=>?_)
  ·have h':x=s:=by simpa using h
   refine fR Z ?_;refine Run.fin Z (z3.go ?_);exact .t (by rw [hinv];simp [h'])
  ·have h':¬ x=s:=by simpa using h
   have h2:¬ s=x:=fun e=>h' e.symm;refine fR Z ?_;refine aL Z Z Z Z Z ?_;refine fM Z ?_;exact zn 0 Z (ih () (by rw [hinv];simp [h2])) Z Z Z
def zg7:List Int->Bool
 |[]=>false
 |w::r=>((w::r).length:Int)==1&&w==1
theorem z4a (H:Pr P) (t:Ref):z7 P 141 [t.v] ⟨[],0⟩ {v:= .t (.bool (zg7 t.zr))}:=by
 obtain ⟨n,ws⟩:=t
 match ws with
 |[]=>
  refine z7.run H.i141 H.mixed Z Z ?_;refine fR Z ?_;refine lM Z Z Z ?_;refine fM Z ?_;refine Mid.W7 Z Z Z Z Z ?_;refine Mid.W7 Z Z Z Z Z ?_;refine Mid.W7 Z Z Z Z Z ?_;refine fM Z ?_;refine Run.fin Z (z3.go ?_);exact .t Z
 |w::r=>
  have h1:(w::r)[0]?=some w:=rfl;refine z7.run H.i141 H.mixed Z Z ?_;refine fR Z ?_;refine lM Z Z Z ?_;refine fM Z ?_;refine gr Z ?_;refine fM Z ?_;refine Run.fin Z (z3.go ?_);exact .t Z
def z04 (ds:List Def) (nm:Str) (x:Input) (l:List Str):Bool:=
 zg7 x.ty.zr&&(x.ty.name==nm||((zf x.ty.name ds).isSome&&((zf x.ty.name ds).getD Def.zero).kind==5))&&!decide (x.ty.name∈l)
def yj (ds:List Def) (nm:Str):List Input->List Str->List Str
 |[],l=>l
 |x::r,l=>yj ds nm r (if z04 ds nm x l=true then l++[x.ty.name] else l)
theorem zb5 (H:Pr P) (ds:List Def) (hD:Z8 ds) (d:Def) (hd:d.Ok) (nm:Str) (hl:d.ze.length<=4398046511104):
  z7 P 134 [yS ds,d.v,.t (.str nm),.zI] ⟨[],0⟩ {v:= .own 2 1 ((yj ds nm d.ze []).map sE),ob:=[(2,.arr (yj ds nm d.ze []).length)],n:=3}:=by
 refine z7.run H.i134 H.mixed Z Z ?_;refine fR Z ?_
 refine zD d.ze (fun i (B:List Str)=>{env:=[(2,.t (.str nm)),(3,.own 2 1 (B.map sE)),(4,.ptr 0 0),(5,.ptr 1 0),(9,.t (.int .i64 i))],s:=⟨[(0,.cells [.t (.lst (ds.map Def.enc))]),(1,.cells [.t (.int .i64 d.kind),.t (.str d.name),.t (.lst (d.implements.map sE)),.t (.lst (d.zX.map Dir.enc)),.t (.lst (d.fields.map Field.enc)),.t (.lst (d.members.map zN.enc)),.t (.lst (d.ze.map Input.enc))]),(2,.arr B.length)],3⟩}) (fun r i B=>B.length+r.length<=4398046511104/\yj ds nm d.ze []=yj ds nm r B) 2 [] Z ⟨by simpa using hl,rfl⟩ rfl rfl rfl ?_ ?_
 ·rintro B ⟨_,hB⟩;have hB':yj ds nm d.ze []=B:=hB;rw [hB'];refine fR Z ?_;refine lM Z Z Z ?_;refine fM Z ?_;refine Run.zj Z Z (by simp) ?_;refine fR Z ?_;refine Run.fin Z (z3.chg Z Z ?_ ?_)
  ·exact .le (.same Z)
  ·exact leSA
 ·rintro i x r B h1 hi hdr ⟨hlB,hB⟩ ih;simp only [List.length_cons] at hlB;have hx:=hd.n x (zMG h1);refine fR Z ?_;refine lM Z Z Z ?_;refine fM Z ?_;refine Run.zm Z Z (by simp;omega) ?_;refine fR Z ?_;refine Mid.zg Z Z Z h1 Z Z ?_;refine fM Z ?_;refine Mid.call (yh H ds hD.l x.ty.name) Z Z Z Z ?_;refine fM Z ?_;refine Mid.call (z4a H x.ty) Z Z Z Z ?_;refine fM Z ?_;refine caG Z Z (fun hg=>⟨_,rfl,z6Q H B (by omega) x.ty.name,rfl⟩) Z Z ?_;refine fM Z ?_;refine Run.cond Z Z (fun hc=>?_) (fun hc=>?_)
  ·have e:z04 ds nm x B=true:=hc;refine fR Z ?_;refine apM sE B [x.ty.name] Z Z Z Z Z ?_ (h1:=by first |omega|(simp;omega)|(simp;done)) (h2:=by first |omega|(simp;omega)|(simp;done));refine fM rfl ?_;refine aL rfl rfl rfl rfl rfl ?_;refine fM rfl ?_;exact zn 3 rfl (ih (B++[x.ty.name]) ⟨by simp;omega,by rw [hB];simp only [yj];rw [if_pos e]⟩) rfl rfl rfl
  ·have e:¬ z04 ds nm x B=true:=by rw [show z04 ds nm x B=false from hc];simp
   refine fR Z ?_;refine aL Z Z Z Z Z ?_;refine fM Z ?_;exact zn 3 Z (ih B ⟨by omega,by rw [hB];simp only [yj];rw [if_neg e]⟩) rfl rfl rfl
theorem zdl (H:Pr P) (ds:List Def) (hD:Z8 ds) (d:Def) (hd:d.Ok) (nm:Str) (l:List Str) (hl:l.length+d.ze.length<=4398046511104):
  z7 P 134 [yS ds,d.v,.t (.str nm),.own 0 1 (l.map sE)] ⟨[(0,.arr l.length)],1⟩ {v:= .own 0 1 ((yj ds nm d.ze l).map sE),ob:=[(0,.arr (yj ds nm d.ze l).length)],rd:=true}:=by
 refine z7.run H.i134 H.mixed Z Z ?_;refine fR Z ?_
 refine zD d.ze (fun i (B:List Str)=>{env:=[(2,.t (.str nm)),(3,.own 0 1 (B.map sE)),(4,.ptr 1 0),(5,.ptr 2 0),(9,.t (.int .i64 i))],s:=⟨[(0,.arr B.length),(1,.cells [.t (.lst (ds.map Def.enc))]),(2,.cells [.t (.int .i64 d.kind),.t (.str d.name),.t (.lst (d.implements.map sE)),.t (.lst (d.zX.map Dir.enc)),.t (.lst (d.fields.map Field.enc)),.t (.lst (d.members.map zN.enc)),.t (.lst (d.ze.map Input.enc))])],3⟩}) (fun r i B=>B.length+r.length<=4398046511104/\yj ds nm d.ze l=yj ds nm r B) 3 l Z ⟨by exact hl,rfl⟩ rfl rfl rfl ?_ ?_
 ·rintro B ⟨_,hB⟩;have hB':yj ds nm d.ze l=B:=hB;rw [hB'];refine fR Z ?_;refine lM Z Z Z ?_;refine fM Z ?_;refine Run.zj Z Z (by simp) ?_;refine fR Z ?_;refine Run.fin Z (z3.chg Z Z ?_ ?_)
  ·exact .le (.same Z)
  ·exact leSA
 ·rintro i x r B h1 hi hdr ⟨hlB,hB⟩ ih;simp only [List.length_cons] at hlB;have hx:=hd.n x (zMG h1);refine fR Z ?_;refine lM Z Z Z ?_;refine fM Z ?_;refine Run.zm Z Z (by simp;omega) ?_;refine fR Z ?_;refine Mid.zg Z Z Z h1 Z Z ?_;refine fM Z ?_;refine Mid.call (yh H ds hD.l x.ty.name) Z Z Z Z ?_;refine fM Z ?_;refine Mid.call (z4a H x.ty) Z Z Z Z ?_;refine fM Z ?_;refine caG Z Z (fun hg=>⟨_,rfl,z6Q H B (by omega) x.ty.name,rfl⟩) Z Z ?_;refine fM Z ?_;refine Run.cond Z Z (fun hc=>?_) (fun hc=>?_)
  ·have e:z04 ds nm x B=true:=hc;refine fR Z ?_;refine apM sE B [x.ty.name] Z Z Z Z Z ?_ (h1:=by first |omega|(simp;omega)|(simp;done)) (h2:=by first |omega|(simp;omega)|(simp;done));refine fM rfl ?_;refine aL rfl rfl rfl rfl rfl ?_;refine fM rfl ?_;exact zn 3 rfl (ih (B++[x.ty.name]) ⟨by simp;omega,by rw [hB];simp only [yj];rw [if_pos e]⟩) rfl rfl rfl
  ·have e:¬ z04 ds nm x B=true:=by rw [show z04 ds nm x B=false from hc];simp
   refine fR Z ?_;refine aL Z Z Z Z Z ?_;refine fM Z ?_;exact zn 3 Z (ih B ⟨by omega,by rw [hB];simp only [yj];rw [if_neg e]⟩) rfl rfl rfl
theorem z5K (ds:List Def) (nm:Str):∀(ins:List Input) (l:List Str),l.length<=(yj ds nm ins l).length
 |[],l=>Nat.le_refl _
 |x::r,l=>by
  simp only [yj];refine Nat.le_trans ?_ (z5K ds nm r _)
  split<;>simp
def z2q (ds:List Def) (nm:Str):Nat->Nat->List Str->List Str
 |0,_,l=>l
 |k+1,i,l=>match l[i]? with
  |none=>l
  |some n=>z2q ds nm k (i+1) (yj ds nm ((zf n ds).getD Def.zero).ze l)
def WZ (ds:List Def) (d:Def):Bool:=d.kind==5&&decide (d.name∈z2q ds d.name (ds.length+2) 0 (yj ds d.name d.ze []))
structure LOk (ds:List Def) (nm:Str) (l:List Str):Prop where
 nd:l.Nodup
 mem:∀x,x∈l->x∈nm::ds.map (fun o=>o.name)
theorem z40 {α:Type} [BEq α] [LawfulBEq α]:∀{l m:List α},l.Nodup->(∀x,x∈l->x∈m)->l.length<=m.length
 |[],_,_,_=>by simp
 |a::r,m,hn,hs=>by
  have ha:a∈m:=hs a (by simp);obtain ⟨hn1,hn2⟩:=List.nodup_cons.1 hn
  have h1:=z40 (l:=r) (m:=m.erase a) hn2 (fun x hx=>by
   have hne:x≠a:=by rintro rfl;exact hn1 hx
   exact (List.mem_erase_of_ne hne).2 (hs x (List.mem_cons_of_mem _ hx)))
  have h2:=List.length_erase_of_mem ha;have h3:0<m.length:=List.length_pos_of_mem ha;simp only [List.length_cons];omega
theorem LOk.len {ds:List Def} {nm:Str} {l:List Str} (h:LOk ds nm l):l.length<=ds.length+1:=by
 have:=z40 h.nd h.mem;simpa using this
theorem z0k {ds:List Def} {nm:Str}:∀{ins:List Input} {l:List Str},LOk ds nm l->LOk ds nm (yj ds nm ins l)
 |[],l,h=>h
 |x::r,l,h=>by
  simp only [yj];split
  ·rename_i hc;refine z0k ⟨?_,?_⟩
   ·unfold z04 at hc;simp only [Bool.and_eq_true] at hc
    have hn:¬ x.ty.name∈l:=by simpa using hc.2
    rw [List.nodup_append]
    exact ⟨h.nd,by simp,fun a ha b hb e=>by simp at hb;subst hb;subst e;exact hn ha⟩
   ·intro y hy
    rcases List.mem_append.1 hy with hy|hy
    ·exact h.mem y hy
    ·simp at hy;subst hy;unfold z04 at hc;simp only [Bool.and_eq_true,Bool.or_eq_true,beq_iff_eq] at hc
     rcases hc.1.2 with e|e
     ·rw [e];simp
     ·cases hf:zf x.ty.name ds with
      |none=>rw [hf] at e;simp at e
      |some o=>
       have h1:=ZG hf;have h2:=WH hf;rw [←h2];exact List.mem_cons_of_mem _ (List.mem_map.2 ⟨o,h1,rfl⟩)
  ·exact z0k h
theorem z6P (H:Pr P) (ds:List Def) (hD:Z8 ds) (d:Def) (hd:d.Ok) (hil:∀o,o∈d::ds->o.ze.length<=2199023255552):z7 P 119 [yS ds,d.v] ⟨[],0⟩ {v:= .t (.bool (WZ ds d))}:=by
 have hlb:=hD.lb
 have hz:∀n,((zf n ds).getD Def.zero).ze.length<=2199023255552:=by
  intro n
  cases hf:zf n ds with
  |none=>simp [Def.zero]
  |some o=>exact hil o (List.mem_cons_of_mem _ (ZG hf))
 refine z7.run H.i119 H.mixed Z Z ?_;refine fR Z ?_;refine Run.cond Z Z (fun hk=>?_) (fun hk=>?_)
 ·have e:WZ ds d=false:=by unfold WZ;rw [show (d.kind==5)=false from by simpa using hk];rfl
  refine fR Z ?_;refine Run.fin Z (z3.go ?_);exact .t (by rw [e])
 ·have hk':(d.kind==5)=true:=by simpa using hk
  refine fR Z ?_
  have h0:LOk ds d.name (yj ds d.name d.ze []):=z0k ⟨List.nodup_nil,by simp⟩
  refine Mid.z8K [] (zb5 H ds hD d hd d.name (by have:=hil d (by simp);omega)) Z Z Z Z (by simp [zR]) (by repeat' (first |exact trivial|exact rfl|refine And.intro ?_ ?_|exact (congrArg some (z6.zK _ _ _ _ _ _)).symm|exact (congrArg some (z6.zL _ _ _)).symm)) Z Z (ob':=[(4,.arr (yj ds d.name d.ze []).length)]) (rfl) Z Z ?_
  refine fM Z ?_
  have eB:WZ ds d=decide (d.name∈z2q ds d.name (ds.length+2) 0 (yj ds d.name d.ze [])):=by unfold WZ;rw [hk'];rfl
  generalize hC:z2q ds d.name (ds.length+2) 0 (yj ds d.name d.ze [])=C at eB
  have hN:∀(i:Nat) (l:List Str),LOk ds d.name l->i<=l.length->ds.length+2 - i=(ds.length+1 - i)+1:=by
   intro i l hl hi;have:=hl.len;omega
  refine z30 (β:=Nat×List Str) (fun b=>{env:=[(2,.ptr 0 0),(3,.ptr 1 0),(5,.own 4 1 (b.2.map sE)),(6,.t (.int .i64 b.1))],s:=⟨[(0,.cells [.t (.lst (ds.map Def.enc))]),(1,.cells [.t (.int .i64 d.kind),.t (.str d.name),.t (.lst (d.implements.map sE)),.t (.lst (d.zX.map Dir.enc)),.t (.lst (d.fields.map Field.enc)),.t (.lst (d.members.map zN.enc)),.t (.lst (d.ze.map Input.enc))]),(4,.arr b.2.length)],5⟩})
   (fun b=>LOk ds d.name b.2/\b.1<=b.2.length/\C=z2q ds d.name (ds.length+2 - b.1) b.1 b.2) (fun b=>ds.length+2 - b.1) 5 (0,yj ds d.name d.ze []) rfl ⟨h0,by simp,hC.symm⟩ rfl rfl rfl ?_
  rintro ⟨i,l⟩ ⟨hl,hi,hinv⟩ ih;dsimp only at hl hi hinv ih⊢;have hlen:=hl.len;have hN':=hN i l hl hi;rw [hN'] at hinv;refine fR Z ?_;refine lM Z Z Z ?_;refine fM Z ?_;by_cases hlt:i<l.length
  ·refine Run.zm Z Z (by simp;omega) ?_;have hg:l[i]?=some l[i]:=List.getElem?_eq_getElem hlt;generalize l[i]=n at hg;have hF:=z02 hD n;have hnx:LOk ds d.name (yj ds d.name ((zf n ds).getD Def.zero).ze l):=z0k hl;simp only [z2q,hg] at hinv;have hzn:=hz n;refine fR Z ?_;refine Mid.zg Z Z Z hg Z Z ?_;refine fM Z ?_;refine Mid.call (yh H ds hD.l n) Z Z Z Z ?_;refine fM Z ?_
   refine Mid.z8K [4] (zdl H ds hD ((zf n ds).getD Def.zero) hF d.name l (by omega)) Z Z Z Z (by simp [zR];simp [z6.bd]) (by repeat' (first |exact trivial|exact rfl|refine And.intro ?_ ?_|exact (congrArg some (z6.zK _ _ _ _ _ _)).symm|exact (congrArg some (z6.zL _ _ _)).symm)) Z Z (ob':=[(4,.arr (yj ds d.name ((zf n ds).getD Def.zero).ze l).length)]) (rfl) Z Z ?_
   refine fM Z ?_;refine aL Z Z Z Z Z ?_;refine fM Z ?_
   exact zn 5 Z (ih (i+1,yj ds d.name ((zf n ds).getD Def.zero).ze l) (by simp only;omega) ⟨hnx,by simp only;have:=z5K ds d.name ((zf n ds).getD Def.zero).ze l;omega,by rw [hinv];simp only;congr 1;omega⟩) rfl rfl rfl
  ·refine Run.zj Z Z (by simp;omega) ?_;have hg:l[i]?=none:=List.getElem?_eq_none (by omega);simp only [z2q,hg] at hinv;refine fR Z ?_;refine Mid.call (z6Q H l (by omega) d.name) Z Z Z Z ?_;refine fM Z ?_;refine Run.fin Z (z3.go ?_);exact .t (by rw [eB,hinv])
end Go.GB.C11
namespace Go.GB.C11
open Go.GB
variable {P:Program}
theorem zae (H:Pr P) (n:Str) (hn:n.length<=140737488355328) (bad twice:Bool) (at_:Str):z7 P 117 [.t (.str n),.t (.bool bad),.t (.bool twice),.t (.str at_)] ⟨[],0⟩ {v:= .own 0 2 ((ZB n bad twice at_).map zk.enc),ob:=[(0,.arr (ZB n bad twice at_).length)],n:=1}:=by
 refine z7.run H.i117 H.mixed Z Z ?_;refine fR Z ?_;refine caG Z Z (fun hg=>⟨_,rfl,z22 H n hn,rfl⟩) Z Z ?_;refine fM Z ?_;refine Run.cond Z Z (fun h=>?_) (fun h=>?_)
 ·refine fR Z ?_;refine apN zk.enc [(⟨6,at_⟩:zk)] Z Z Z ?_ (h1:=by first |omega|(simp;omega)|(simp;done)) (h2:=by first |omega|(simp;omega)|(simp;done));refine fM rfl ?_
  cases twice with
  |true=>
   refine Run.zm Z Z Z ?_;refine fR Z ?_;refine apM zk.enc [(⟨6,at_⟩:zk)] [(⟨7,at_⟩:zk)] Z Z Z Z Z ?_ (h1:=by first |omega|(simp;omega)|(simp;done)) (h2:=by first |omega|(simp;omega)|(simp;done));refine fM rfl ?_
   have e:ZB n bad true at_=[⟨6,at_⟩]++[⟨7,at_⟩]:=by unfold ZB;rw [if_pos h,if_pos rfl]
   rw [e];refine Run.fin Z (z3.chg Z Z ?_ ?_)
   ·exact .le (.same Z)
   ·exact leSA
  |false=>
   refine Run.zj Z Z Z ?_;refine fR Z ?_
   have e:ZB n bad false at_=[⟨6,at_⟩]:=by unfold ZB;rw [if_pos h,if_neg (by simp)];rfl
   rw [e];refine Run.fin Z (z3.chg Z Z ?_ ?_)
   ·exact .le (.same Z)
   ·exact leSA
 ·refine fR Z ?_
  have h':¬ (bad||!z09 n)=true:=by rw [h];simp
  refine YK 0 Z (st':={env:=[(3,.t (.str at_)),(9,.own 0 2 ([].map zk.enc)),(21,.t (.bool twice))],s:=⟨[(0,.arr 0)],1⟩}) ?_ Z Z Z
  cases twice with
  |true=>
   refine Run.zm Z Z Z ?_;refine fR Z ?_;refine apM zk.enc [] [(⟨7,at_⟩:zk)] Z Z Z Z Z ?_ (h1:=by first |omega|(simp;omega)|(simp;done)) (h2:=by first |omega|(simp;omega)|(simp;done));refine fM rfl ?_
   have e:ZB n bad true at_=[⟨7,at_⟩]:=by unfold ZB;rw [if_neg h',if_pos rfl];rfl
   rw [e];refine Run.fin Z (z3.chg Z Z ?_ ?_)
   ·exact .le (.same Z)
   ·exact leSA
  |false=>
   refine Run.zj Z Z Z ?_;refine fR Z ?_
   have e:ZB n bad false at_=[]:=by unfold ZB;rw [if_neg h',if_neg (by simp)];rfl
   rw [e];refine Run.fin Z (z3.chg Z Z ?_ ?_)
   ·exact .le (.same Z)
   ·exact leSA
def zg0 (n:Str):Bool:=n==[81,117,101,114,121]||n==[77,117,116,97,116,105,111,110]||n==[83,117,98,115,99,114,105,112,116,105,111,110]
def Q9 (d:Def):Bool:=(zg0 d.name&&d.kind !=1)||decide (d.kind<1)||decide (d.kind>5)
def z0B (ds:List Def) (i:Nat) (n:Str):Bool:=WX n||(ds.take i).any fun o=>o.name==n
def YW (ds:List Def) (i:Nat) (d:Def):List zk:=
 ZB d.name false (z0B ds i d.name) d.name++(if Y1 d=true then [⟨8,d.name⟩] else [])++(if Q9 d=true then [⟨9,d.name⟩] else [])++(if WZ ds d=true then [⟨5,d.name⟩] else [])
theorem wN (n:Str) (a b:Bool) (s:Str):(ZB n a b s).length<=2:=by
 unfold ZB;split<;>split<;>simp
theorem zaG (H:Pr P) (ds:List Def) (hD:Z8 ds) (hil:∀o,o∈ds->o.ze.length<=2199023255552) (i:Nat) (d:Def) (h:ds[i]?=some d):z7 P 91 [yS ds,.t (.int .i64 i)] ⟨[],0⟩ {v:= .t (.lst ((YW ds i d).map zk.enc))}:=by
 have hdm:=zMG h;have hd:=hD.d d hdm;have hnm:=hd.nm;have hdl:=hD.l;have hi:i<ds.length:=(List.getElem?_eq_some_iff.1 h).1;have hnl:=wN d.name false (z0B ds i d.name) d.name;have e0:z0B ds i d.name=(WX d.name||(ds.take i).any fun o=>o.name==d.name):=rfl;refine z7.run H.i91 H.mixed Z Z ?_;refine fR Z ?_;refine Mid.zg Z Z Z h Z Z ?_;refine fM Z ?_;refine Mid.call (YT H d.name) Z Z Z Z ?_;refine fM Z ?_;refine zD (ds.take i) (fun j (B:Bool)=>{env:=[(1,.t (.int .i64 i)),(2,.ptr 0 0),(5,.ptr 1 0),(6,.t (.bool B)),(7,.t (.int .i64 j))],s:=⟨[(0,.cells [.t (.lst (ds.map Def.enc))]),(1,.cells [.t (.int .i64 d.kind),.t (.str d.name),.t (.lst (d.implements.map sE)),.t (.lst (d.zX.map Dir.enc)),.t (.lst (d.fields.map Field.enc)),.t (.lst (d.members.map zN.enc)),.t (.lst (d.ze.map Input.enc))])],2⟩}) (fun r j B=>z0B ds i d.name=(B||r.any fun o=>o.name==d.name)) 2 (WX d.name) Z e0 Z Z Z ?_ ?_
 ·intro B hB
  have hl:(ds.take i).length=i:=by simp;omega
  have hB':z0B ds i d.name=B:=by rw [hB];simp
  rw [hl]
  have t0:∀L:List zk,L.length<=5->L=YW ds i d->Run P n91 0 (z3 ⟨[],0⟩ {v:= .t (.lst ((YW ds i d).map zk.enc))} r91 .ret) (yd 200 [It.c c91_0]) {env:=[(8,.own 2 2 (L.map zk.enc))],s:=⟨[(2,.arr L.length)],3⟩}:=by
   rintro L hLl rfl;refine fR Z ?_;refine Run.fin Z (z3.go ?_);exact .own Z
  have t3:∀L:List zk,L.length<=4->L++(if WZ ds d=true then [⟨5,d.name⟩] else [])=YW ds i d->Run P n91 0 (z3 ⟨[],0⟩ {v:= .t (.lst ((YW ds i d).map zk.enc))} r91 .ret) (yd 200 [It.c c91_3]) {env:=[(2,.ptr 0 0),(5,.ptr 1 0),(8,.own 2 2 (L.map zk.enc))],s:=⟨[(0,.cells [.t (.lst (ds.map Def.enc))]),(1,.cells [.t (.int .i64 d.kind),.t (.str d.name),.t (.lst (d.implements.map sE)),.t (.lst (d.zX.map Dir.enc)),.t (.lst (d.fields.map Field.enc)),.t (.lst (d.members.map zN.enc)),.t (.lst (d.ze.map Input.enc))]),(2,.arr L.length)],3⟩}:=by
   rintro L hLl hL;refine fR Z ?_
   refine Mid.call (z6P H ds hD d hd (by intro o ho;rcases List.mem_cons.1 ho with rfl|ho;exact hil _ hdm;exact hil _ ho)) Z Z Z Z ?_
   refine fM Z ?_;refine Run.cond Z Z (fun hc=>?_) (fun hc=>?_)
   ·refine fR Z ?_;refine apM zk.enc L [(⟨5,d.name⟩:zk)] Z Z Z Z Z ?_ (h1:=by simp;omega) (h2:=by simp;omega);refine Mid.wW (f:=1) rfl trivial ?_;refine Mid.z44 rfl ?_
    exact YK 3 Z (t0 (L++[⟨5,d.name⟩]) (by simp;omega) (by rw [←hL,if_pos (show WZ ds d=true from hc)]<;>simp)) Z Z Z
   ·exact YK 3 Z (t0 L (by omega) (by rw [←hL,if_neg (show ¬ WZ ds d=true by rw [show WZ ds d=false from hc];simp)]<;>simp)) Z Z Z
  have t7:∀L:List zk,L.length<=3->L++(if Q9 d=true then [⟨9,d.name⟩] else [])++(if WZ ds d=true then [⟨5,d.name⟩] else [])=YW ds i d->Run P n91 0 (z3 ⟨[],0⟩ {v:= .t (.lst ((YW ds i d).map zk.enc))} r91 .ret) (yd 200 [It.c c91_7]) {env:=[(2,.ptr 0 0),(5,.ptr 1 0),(8,.own 2 2 (L.map zk.enc))],s:=⟨[(0,.cells [.t (.lst (ds.map Def.enc))]),(1,.cells [.t (.int .i64 d.kind),.t (.str d.name),.t (.lst (d.implements.map sE)),.t (.lst (d.zX.map Dir.enc)),.t (.lst (d.fields.map Field.enc)),.t (.lst (d.members.map zN.enc)),.t (.lst (d.ze.map Input.enc))]),(2,.arr L.length)],3⟩}:=by
   rintro L hLl hL;refine fR Z ?_;refine Run.cond Z Z (fun hb=>?_) (fun hb=>?_)
   ·refine fR Z ?_;refine apM zk.enc L [(⟨9,d.name⟩:zk)] Z Z Z Z Z ?_ (h1:=by simp;omega) (h2:=by simp;omega);refine Mid.wW (f:=1) rfl trivial ?_;refine Mid.z44 rfl ?_
    exact YK 3 Z (t3 (L++[⟨9,d.name⟩]) (by simp;omega) (by rw [←hL,if_pos (show Q9 d=true from hb)]<;>simp)) Z Z Z
   ·exact YK 3 Z (t3 L (by omega) (by rw [←hL,if_neg (show ¬ Q9 d=true by rw [show Q9 d=false from hb];simp)]<;>simp)) Z Z Z
  refine fR Z ?_;refine Run.zj Z Z (by simp) ?_;refine fR Z ?_;rw [hB'] at hnl
  refine Mid.z8K [] (zae H d.name hnm false B d.name) Z Z Z Z (by simp [zR]) (by repeat' (first |exact trivial|exact rfl|refine And.intro ?_ ?_|exact (congrArg some (z6.zK _ _ _ _ _ _)).symm|exact (congrArg some (z6.zL _ _ _)).symm)) Z Z (ob':=[(2,.arr (ZB d.name false B d.name).length)]) (rfl) Z Z ?_
  refine fM Z ?_;refine Mid.call (zaQ H d) Z Z Z Z ?_;refine fM Z ?_
  have hL:ZB d.name false B d.name++(if Y1 d=true then [⟨8,d.name⟩] else [])++(if Q9 d=true then [⟨9,d.name⟩] else [])++(if WZ ds d=true then [⟨5,d.name⟩] else [])=YW ds i d:=by unfold YW;rw [hB']
  generalize ZB d.name false B d.name=L at hL hnl;refine Run.cond Z Z (fun he=>?_) (fun he=>?_)
  ·refine fR Z ?_;refine apM zk.enc L [(⟨8,d.name⟩:zk)] Z Z Z Z Z ?_ (h1:=by simp;omega) (h2:=by simp;omega);refine Mid.wW (f:=1) rfl trivial ?_;refine Mid.z44 rfl ?_
   exact YK 3 Z (t7 (L++[⟨8,d.name⟩]) (by simp;omega) (by rw [←hL,if_pos (show Y1 d=true from he)]<;>simp)) Z Z Z
  ·exact YK 3 Z (t7 L (by omega) (by rw [←hL,if_neg (show ¬ Y1 d=true by rw [show Y1 d=false from he];simp)]<;>simp)) Z Z Z
 ·intro j o r B h1 hj hjd hB ih
  have hji:j<i:=by simp at hj;omega
  have ho:ds[j]?=some o:=by rw [List.getElem?_take] at h1;rw [if_pos hji] at h1;exact h1
  have hjl:j<ds.length:=by omega
  refine fR Z ?_;refine Run.zm Z Z (by simp;omega) ?_;refine fR Z ?_;refine elG Z Z Z Z ho Z Z ?_;refine fM Z ?_;refine aL Z Z Z Z Z ?_;refine fM Z ?_
  exact zn 2 Z (ih (B||o.name==d.name) (by rw [hB];simp only [List.any_cons];cases B<;>simp)) Z Z Z
end Go.GB.C11
namespace Go.GB.C11
open Go.GB
variable {P:Program}
def zaI (ds:List Def) (p:List Input) (x:Input) (at_:Str):List zk:=
 ZB x.name false (zV x.name p).isSome at_++(if QQ ds x.ty.name=false then [⟨8,at_⟩] else if z11 ds x.ty.name=false then [⟨10,at_⟩] else [])
def inF (ds:List Def) (pre post:Str):List Input->List Input->List zk
 |_,[]=>[]
 |p,x::r=>zaI ds p x (pre++x.name++post)++inF ds pre post (p++[x]) r
theorem YX (H:Pr P) (ds:List Def) (hD:Z8 ds) (l:List Input) (hl:l.length<=140737488355328) (hlo:∀y,y∈l->y.Ok) (pre post:Str) (hp:pre.length<=1125899906842624) (hq:post.length<=1125899906842624) (ht:(inF ds pre post [] l).length<=4398046511104):
  z7 P 94 [yS ds,.t (.lst (l.map Input.enc)),.t (.str pre),.t (.str post)] ⟨[],0⟩ {v:= .t (.lst ((inF ds pre post [] l).map zk.enc))}:=by
 generalize hT:inF ds pre post [] l=tot at ht;refine z7.run H.i94 H.mixed Z Z ?_;refine fR Z ?_;refine zD l (fun i (B:List zk)=>{env:=[(1,.t (.lst (l.map Input.enc))),(2,.t (.str pre)),(3,.t (.str post)),(4,.ptr 0 0),(9,.own 1 2 (B.map zk.enc)),(10,.t (.int .i64 i))],s:=⟨[(0,.cells [.t (.lst (ds.map Def.enc))]),(1,.arr B.length)],2⟩}) (fun r i B=>B++inF ds pre post (l.take i) r=tot) 1 [] Z (by simpa using hT) Z Z Z ?_ ?_
 ·rintro B hB
  obtain rfl:B=tot:=by rw [←hB];simp [inF]
  refine fR Z ?_;refine lM Z Z Z ?_;refine fM Z ?_;refine Run.zj Z Z (by simp) ?_;refine fR Z ?_;refine Run.fin Z (z3.go ?_);exact .own Z
 ·rintro i x r B h1 hi hd hB ih;have hx:=hlo x (zMG h1);have hxn:=hx.nm
  have htk:l.take i++[x]=l.take (i+1):=by rw [List.take_add_one,h1];rfl
  have htkl:(l.take i).length<=140737488355328:=by simp;omega
  simp only [inF,zaI,htk] at hB;generalize hAt:pre++x.name++post=at_ at hB
  have hatl:at_.length<=4503599627370496:=by rw [←hAt];simp;omega
  have hlen:=congrArg List.length hB;simp only [List.length_append] at hlen;refine fR Z ?_;refine lM Z Z Z ?_;refine fM Z ?_;refine Run.zm Z Z (by simp;omega) ?_;refine fR Z ?_;refine Mid.zg Z Z Z h1 Z Z ?_;refine fM Z ?_;refine pu Z ?_;refine fM Z ?_;refine pu Z ?_;refine fM Z ?_;refine lTo Z Z Z Z ?_;refine fM Z ?_;rw [hAt];refine Mid.zg Z Z Z h1 Z Z ?_;refine fM Z ?_;refine Mid.call (W1 H (l.take i) htkl x.name) Z Z Z Z ?_;refine fM Z ?_;refine Mid.zg Z Z Z h1 Z Z ?_;refine fM Z ?_;refine Mid.call (z2S H x.name hxn false (zV x.name (l.take i)).isSome at_) Z Z Z Z ?_;skip;generalize ZB x.name false (zV x.name (l.take i)).isSome at_=N at hB hlen;refine apM zk.enc B N Z Z Z Z Z ?_ (h1:=by first |omega|(simp;omega)|(simp;done)) (h2:=by first |omega|(simp;omega)|(simp;done));refine fM rfl ?_;refine Mid.zg rfl rfl rfl h1 rfl rfl ?_;refine fM rfl ?_;refine Mid.call (z6d H ds hD x.ty.name) rfl rfl rfl rfl ?_;refine fM rfl ?_;refine Run.cond rfl rfl (fun hk=>?_) (fun hk=>?_)
  ·have hk':QQ ds x.ty.name=false:=by simpa using hk
   rw [if_pos hk'] at hB hlen;simp only [List.length_cons,List.length_nil] at hlen;refine fR Z ?_;refine apM zk.enc (B++N) [(⟨8,at_⟩:zk)] Z Z Z Z Z ?_ (h1:=by first |omega|(simp;omega)|(simp;done)) (h2:=by first |omega|(simp;omega)|(simp;done));refine fM rfl ?_;refine aL rfl rfl rfl rfl rfl ?_;refine fM rfl ?_;exact zn 2 rfl (ih (B++N++[⟨8,at_⟩]) (by rw [←hB];simp)) rfl rfl rfl
  ·have hk':¬ QQ ds x.ty.name=false:=by simpa using hk
   rw [if_neg hk'] at hB hlen;refine fR Z ?_;refine Mid.zg Z Z Z h1 Z Z ?_;refine fM Z ?_;refine Mid.call (QS H ds hD x.ty.name) Z Z Z Z ?_;refine fM Z ?_;refine Run.cond Z Z (fun hy=>?_) (fun hy=>?_)
   ·have hy':z11 ds x.ty.name=false:=by simpa using hy
    rw [if_pos hy'] at hB hlen;simp only [List.length_cons,List.length_nil] at hlen;refine fR Z ?_;refine apM zk.enc (B++N) [(⟨10,at_⟩:zk)] Z Z Z Z Z ?_ (h1:=by first |omega|(simp;omega)|(simp;done)) (h2:=by first |omega|(simp;omega)|(simp;done));refine fM rfl ?_;refine aL rfl rfl rfl rfl rfl ?_;refine fM rfl ?_;exact zn 2 rfl (ih (B++N++[⟨10,at_⟩]) (by rw [←hB];simp)) rfl rfl rfl
   ·have hy':¬ z11 ds x.ty.name=false:=by simpa using hy
    rw [if_neg hy'] at hB hlen;refine fR Z ?_;refine aL Z Z Z Z Z ?_;refine fM Z ?_;exact zn 2 Z (ih (B++N) (by rw [←hB];simp)) Z Z Z
def zdt (ds:List Def) (n:Str):Bool:=!WX n&&(zf n ds).isSome&&((zf n ds).getD Def.zero).kind==5
def z7J (ds:List Def) (p:List Field) (x:Field) (at_:Str):List zk:=
 ZB x.name false (Zb x.name p).isSome at_++(if QQ ds x.ty.name=false then [⟨8,at_⟩] else if zdt ds x.ty.name=true then [⟨10,at_⟩] else [])++inF ds (at_++[40]) [41] [] x.args
def z0f (ds:List Def) (n:Str):List Field->List Field->List zk
 |_,[]=>[]
 |p,x::r=>z7J ds p x (n++[46]++x.name)++z0f ds n (p++[x]) r
theorem qX (H:Pr P) (ds:List Def) (hD:Z8 ds) (d:Def) (hd:d.Ok) (ht:(z0f ds d.name [] d.fields).length<=4398046511104):z7 P 92 [yS ds,d.v] ⟨[],0⟩ {v:= .t (.lst ((z0f ds d.name [] d.fields).map zk.enc))}:=by
 have hfl:=hd.fl;have hnm:=hd.nm;generalize hT:z0f ds d.name [] d.fields=tot at ht;refine z7.run H.i92 H.mixed Z Z ?_;refine fR Z ?_;refine zD d.fields (fun i (B:List zk)=>{env:=[(2,.ptr 0 0),(3,.ptr 1 0),(5,.own 2 2 (B.map zk.enc)),(6,.t (.int .i64 i))],s:=⟨[(0,.cells [.t (.lst (ds.map Def.enc))]),(1,.cells [.t (.int .i64 d.kind),.t (.str d.name),.t (.lst (d.implements.map sE)),.t (.lst (d.zX.map Dir.enc)),.t (.lst (d.fields.map Field.enc)),.t (.lst (d.members.map zN.enc)),.t (.lst (d.ze.map Input.enc))]),(2,.arr B.length)],3⟩}) (fun r i B=>B++z0f ds d.name (d.fields.take i) r=tot) 2 [] Z (by simpa using hT) Z Z Z ?_ ?_
 ·rintro B hB
  obtain rfl:B=tot:=by rw [←hB];simp [z0f]
  refine fR Z ?_;refine lM Z Z Z ?_;refine fM Z ?_;refine Run.zj Z Z (by simp) ?_;refine fR Z ?_;refine Run.fin Z (z3.go ?_);exact .own Z
 ·rintro i x r B h1 hi hdr hB ih;have hx:=hd.f x (zMG h1);have hxn:=hx.nm;have hxl:=hx.al
  have htk:d.fields.take i++[x]=d.fields.take (i+1):=by rw [List.take_add_one,h1];rfl
  have htkl:(d.fields.take i).length<=140737488355328:=by simp;omega
  simp only [z0f,z7J,htk] at hB;generalize hAt:d.name++[46]++x.name=at_ at hB
  have hatl:at_.length<=1125899906842000:=by rw [←hAt];simp;omega
  have hlen:=congrArg List.length hB;simp only [List.length_append] at hlen;refine fR Z ?_;refine lM Z Z Z ?_;refine fM Z ?_;refine Run.zm Z Z (by simp;omega) ?_;refine fR Z ?_;refine Mid.zg Z Z Z h1 Z Z ?_;refine fM Z ?_;refine pu Z ?_;refine fM Z ?_;refine pu Z ?_;refine fM Z ?_;refine lTo Z Z Z Z ?_;refine fM Z ?_;rw [hAt];refine Mid.call (qK H ⟨0,[],[],[],d.fields.take i,[],[]⟩ htkl x.name) Z Z Z Z ?_;refine fM Z ?_;refine Mid.call (z2S H x.name hxn false (Zb x.name (d.fields.take i)).isSome at_) Z Z Z Z ?_;skip;generalize ZB x.name false (Zb x.name (d.fields.take i)).isSome at_=N at hB hlen;refine apM zk.enc B N Z Z Z Z Z ?_ (h1:=by first |omega|(simp;omega)|(simp;done)) (h2:=by first |omega|(simp;omega)|(simp;done));refine fM rfl ?_;refine Mid.call (yh H ds hD.l x.ty.name) rfl rfl rfl rfl ?_;refine fM rfl ?_;refine Mid.call (z6d H ds hD x.ty.name) rfl rfl rfl rfl ?_;refine fM rfl ?_;refine Run.cond rfl rfl (fun hk=>?_) (fun hk=>?_)
  ·have hk':QQ ds x.ty.name=false:=by simpa using hk
   rw [if_pos hk'] at hB hlen;simp only [List.length_cons,List.length_nil] at hlen;refine fR Z ?_;refine apM zk.enc (B++N) [(⟨8,at_⟩:zk)] Z Z Z Z Z ?_ (h1:=by first |omega|(simp;omega)|(simp;done)) (h2:=by first |omega|(simp;omega)|(simp;done));refine fM rfl ?_;refine pu rfl ?_;refine Mid.call (YX H ds hD x.args hxl hx.a (at_++[40]) [41] (by simp;omega) (by decide) (by omega)) rfl rfl rfl rfl ?_;skip;generalize inF ds (at_++[40]) [41] [] x.args=M at hB hlen;refine apM zk.enc (B++N++[⟨8,at_⟩]) M rfl rfl rfl rfl rfl ?_ (h1:=by first |omega|(simp;omega)|(simp;done)) (h2:=by first |omega|(simp;omega)|(simp;done));refine fM rfl ?_;refine aL rfl rfl rfl rfl rfl ?_;refine fM rfl ?_;exact zn 3 rfl (ih (B++N++[⟨8,at_⟩]++M) (by rw [←hB];simp)) rfl rfl rfl
  ·have hk':¬ QQ ds x.ty.name=false:=by simpa using hk
   rw [if_neg hk'] at hB hlen;refine fR Z ?_;refine Mid.call (YT H x.ty.name) Z Z Z Z ?_;refine fM Z ?_;refine Run.cond Z Z (fun hy=>?_) (fun hy=>?_)
   ·have hy':zdt ds x.ty.name=true:=hy;rw [if_pos hy'] at hB hlen;simp only [List.length_cons,List.length_nil] at hlen;refine fR Z ?_;refine apM zk.enc (B++N) [(⟨10,at_⟩:zk)] Z Z Z Z Z ?_ (h1:=by first |omega|(simp;omega)|(simp;done)) (h2:=by first |omega|(simp;omega)|(simp;done));refine fM rfl ?_;refine pu rfl ?_;refine Mid.call (YX H ds hD x.args hxl hx.a (at_++[40]) [41] (by simp;omega) (by decide) (by omega)) rfl rfl rfl rfl ?_;skip;generalize inF ds (at_++[40]) [41] [] x.args=M at hB hlen;refine apM zk.enc (B++N++[⟨10,at_⟩]) M rfl rfl rfl rfl rfl ?_ (h1:=by first |omega|(simp;omega)|(simp;done)) (h2:=by first |omega|(simp;omega)|(simp;done));refine fM rfl ?_;refine aL rfl rfl rfl rfl rfl ?_;refine fM rfl ?_;exact zn 3 rfl (ih (B++N++[⟨10,at_⟩]++M) (by rw [←hB];simp)) rfl rfl rfl
   ·have hy':¬ zdt ds x.ty.name=true:=by rw [show zdt ds x.ty.name=false from hy];simp
    rw [if_neg hy'] at hB hlen;simp only [List.length_nil] at hlen;refine fR Z ?_;refine pu Z ?_;refine Mid.call (YX H ds hD x.args hxl hx.a (at_++[40]) [41] (by simp;omega) (by decide) (by omega)) Z Z Z Z ?_;skip;generalize inF ds (at_++[40]) [41] [] x.args=M at hB hlen;refine apM zk.enc (B++N) M Z Z Z Z Z ?_ (h1:=by first |omega|(simp;omega)|(simp;done)) (h2:=by first |omega|(simp;omega)|(simp;done));refine fM rfl ?_;refine aL rfl rfl rfl rfl rfl ?_;refine fM rfl ?_;exact zn 3 rfl (ih (B++N++M) (by rw [←hB];simp)) rfl rfl rfl
def z5f (n:Str):Bool:=n==[116,114,117,101]||n==[102,97,108,115,101]||n==[110,117,108,108]
def z1B (t:Str):List zN->List zN->List zk
 |_,[]=>[]
 |p,x::r=>ZB x.name (z5f x.name) (wV p x.name) (t++[46]++x.name)++z1B t (p++[x]) r
theorem WR (H:Pr P) (d:Def) (hd:d.Ok) (ht:(z1B d.name [] d.members).length<=4398046511104):z7 P 93 [d.v] ⟨[],0⟩ {v:= .t (.lst ((z1B d.name [] d.members).map zk.enc))}:=by
 have hfl:=hd.ml;have hnm:=hd.nm;generalize hT:z1B d.name [] d.members=tot at ht;refine z7.run H.i93 H.mixed Z Z ?_;refine fR Z ?_;refine zD d.members (fun i (B:List zk)=>{env:=[(1,.ptr 0 0),(3,.own 1 2 (B.map zk.enc)),(4,.t (.int .i64 i))],s:=⟨[(0,.cells [.t (.int .i64 d.kind),.t (.str d.name),.t (.lst (d.implements.map sE)),.t (.lst (d.zX.map Dir.enc)),.t (.lst (d.fields.map Field.enc)),.t (.lst (d.members.map zN.enc)),.t (.lst (d.ze.map Input.enc))]),(1,.arr B.length)],2⟩}) (fun r i B=>B++z1B d.name (d.members.take i) r=tot) 1 [] Z (by simpa using hT) Z Z Z ?_ ?_
 ·rintro B hB
  obtain rfl:B=tot:=by rw [←hB];simp [z1B]
  refine fR Z ?_;refine lM Z Z Z ?_;refine fM Z ?_;refine Run.zj Z Z (by simp) ?_;refine fR Z ?_;refine Run.fin Z (z3.go ?_);exact .own Z
 ·rintro i x r B h1 hi hdr hB ih;have hx:=hd.m x (zMG h1);have hxn:=hx.nm
  have htk:d.members.take i++[x]=d.members.take (i+1):=by rw [List.take_add_one,h1];rfl
  have htkl:(d.members.take i).length<=140737488355328:=by simp;omega
  simp only [z1B,htk] at hB;generalize hAt:d.name++[46]++x.name=at_ at hB
  have hatl:at_.length<=1125899906842000:=by rw [←hAt];simp;omega
  have hlen:=congrArg List.length hB;simp only [List.length_append] at hlen;refine fR Z ?_;refine lM Z Z Z ?_;refine fM Z ?_;refine Run.zm Z Z (by simp;omega) ?_;refine fR Z ?_;refine Mid.zg Z Z Z h1 Z Z ?_;refine fM Z ?_;refine zD (d.members.take i) (fun j (C:Bool)=>{env:=[(1,.ptr 0 0),(3,.own 1 2 (B.map zk.enc)),(4,.t (.int .i64 i)),(5,.t (.str x.name)),(6,.t (.bool C)),(7,.t (.int .i64 j))],s:=⟨[(0,.cells [.t (.int .i64 d.kind),.t (.str d.name),.t (.lst (d.implements.map sE)),.t (.lst (d.zX.map Dir.enc)),.t (.lst (d.fields.map Field.enc)),.t (.lst (d.members.map zN.enc)),.t (.lst (d.ze.map Input.enc))]),(1,.arr B.length)],2⟩}) (fun r j C=>wV (d.members.take i) x.name=(C||wV r x.name)) 2 false Z (by simp) Z Z Z ?_ ?_
  ·intro C hC
   have hl:(d.members.take i).length=i:=by simp;omega
   have hC':wV (d.members.take i) x.name=C:=by rw [hC];simp [wV]
   rw [hl];rw [hC'] at hB hlen;refine fR Z ?_;refine Run.zj Z Z (by simp) ?_;refine fR Z ?_;refine pu Z ?_;refine fM Z ?_;refine pu Z ?_;rw [hAt];refine Mid.call (z2S H x.name hxn (z5f x.name) C at_) Z Z Z Z ?_;skip;generalize ZB x.name (z5f x.name) C at_=N at hB hlen;refine apM zk.enc B N Z Z Z Z Z ?_ (h1:=by first |omega|(simp;omega)|(simp;done)) (h2:=by first |omega|(simp;omega)|(simp;done));refine fM rfl ?_;refine aL rfl rfl rfl rfl rfl ?_;refine fM rfl ?_;exact zn 2 rfl (ih (B++N) (by rw [←hB];simp)) rfl rfl rfl
  ·intro j o r2 C h2 hj hjd hC ih2
   have hji:j<i:=by simp at hj;omega
   have ho:d.members[j]?=some o:=by rw [List.getElem?_take] at h2;rw [if_pos hji] at h2;exact h2
   have hjl:j<d.members.length:=by omega
   refine fR Z ?_;refine Run.zm Z Z (by simp;omega) ?_;refine fR Z ?_;refine elG Z Z Z Z ho Z Z ?_;refine fM Z ?_;refine aL Z Z Z Z Z ?_;refine fM Z ?_
   exact zn 2 Z (ih2 (C||o.name==x.name) (by rw [hC];simp only [wV,List.any_cons];cases C<;>simp)) Z Z Z
end Go.GB.C11
namespace Go.GB.C11
open Go.GB
variable {P:Program}
def QK:Str:=[81,117,101,114,121]
def zcW (ds:List Def) (d:Def):List zk:=
 if d.kind=1 then z0f ds d.name [] d.fields else if d.kind=2 then z0f ds d.name [] d.fields
 else if d.kind=4 then z1B d.name [] d.members else if d.kind=5 then inF ds (d.name++[46]) [] [] d.ze else []
def z4Y (ds:List Def):Nat->List Def->List zk
 |_,[]=>[]
 |i,d::r=>YW ds i d++zcW ds d++z4Y ds (i+1) r
def z6o (ds:List Def) (q:Bool):List zk:=if (q&&!(zf QK ds).isSome)=true then [⟨30,QK⟩] else []
def Yi (ds:List Def) (q:Bool):List zk:=z4Y ds 0 ds++z6o ds q
end Go.GB.C11
namespace Go.GB
open Go.RowKit Go.WideShapes Go.ChangeShapes
abbrev z4w:Nat->Lab:=fun _=> .fix none
def WT (P:Program):Nat->TypeId->List T->Prop
 |0,_,_=>False
 |n+1,t,ts=>
  match P.underlying t with
  |some .bool=>∃b,ts=[.bool b]
  |some (.int k)=>∃x,ts=[.int k x]/\(Lit.int k x).wf=true
  |some .string=>∃s,ts=[.str s]/\s.length<=reachBytes
  |some (.slice e)=>∃xs,ts=[.lst xs]/\xs.length*P.bytesOf e<=reachBytes/\xs.length<=maxLen/\∀c∈xs,WT P n e c
  |some (.struct fs)=>ts.length=P.cellsOf t/\∀f∈fs.toList,WT P n f.type ((ts.drop f.offset).take (P.cellsOf f.type))
  |some (.array m e)=>ts.length=P.cellsOf t/\∀i,i<m->WT P n e ((ts.drop (i*P.cellsOf e)).take (P.cellsOf e))
  |_=>False
def z0Z (P:Program):Nat->List (Nat×TypeId)->Option Nat
 |off,[]=>some off
 |off,(o,t)::r=>if o=off then z0Z P (off+P.cellsOf t) r else none
def z2f (P:Program) (S:List TypeId):Bool:=
 S.all fun t=>
  match P.underlying t with
  |some .bool=>true
  |some (.int _)=>true
  |some .string=>true
  |some (.slice e)=>S.contains e&&decide (0<P.cellsOf e)
  |some (.struct fs)=>(fs.toList.all fun f=>S.contains f.type)&&(z0Z P 0 (fs.toList.map fun f=>(f.offset,f.type))==some (P.cellsOf t))
  |some (.array m e)=>S.contains e&&(z0Z P 0 ((List.range m).map fun i=>(i*P.cellsOf e,e))==some (P.cellsOf t))
  |_=>false
def z3o (w:World) (cs:List Value) (ts:List T):Prop:=cs.length=ts.length/\∀(j:Nat) (v:Value) (x:T),cs[j]?=some v->ts[j]?=some x->zP z4w w v x
theorem z3o.one {w:World} {v:Value} {x:T} (h:zP z4w w v x):z3o w [v] [x]:=by
 refine ⟨rfl,fun j u y h1 h2=>?_⟩
 cases j with
 |zero=>simp at h1 h2;subst h1;subst h2;exact h
 |succ j=>simp at h1
theorem z0s {α β:Type} {g:α->Option β}:∀{l:List α} {r:List β},l.mapM g=some r->l.length=r.length/\∀(j:Nat) (x:α),l[j]?=some x->∃y,r[j]?=some y/\g x=some y
 |[],r,h=>by simp at h;subst h;simp
 |a::l,r,h=>by
  simp only [List.mapM_cons,Option.bind_eq_bind,Option.pure_def,Option.bind_eq_some_iff] at h;obtain ⟨y,hy,r',hr,h⟩:=h;simp at h;subst h;obtain ⟨i1,i2⟩:=z0s hr
  refine ⟨by simp [i1],fun j x hx=>?_⟩
  cases j with
  |zero=>simp at hx;subst hx;exact ⟨y,rfl,hy⟩
  |succ j=>simpa using i2 j x (by simpa using hx)
theorem z9v {w:World} {a:Addr} {v:Value} (h:w.cell? a=some v):a.spot=none:=by
 unfold World.cell? at h
 cases hs:a.spot with
 |none=>rfl
 |some s=>
  rw [hs] at h
  split at h<;>simp_all
theorem cells?_at {w:World} {base n:Nat} {a:Addr} {cs:List Value} (h:w.cells? base a n=some cs):cs.length=n/\∀(j:Nat) (v:Value),cs[j]?=some v->w.cell? (a.add j)=some v:=by
 unfold World.cells? at h;split at h
 ·obtain ⟨h1,h2⟩:=z0s h;simp at h1;refine ⟨h1.symm,fun j v hj=>?_⟩
  have hlt:j<n:=by rw [h1];exact (List.getElem?_eq_some_iff.1 hj).1
  obtain ⟨y,e1,e2⟩:=h2 j j (by simp [hlt]);rw [hj] at e1;simp at e1;subst e1;exact e2
 ·cases h
theorem z14 {α:Type} {Q:Nat->α->Prop}:∀(n:Nat),(∀j,j<n->∃v,Q j v)->∃vs:List α,vs.length=n/\∀(j:Nat) (v:α),vs[j]?=some v->Q j v
 |0,_=>⟨[],rfl,by simp⟩
 |n+1,h=>by
  obtain ⟨vs,hl,hv⟩:=z14 n (fun j hj=>h j (by omega));obtain ⟨v,hq⟩:=h n (by omega)
  refine ⟨vs++[v],by simp [hl],fun j u hu=>?_⟩
  by_cases hj:j<vs.length
  ·rw [List.getElem?_append_left hj] at hu;exact hv j u hu
  ·rw [List.getElem?_append_right (by omega)] at hu;by_cases e:j=n
   ·subst e;rw [hl] at hu;simp at hu;subst hu;exact hq
   ·rw [List.getElem?_eq_none (by simp;omega)] at hu;cases hu
section
variable {H:Type} {enc:TypeId×Value->H} {P:Program} {w:World} {sp:Nat->Bool} {held:Bool} {S:List TypeId}
theorem We {e:TypeId} {r:Nat->Bool}:∀(l:List (DataW H)),(DataW.weightsAll P e l).all r=true->∀d∈l,(d.weights P e).all r=true
 |[],_,d,h=>by cases h
 |x::l,h,d,hd=>by
  simp only [DataW.weightsAll,List.all_append,Bool.and_eq_true] at h
  cases hd with
  |head=>exact h.1
  |tail _ hd=>exact We l h.2 d hd
theorem qL {r:Nat->Bool}:∀(ts:List TypeId) (l:List (DataW H)),(DataW.weightsEach P ts l).all r=true->∀(j:Nat) t d,ts[j]?=some t->l[j]?=some d->(d.weights P t).all r=true
 |[],l,_,j,t,d,h,_=>by simp at h
 |t::ts,[],_,j,t',d,_,h=>by simp at h
 |t::ts,x::l,h,j,t',d,h1,h2=>by
  simp only [DataW.weightsEach,List.all_append,Bool.and_eq_true] at h
  cases j with
  |zero=>simp at h1 h2;subst h1;subst h2;exact h.1
  |succ j=>exact qL ts l h.2 j t' d (by simpa using h1) (by simpa using h2)
def z3q (P:Program) (t:TypeId) (ts:List T):V:=if Ze P t then .agg (ts.map V.t) else .t (ts.headD .z0D)
def L.all (w:World):L:={lab:=z4w,fro:=fun _=>0,nxt:=0,w:=w,frf:=fun _ _=>0}
theorem Z5.all (w:World):Z5 (L.all w) ⟨[],0⟩:=⟨by simp [zi],fun b b' k h=>by simp [L.all] at h,fun _ _=>rfl,fun b k h=>by simp [L.all] at h,fun _ _=>rfl,fun b b' k i h=>by simp [L.all] at h,fun b k h=>by simp [L.all] at h,fun _ _ _=>rfl⟩
inductive WTs (P:Program):List TypeId->List V->Prop
 |nil:WTs P [] []
 |cons {t:TypeId} {ts:List TypeId} {n:Nat} {xs:List T} {vs:List V} (h:WT P n t xs) (r:WTs P ts vs):WTs P (t::ts) (z3q P t xs::vs)
theorem Qn (hl:laidOutB P=true) {W W':World} (hb:Below W.heap.size W W') {sp':Nat->Bool}:∀(ts:List TypeId) (vs:List Value) (ds:List (DataW H)) (ps:List MemPlace),(∀t∈ts,P.readableRec t=true/\t<P.types.size)->DataW.TrodAll enc P W 0 (fun _=>true) true ts vs ds ps->
  (∀p∈ps,p.block<W.heap.size)->(∀p∈ps,sp' p.block=true)->DataW.TrodAll enc P W' 0 sp' true ts vs ds ps
 |[],[],[],_,_,h,_,_=>h
 |t::ts,v::vs,d::ds,_,hT,⟨p,q,h1,h2,e⟩,hlt,hs=>by
  subst e;refine ⟨p,q,WideElems.Trod_stays hl (hT t (by simp)).1 (hT t (by simp)).2 h1 (fun x hx=>hb.same (hlt x (List.mem_append_left _ hx))) (fun x hx=>hs x (List.mem_append_left _ hx)),?_,rfl⟩;exact Qn hl hb ts vs ds q (fun t ht=>hT t (List.mem_cons_of_mem _ ht)) h2 (fun x hx=>hlt x (List.mem_append_right _ hx)) (fun x hx=>hs x (List.mem_append_right _ hx))
 |[],_::_,_,_,_,h,_,_=>by simp [DataW.TrodAll] at h
 |[],[],_::_,_,_,h,_,_=>by simp [DataW.TrodAll] at h
 |_::_,[],_,_,_,h,_,_=>by simp [DataW.TrodAll] at h
 |_::_,_::_,[],_,_,h,_,_=>by simp [DataW.TrodAll] at h
end
section
variable {H:Type} {enc:TypeId×Value->H} {P:Program}
theorem z3w {f:Func} {s:ChangeSpec} {apart fresh handsOn again:Bool} {W W':World} {args:Array Value} {v:Value} {ds gs:List (DataW H)} {before pa pv:List MemPlace}
  (hW:DataW.Whole enc P f.params.toList s.vars apart W args.toList ds gs before)
  (hres:∀(b:Nat) (sp:Nat->Bool) (hd:Bool),DataW.TrodAll enc P W' b sp hd f.resultTypes.toList (v.resultList f.resultTypes.size) (s.fn H (ds++gs)).results [])
  (hargs:∀sp:Nat->Bool,(∀p∈before,sp p.block=true)->DataW.TrodAll enc P W' 0 sp true f.params.toList args.toList (s.fn H (ds++gs)).args pa)
  (hvars:∀sp:Nat->Bool,(∀p∈before,sp p.block=true)->DataW.TrodVars enc P W' sp s.vars (s.fn H (ds++gs)).vars pv)
  (hps:before=pa++pv) (hb:Below W.heap.size W W')
  (hok:∀(j:Nat) (t:TypeId) (r:Value),f.resultTypes[j]?=some t->(v.resultList f.resultTypes.size)[j]?=some r->Value.okWide P W' .any 0 t r):
  s.post enc P f apart fresh handsOn again W args v W':=by
 have hlt:∀p∈before,p.block<W.heap.size:=fun p hp=>hW.lt p hp
 have hold:∀p∈before,(fun b=>decide (b<W.heap.size)) p.block=true:=fun p hp=>by simpa using hlt p hp
 refine ⟨ds,gs,before,[],pa,pv,hW,hres _ _ _,hargs _ hold,hvars _ hold,World.keptBut_mono (fun p hp=>⟨hp,?_⟩) (hb.frame (· ∈before)),fun _=>?_⟩
 ·rw [hps,List.mem_append] at hp;exact Or.inr hp
 ·obtain ⟨_,_,_,_,_,hz,hn⟩:=hW;refine ⟨hok,_,_,([]++pa)++pv,⟨[]++pa,pv,trodAll_append (hargs _ (fun _ _=>rfl)) (hres _ _ _),hvars _ (fun _ _=>rfl),rfl,?_,?_⟩,?_⟩
  ·intro b off hp
   have hin:MemPlace.cell b off∈before:=by rw [hps];simpa using hp
   rw [hb.frozen (hlt _ hin)];exact hz b off hin
  ·intro ha;have:=hn ha;rw [hps] at this;simpa using this
  ·intro p hp _;rw [hps];simpa using hp
end
inductive Sh where
 |bool
 |int (k:IntKind)
 |str
 |lst (b:Nat) (s:List Sh)
 |any
 |num (i:Nat)
def z0R (P:Program) (g:TypeId->Option (List Sh)):Nat->List (Nat×TypeId)->Option (List Sh)
 |_,[]=>some []
 |off,(o,t)::r=>
  if o=off then
   match g t with
   |some a=>if a.length=P.cellsOf t then (z0R P g (off+P.cellsOf t) r).map fun b=>a++b else none
   |none=>none
  else none
def z0v (P:Program) (sp:TypeId->Option Nat):Nat->TypeId->Option (List Sh)
 |0,t=>
  match P.underlying t with
  |some .bool=>some [.bool]
  |some (.int k)=>some [.int k]
  |some .string=>some [.str]
  |some (.slice e)=>match sp e with|some i=>some [.num i]|none=>some [.any]
  |_=>none
 |n+1,t=>
  match P.underlying t with
  |some .bool=>some [.bool]
  |some (.int k)=>some [.int k]
  |some .string=>some [.str]
  |some (.slice e)=>match sp e with|some i=>some [.num i]|none=>(z0v P sp n e).map fun s=>[.lst (P.bytesOf e) s]
  |some (.struct fs)=>(z0R P (z0v P sp n) 0 (fs.toList.map fun f=>(f.offset,f.type))).bind fun s=>if s.length=P.cellsOf t then some s else none
  |some (.array m e)=>(z0R P (z0v P sp n) 0 ((List.range m).map fun i=>(i*P.cellsOf e,e))).bind fun s=>if s.length=P.cellsOf t then some s else none
  |_=>none
mutual
def Sh.ok (Y:Nat->T->Prop):Sh->T->Prop
 | .bool,x=>∃b,x= .bool b
 | .int k,x=>∃n,x= .int k n/\(Lit.int k n).wf=true
 | .str,x=>∃s,x= .str s/\s.length<=reachBytes
 | .lst b sh,x=>∃xs:List (List T),x= .lst xs/\xs.length*b<=reachBytes/\xs.length<=maxLen/\∀c∈xs,Sh.oks Y sh c
 | .any,_=>True
 | .num i,x=>Y i x
def Sh.oks (Y:Nat->T->Prop):List Sh->List T->Prop
 |[],[]=>True
 |s::r,x::ts=>s.ok Y x/\Sh.oks Y r ts
 |_,_=>False
end
theorem Sh.z2D {Y:Nat->T->Prop}:∀{a b:List Sh} {ts us:List T},Sh.oks Y a ts->Sh.oks Y b us->Sh.oks Y (a++b) (ts++us)
 |[],b,[],us,_,h=>h
 |[],b,x::ts,us,h,_=>by simp [Sh.oks] at h
 |s::r,b,[],us,h,_=>by simp [Sh.oks] at h
 |s::r,b,x::ts,us,h,k=>by
  simp only [Sh.oks,List.cons_append] at h⊢;exact ⟨h.1,Sh.z2D h.2 k⟩
theorem z0z {P:Program} {Y:Nat->T->Prop} {g:TypeId->Option (List Sh)} {n:Nat} (hg:∀t sh ts,g t=some sh->WT P n t ts->Sh.oks Y sh ts):∀(l:List (Nat×TypeId)) (off:Nat) (sh:List Sh) (ts:List T),z0R P g off l=some sh->(∀p∈l,WT P n p.2 ((ts.drop p.1).take (P.cellsOf p.2)))->
  ∃us,Sh.oks Y sh us/\us=(ts.drop off).take sh.length
 |[],off,sh,ts,h,_=>by simp [z0R] at h;subst h;exact ⟨[],trivial,by simp⟩
 |(o,t)::r,off,sh,ts,h,hp=>by
  simp only [z0R] at h;split at h
  ·rename_i e;subst e;split at h
   ·rename_i a ha;split at h
    ·rename_i hl;simp only [Option.map_eq_some_iff] at h;obtain ⟨b,hb,rfl⟩:=h;have h1:=hg t a _ ha (hp (o,t) (by simp));obtain ⟨us,h2,h3⟩:=z0z hg r _ b ts hb fun p hpm=>hp p (List.mem_cons_of_mem _ hpm);refine ⟨_,Sh.z2D h1 h2,?_⟩;simp only at h1⊢;rw [h3,List.length_append,hl,List.take_add,List.drop_drop]
    ·cases h
   ·cases h
  ·cases h
theorem Q3 {P:Program} {sp:TypeId->Option Nat} {Y:Nat->T->Prop}:∀(n m:Nat) (t:TypeId) (sh:List Sh) (ts:List T),(∀e i k xs,k<n->sp e=some i->xs.length*P.bytesOf e<=reachBytes->xs.length<=maxLen->(∀c∈xs,WT P k e c)->Y i (.lst xs))->z0v P sp m t=some sh->WT P n t ts->Sh.oks Y sh ts
 |0,m,t,sh,ts,_,_,h=>by simp [WT] at h
 |n+1,0,t,sh,ts,hsp,hs,h=>by
  simp only [z0v] at hs;simp only [WT] at h
  cases hu:P.underlying t with
  |none=>rw [hu] at h;exact h.elim
  |some td=>
   rw [hu] at h hs
   cases td with
   |bool=>simp only [Option.some.injEq] at hs h;subst hs;obtain ⟨b,rfl⟩:=h;exact ⟨⟨b,rfl⟩,trivial⟩
   |int k=>simp at hs h;subst hs;obtain ⟨x,rfl,hw⟩:=h;exact ⟨⟨x,rfl,hw⟩,trivial⟩
   |string=>simp at hs h;subst hs;obtain ⟨s,rfl,hw⟩:=h;exact ⟨⟨s,rfl,hw⟩,trivial⟩
   |slice e=>
    obtain ⟨xs,rfl,hr,hl,hc⟩:=h
    cases he:sp e with
    |none=>simp only [he,Option.some.injEq] at hs;subst hs;exact ⟨trivial,trivial⟩
    |some i=>simp only [he,Option.some.injEq] at hs;subst hs;exact ⟨hsp e i n xs (by omega) he hr hl hc,trivial⟩
   |_=>simp at hs
 |n+1,m+1,t,sh,ts,hsp,hs,h=>by
  have hsp':∀e i k xs,k<n->sp e=some i->xs.length*P.bytesOf e<=reachBytes->xs.length<=maxLen->(∀c∈xs,WT P k e c)->Y i (.lst xs):=fun e i k xs hk=>hsp e i k xs (by omega);simp only [z0v] at hs;simp only [WT] at h
  cases hu:P.underlying t with
  |none=>rw [hu] at h;exact h.elim
  |some td=>
   rw [hu] at h hs
   cases td with
   |bool=>simp only [Option.some.injEq] at hs h;subst hs;obtain ⟨b,rfl⟩:=h;exact ⟨⟨b,rfl⟩,trivial⟩
   |int k=>simp at hs h;subst hs;obtain ⟨x,rfl,hw⟩:=h;exact ⟨⟨x,rfl,hw⟩,trivial⟩
   |string=>simp at hs h;subst hs;obtain ⟨s,rfl,hw⟩:=h;exact ⟨⟨s,rfl,hw⟩,trivial⟩
   |slice e=>
    obtain ⟨xs,rfl,hr,hl,hc⟩:=h
    cases hse:sp e with
    |none=>
     simp only [hse,Option.map_eq_some_iff] at hs;obtain ⟨s,he,rfl⟩:=hs;exact ⟨⟨xs,rfl,hr,hl,fun c hcm=>Q3 n m e s c hsp' he (hc c hcm)⟩,trivial⟩
    |some i=>simp only [hse,Option.some.injEq] at hs;subst hs;exact ⟨hsp e i n xs (by omega) hse hr hl hc,trivial⟩
   |struct fs=>
    simp only [Option.bind_eq_some_iff] at hs h;obtain ⟨s,hs,hs2⟩:=hs;split at hs2
    ·rename_i hl;simp at hs2;subst hs2
     obtain ⟨us,h1,h2⟩:=z0z (ts:=ts) (Y:=Y) (g:=z0v P sp m) (n:=n) (fun t sh ts a b=>Q3 n m t sh ts hsp' a b) _ 0 s hs (fun p hp=>by
      rw [List.mem_map] at hp;obtain ⟨f,hf,rfl⟩:=hp
      exact h.2 f hf)
     rw [List.drop_zero,List.take_of_length_le (by omega)] at h2;subst h2;exact h1
    ·cases hs2
   |array k e=>
    simp only [Option.bind_eq_some_iff] at hs h;obtain ⟨s,hs,hs2⟩:=hs;split at hs2
    ·rename_i hl;simp at hs2;subst hs2
     obtain ⟨us,h1,h2⟩:=z0z (ts:=ts) (Y:=Y) (g:=z0v P sp m) (n:=n) (fun t sh ts a b=>Q3 n m t sh ts hsp' a b) _ 0 s hs (fun p hp=>by
      rw [List.mem_map] at hp;obtain ⟨i,hi,rfl⟩:=hp
      exact h.2 i (List.mem_range.1 hi))
     rw [List.drop_zero,List.take_of_length_le (by omega)] at h2;subst h2;exact h1
    ·cases hs2
   |_=>simp at h
theorem Sh.zC {Y:Nat->T->Prop} {s:Sh} {r:List Sh} {ts:List T} (h:Sh.oks Y (s::r) ts):∃x ts',ts=x::ts'/\s.ok Y x/\Sh.oks Y r ts':=by
 cases ts with
 |nil=>simp [Sh.oks] at h
 |cons x ts=>exact ⟨x,ts,rfl,h⟩
theorem Sh.yY {Y:Nat->T->Prop} {ts:List T} (h:Sh.oks Y [] ts):ts=[]:=by
 cases ts with
 |nil=>rfl
 |cons x ts=>simp [Sh.oks] at h
theorem yD {α:Type} {f:α->List T} {Q:α->Prop}:∀(xs:List (List T)),(∀c∈xs,∃a,c=f a/\Q a)->∃l:List α,xs=l.map f/\∀a∈l,Q a
 |[],_=>⟨[],rfl,by simp⟩
 |c::xs,h=>by
  obtain ⟨l,h1,h2⟩:=yD xs (fun c hc=>h c (List.mem_cons_of_mem _ hc));obtain ⟨a,rfl,ha⟩:=h c (by simp)
  exact ⟨a::l,by simp [h1],fun b hb=>by
   rcases List.mem_cons.1 hb with e|e
   ·subst e;exact ha
   ·exact h2 b e⟩
theorem WTs.cons_inv {P:Program} {t:TypeId} {ts:List TypeId} {vs:List V} (h:WTs P (t::ts) vs) {m:Nat} {sh:List Sh} {sp:TypeId->Option Nat} {Y:Nat->T->Prop} (hsp:∀e i n xs,sp e=some i->xs.length*P.bytesOf e<=reachBytes->xs.length<=maxLen->(∀c∈xs,WT P n e c)->Y i (.lst xs)) (hs:z0v P sp m t=some sh):∃xs r,vs=z3q P t xs::r/\Sh.oks Y sh xs/\WTs P ts r:=by
 cases h with
 |cons h r=>exact ⟨_,_,rfl,Q3 _ _ _ _ _ (fun e i k xs _=>hsp e i k xs) hs h,r⟩
theorem WTs.zgj {P:Program} {vs:List V} (h:WTs P [] vs):vs=[]:=by
 cases h;rfl
theorem zgc {P:Program} {t:TypeId} (h:Ze P t=true) (xs:List T):z3q P t xs= .agg (xs.map V.t):=by simp [z3q,h]
theorem zfD {P:Program} {t:TypeId} (h:Ze P t=false) (x:T):z3q P t [x]= .t x:=by simp [z3q,h]
theorem zgy {α:Type} {l:List α} (h:l.length=2):∃a b,l=[a,b]:=by
 match l,h with
 |[a,b],_=>exact ⟨a,b,rfl⟩
mutual
def T.bulk:T->Nat
 | .str s=>s.length+1
 | .lst xs=>yv xs+1
 | .bool _=>1
 | .int _ _=>1
 | .ptr _=>1
 | .fn _=>1
 | .z0D=>1
 | .Qi=>1
 | .z3u=>1
def yv:List (List T)->Nat
 |[]=>0
 |c::r=>ZL c+yv r
def ZL:List T->Nat
 |[]=>0
 |x::r=>x.bulk+ZL r
end
theorem z0n:∀(a b:List T),ZL (a++b)=ZL a+ZL b
 |[],b=>by simp [ZL]
 |x::r,b=>by simp only [List.cons_append,ZL,z0n r b];omega
structure zby {H:Type} (B:DataW H->Nat):Prop where
 lit:∀l,1<=B (.lit l)
 str:∀bs,bs.length+1<=B (.lit (.string bs))
 nil:1<=B .nil
 slice:∀e s,(e.map B).sum+1<=B (.slice e s)
 agg:∀ps,(ps.map B).sum<=B (.agg ps)
theorem z3X {H:Type} {B:DataW H->Nat}:∀(xs:List (List T)) (es:List (DataW H)),xs.length=es.length->(∀(i:Nat) c e,xs[i]?=some c->es[i]?=some e->ZL c<=B e)->yv xs<=(es.map B).sum
 |[],[],_,_=>by simp [yv]
 |[],_::_,h,_=>by simp at h
 |_::_,[],h,_=>by simp at h
 |c::xs,e::es,h,hb=>by
  have h1:=hb 0 c e rfl rfl;have h2:=z3X xs es (by simpa using h) (fun i c e a b=>hb (i+1) c e (by simpa using a) (by simpa using b));simp only [yv,List.map_cons,List.sum_cons];omega
theorem z5c {P:Program} {w:World} {n:Nat} {cs:List Value}:∀(l:List (Nat×TypeId)) (bs:List Nat) (off tot:Nat),z0Z P off l=some tot->tot<=cs.length->l.length=bs.length->(∀(j:Nat) p nb,l[j]?=some p->bs[j]?=some nb->∃ts,z3o w ((cs.drop p.1).take (P.cellsOf p.2)) ts/\WT P n p.2 ts/\ZL ts<=nb)->
  off<=tot/\∃ts:List T,ts.length=tot - off/\(∀(j:Nat) (v:Value) (x:T),cs[off+j]?=some v->ts[j]?=some x->zP z4w w v x)/\(∀p∈l,off<=p.1/\WT P n p.2 ((ts.drop (p.1 - off)).take (P.cellsOf p.2)))/\ZL ts<=bs.sum
 |[],bs,off,tot,hc,_,_,_=>by simp [z0Z] at hc;subst hc;exact ⟨Nat.le_refl _,[],by simp,by simp,by simp,by simp [ZL]⟩
 |_::_,[],_,_,_,_,h,_=>by simp at h
 |(o,t)::r,nb::bs,off,tot,hc,hl,hlen,hp=>by
  simp only [z0Z] at hc;split at hc
  ·rename_i e;subst e;obtain ⟨h1,ts,h2,h3,h4,h5⟩:=z5c r bs (o+P.cellsOf t) tot hc hl (by simpa using hlen) (fun j p nb a b=>hp (j+1) p nb (by simpa using a) (by simpa using b));obtain ⟨us,k1,k2,k3⟩:=hp 0 (o,t) nb rfl rfl
   have hul:us.length=P.cellsOf t:=by rw [←k1.1];simp;omega
   refine ⟨by omega,us++ts,by simp [hul,h2];omega,fun j v x hv hx=>?_,fun p hpm=>?_,by rw [z0n];simp only [List.sum_cons];omega⟩
   ·by_cases hj:j<us.length
    ·rw [List.getElem?_append_left hj] at hx;refine k1.2 j v x ?_ hx;simp only;rw [List.getElem?_take,if_pos (by omega),List.getElem?_drop];exact hv
    ·rw [List.getElem?_append_right (by omega)] at hx;refine h3 (j - us.length) v x ?_ hx
     have:o+P.cellsOf t+(j - us.length)=o+j:=by omega
     rw [this];exact hv
   ·rcases List.mem_cons.1 hpm with e|e
    ·subst e;refine ⟨Nat.le_refl _,?_⟩;simp only [Nat.sub_self,List.drop_zero];rw [List.take_append_of_le_length (by omega),List.take_of_length_le (by omega)];exact k2
    ·obtain ⟨g1,g2⟩:=h4 p e
     refine ⟨by omega,?_⟩
     have:p.1 - o=us.length+(p.1 - (o+P.cellsOf t)):=by omega
     rw [this,List.drop_append,List.drop_eq_nil_of_le (by omega)];simpa using g2
  ·cases hc
section
variable {H:Type} {enc:TypeId×Value->H} {P:Program} {w:World} {sp:Nat->Bool} {held:Bool} {S:List TypeId} {B:DataW H->Nat}
theorem Q0 (hB:zby B) (hp:z2f P S=true):∀(n:Nat) (t:TypeId) (cs:List Value) (d:DataW H) (ps:List MemPlace),t∈S->DataW.trod enc P w 0 sp held n t cs=some (d,ps)->(d.weights P t).all (· <=reachBytes)=true->∃ts,z3o w cs ts/\WT P n t ts/\ZL ts<=B d
 |0,t,cs,d,ps,_,h,_=>by simp [DataW.trod] at h
 |n+1,t,cs,d,ps,ht,h,hwt=>by
  have hpt:=List.all_eq_true.1 hp t ht;simp only [WT]
  cases hu:P.underlying t with
  |none=>rw [hu] at hpt;simp at hpt
  |some td=>
   rw [hu] at hpt
   cases td with
   |bool=>
    rcases cs with _|⟨v,_|⟨v2,r⟩⟩<;>try (simp [DataW.trod,hu] at h;done)
    cases v<;>simp [DataW.trod,hu] at h
    rename_i b;refine ⟨[.bool b],z3o.one (.bool b),⟨b,rfl⟩,?_⟩;rw [←h.1];simpa [ZL,T.bulk] using hB.lit _
   |int k=>
    rcases cs with _|⟨v,_|⟨v2,r⟩⟩<;>try (simp [DataW.trod,hu] at h;done)
    cases v<;>simp [DataW.trod,hu] at h
    rename_i k' x;obtain ⟨⟨rfl,h2⟩,hd,_⟩:=h;refine ⟨[.int k' x],z3o.one (.int _ _),⟨x,rfl,h2⟩,?_⟩;rw [←hd];simpa [ZL,T.bulk] using hB.lit _
   |string=>
    rcases cs with _|⟨v,_|⟨v2,r⟩⟩<;>try (simp [DataW.trod,hu] at h;done)
    cases v<;>simp [DataW.trod,hu] at h
    rename_i s;rw [←h.2.1] at hwt
    refine ⟨[.str s.data.toList],z3o.one (.str _),⟨s.data.toList,rfl,by simpa [DataW.weights] using hwt⟩,?_⟩
    have:=hB.str s.data.toList;rw [←h.2.1];simp only [ZL,T.bulk];omega
   |slice e=>
    simp only [Bool.and_eq_true,decide_eq_true_eq] at hpt
    have he:e∈S:=by simpa using hpt.1
    rcases cs with _|⟨v,_|⟨v2,r⟩⟩<;>try (simp [DataW.trod,hu] at h;done)
    cases v<;>try (simp [DataW.trod,hu] at h;done)
    rename_i a len cap
    cases a with
    |none=>
     have h0:len=0/\cap=0:=by
      cases len<;>cases cap<;>simp_all [DataW.trod]
     obtain ⟨rfl,rfl⟩:=h0
     have hd:DataW.nil=d:=by
      simp only [DataW.trod,hu] at h;simp at h;exact h.1
     refine ⟨[.lst []],z3o.one .nil,⟨[],rfl,by simp,by simp,by simp⟩,?_⟩
     rw [←hd];simpa [ZL,yv,T.bulk] using hB.nil
    |some a=>
     simp only [DataW.trod,hu] at h;split at h
     ·rename_i hcond;simp only [Option.bind_eq_some_iff] at h;obtain ⟨elems,hel,hrest⟩:=h;obtain ⟨hl,hat⟩:=z0s hel;simp at hl;rw [Option.map_eq_some_iff] at hrest;obtain ⟨rest,_,hde⟩:=hrest;simp only [Prod.mk.injEq] at hde;rw [←hde.1] at hwt;simp only [DataW.weights,hu,List.all_cons,List.all_append,Bool.and_eq_true,decide_eq_true_eq,List.length_map] at hwt
      have hreach:len*P.bytesOf e<=reachBytes:=by
       rw [hl];exact Nat.le_trans (Nat.mul_le_mul_right _ (Nat.le_add_right _ _)) hwt.1
      have hone:∀i,i<len->∃q:List Value×List T,w.cells? 0 (a.add (i*P.cellsOf e)) (P.cellsOf e)=some q.1/\z3o w q.1 q.2/\WT P n e q.2/\∀y,elems[i]?=some y->ZL q.2<=B y.1:=by
       intro i hi;obtain ⟨y,hye,hy⟩:=hat i i (by simp [hi]);simp only [Option.bind_eq_some_iff] at hy;obtain ⟨c,hc,hy⟩:=hy;obtain ⟨d',ps'⟩:=y;obtain ⟨ts,k1,k2,k3⟩:=Q0 hB hp n e c d' ps' he hy (We _ hwt.2.1 _ (List.mem_map.2 ⟨(d',ps'),zMG hye,rfl⟩))
       exact ⟨(c,ts),hc,k1,k2,fun y h=>by rw [hye] at h;simp at h;subst h;exact k3⟩
      obtain ⟨qs,hql,hq⟩:=z14 len hone
      have hsz:∀(i:Nat) (q:List Value×List T),qs[i]?=some q->q.1.length=P.cellsOf e/\q.2.length=P.cellsOf e:=by
       intro i q hi;obtain ⟨h1,h2,_⟩:=hq i q hi;have:=(cells?_at h1).1
       exact ⟨this,by rw [←h2.1];exact this⟩
      have hspot:0<len->a.spot=none:=by
       intro h0
       have hq0:qs[0]?=some (qs[0]'(by omega)):=by simp
       obtain ⟨h1,_,_⟩:=hq 0 _ hq0;obtain ⟨e1,e2⟩:=cells?_at h1
       have hlt:0<(qs[0]'(by omega)).1.length:=by rw [(hsz 0 _ hq0).1];exact hpt.2
       have:=z9v (e2 0 _ (List.getElem?_eq_getElem hlt));simpa [Addr.add] using this
      have hadd:∀m,0<len->a.add m=⟨a.block,a.off+m,none⟩:=by
       intro m h0;have hs:=hspot h0;obtain ⟨b,o,s⟩:=a;simp at hs;subst hs;exact ye b o m
      refine ⟨[.lst (qs.map (·.2))],z3o.one ?_,⟨qs.map (·.2),rfl,by simpa [hql] using hreach,by simp [hql];omega,fun c hc=>?_⟩,?_⟩
      ·have hlen:len=(qs.map (·.2)).length:=by simp [hql]
       rw [hlen];refine .lst (some a) cap (P.cellsOf e) (qs.map (·.2)) a.block a.off (fun i j=>((qs.map (·.1)).getD i []).getD j undef) (by rw [←hlen];exact hcond.2.1) ?_ ?_ ?_ ?_ ?_
       ·intro i c hc;rw [List.getElem?_map,Option.map_eq_some_iff] at hc;obtain ⟨q,h1,rfl⟩:=hc;exact (hsz i q h1).2
       ·intro i j c x hc hx
        have h0:0<len:=by have:=(List.getElem?_eq_some_iff.1 hc).1;simp [hql] at this;omega
        have hs:=hspot h0;obtain ⟨b,o,s⟩:=a;simp at hs;subst hs;rfl
       ·intro i j c x hc hx;trivial
       ·intro i j c x hc hx;rw [List.getElem?_map,Option.map_eq_some_iff] at hc;obtain ⟨q,h1,rfl⟩:=hc
        have h0:0<len:=by have:=(List.getElem?_eq_some_iff.1 h1).1;omega
        obtain ⟨g1,g2,_⟩:=hq i q h1;obtain ⟨e1,e2⟩:=cells?_at g1
        have hj:j<q.1.length:=by rw [g2.1];exact (List.getElem?_eq_some_iff.1 hx).1
        have:=e2 j _ (List.getElem?_eq_getElem hj);rw [hadd _ h0] at this;rw [ye] at this;rw [this];simp [h1,hj]
       ·intro i j c x hc hx;rw [List.getElem?_map,Option.map_eq_some_iff] at hc;obtain ⟨q,h1,rfl⟩:=hc;obtain ⟨g1,g2,_⟩:=hq i q h1
        have hj:j<q.1.length:=by rw [g2.1];exact (List.getElem?_eq_some_iff.1 hx).1
        have:=g2.2 j _ x (List.getElem?_eq_getElem hj) hx;simpa [h1,hj] using this
      ·rw [List.mem_map] at hc;obtain ⟨q,h1,rfl⟩:=hc;obtain ⟨i,hi⟩:=List.mem_iff_getElem?.1 h1;exact (hq i q hi).2.2.1
      ·rw [←hde.1];have h1:=hB.slice (elems.map (·.1)) (rest.map (·.1))
       have h2:=z3X (B:=B) (qs.map (·.2)) (elems.map (·.1)) (by simp [hql,hl]) (fun i c e a b=>by
        rw [List.getElem?_map,Option.map_eq_some_iff] at a b;obtain ⟨q,a1,rfl⟩:=a;obtain ⟨y,b1,rfl⟩:=b
        exact (hq i q a1).2.2.2 y b1)
       simp only [ZL,T.bulk];omega
     ·cases h
   |struct fs=>
    simp only [Bool.and_eq_true,List.all_eq_true,beq_iff_eq] at hpt
    have hh:cs.length=P.cellsOf t/\∃xs,(fs.toList.mapM fun f=>DataW.trod enc P w 0 sp held n f.type ((cs.drop f.offset).take (P.cellsOf f.type)))=some xs/\d= .agg (xs.map (·.1)):=by
     have h':=h;simp only [DataW.trod,hu] at h';split at h'
     ·rename_i hc;simp only [Option.map_eq_some_iff] at h';obtain ⟨xs,hxs,hd⟩:=h'
      exact ⟨hc,xs,hxs,by simp only [Prod.mk.injEq] at hd;exact hd.1.symm⟩
     ·cases h'
    obtain ⟨hlen,xs,hxs,rfl⟩:=hh;obtain ⟨hl,hat⟩:=z0s hxs;simp only [DataW.weights,hu] at hwt
    obtain ⟨_,ts,g1,g2,g3,g4⟩:=z5c (n:=n) (w:=w) (cs:=cs) _ ((xs.map (·.1)).map B) 0 _ hpt.2 (by omega) (by simp [hl]) (fun j p nb hpm hnb=>by
     rw [List.getElem?_map,Option.map_eq_some_iff] at hpm;obtain ⟨f,hj,rfl⟩:=hpm;have hf:=zMG hj;obtain ⟨y,hye,hy⟩:=hat j f hj;obtain ⟨d',ps'⟩:=y;rw [List.getElem?_map,List.getElem?_map,hye] at hnb;simp at hnb;subst hnb
     exact Q0 hB hp n f.type _ d' ps' (by simpa using hpt.1 f hf) hy (qL _ _ hwt j f.type d' (by simp [hj]) (by simp [hye])))
    refine ⟨ts,⟨by omega,fun j v x hv hx=>g2 j v x (by simpa using hv) hx⟩,⟨by omega,fun f hf=>?_⟩,Nat.le_trans g4 (hB.agg _)⟩
    have:=(g3 (f.offset,f.type) (List.mem_map.2 ⟨f,hf,rfl⟩)).2;simpa using this
   |array m e=>
    simp only [Bool.and_eq_true,beq_iff_eq] at hpt
    have hh:cs.length=P.cellsOf t/\∃xs,((List.range m).mapM fun i=>DataW.trod enc P w 0 sp held n e ((cs.drop (i*P.cellsOf e)).take (P.cellsOf e)))=some xs/\d= .agg (xs.map (·.1)):=by
     have h':=h;simp only [DataW.trod,hu] at h';split at h'
     ·rename_i hc;simp only [Option.map_eq_some_iff] at h';obtain ⟨xs,hxs,hd⟩:=h'
      exact ⟨hc,xs,hxs,by simp only [Prod.mk.injEq] at hd;exact hd.1.symm⟩
     ·cases h'
    obtain ⟨hlen,xs,hxs,rfl⟩:=hh;obtain ⟨hl,hat⟩:=z0s hxs;simp only [DataW.weights,hu] at hwt
    obtain ⟨_,ts,g1,g2,g3,g4⟩:=z5c (n:=n) (w:=w) (cs:=cs) _ ((xs.map (·.1)).map B) 0 _ hpt.2 (by omega) (by simp [←hl]) (fun j p nb hpm hnb=>by
     rw [List.getElem?_map,Option.map_eq_some_iff] at hpm;obtain ⟨i,hj,rfl⟩:=hpm;obtain ⟨y,hye,hy⟩:=hat j i hj;obtain ⟨d',ps'⟩:=y;rw [List.getElem?_map,List.getElem?_map,hye] at hnb;simp at hnb;subst hnb
     exact Q0 hB hp n e _ d' ps' (by simpa using hpt.1) hy (We _ hwt _ (List.mem_map.2 ⟨(d',ps'),zMG hye,rfl⟩)))
    refine ⟨ts,⟨by omega,fun j v x hv hx=>g2 j v x (by simpa using hv) hx⟩,⟨by omega,fun i hi=>?_⟩,Nat.le_trans g4 (hB.agg _)⟩
    have:=(g3 (i*P.cellsOf e,e) (List.mem_map.2 ⟨i,List.mem_range.2 hi,rfl⟩)).2;simpa using this
   |_=>simp at hpt
def vbs:List V->Nat
 |[]=>0
 | .t x::r=>x.bulk+vbs r
 |_::r=>vbs r
def vb:V->Nat
 | .t x=>x.bulk
 | .agg cs=>vbs cs
 |_=>0
theorem z8C:∀(ts:List T),vbs (ts.map V.t)=ZL ts
 |[]=>rfl
 |x::r=>by simp only [List.map_cons,vbs,ZL,z8C r]
theorem zbe (hB:zby B) (hp:z2f P S=true) {base:Nat} {t:TypeId} {v:Value} {d:DataW H} {ps:List MemPlace} (ht:t∈S) (hok:Value.okWide P w .any base t v) (h:DataW.Trod enc P w 0 sp held t v d ps) (hwt:(d.weights P t).all (· <=reachBytes)=true):
  ∃n ts,WT P n t ts/\zu (L.all w) v (z3q P t ts)/\vb (z3q P t ts)<=B d:=by
 obtain ⟨n,hn⟩:=h;obtain ⟨ts,h1,h2,hbk⟩:=Q0 hB hp n t _ d ps ht hn hwt;refine ⟨n,ts,h2,?_⟩;have hpt:=List.all_eq_true.1 hp t ht;unfold z3q;by_cases hag:Ze P t=true
 ·simp only [hag,if_true]
  have:∃cs,v= .agg cs:=by
   unfold Ze at hag;unfold Value.okWide at hok
   cases hu:P.underlying t with
   |none=>rw [hu] at hag;simp at hag
   |some td=>rw [hu] at hag hok;cases td<;>simp at hag<;>exact ⟨_,hok.choose_spec.1⟩
  obtain ⟨cs,rfl⟩:=this
  refine ⟨.agg (by simpa [Value.cells] using h1.1) fun j u c hj hc=>?_,by simpa [vb,z8C] using hbk⟩
  rw [List.getElem?_map,Option.map_eq_some_iff] at hc;obtain ⟨x,hx,rfl⟩:=hc;exact .t (h1.2 j u x (by simpa [Value.cells] using hj) hx)
 ·simp only [hag,if_false,Bool.false_eq_true]
  have hcells:v.cells=#[v]:=by
   unfold Ze at hag;unfold Value.okWide at hok
   cases hu:P.underlying t with
   |none=>rw [hu] at hpt;simp at hpt
   |some td=>
    rw [hu] at hag hok hpt
    cases td<;>simp at hag hpt<;>simp only [Cell.okWide,Cell.ok,hu] at hok<;>cases v<;>first |rfl|(exact hok.elim)
  have hcl:ts.length=1:=by rw [←h1.1,hcells];rfl
  obtain ⟨x,rfl⟩:∃x,ts=[x]:=by
   match ts,hcl with
   |[x],_=>exact ⟨x,rfl⟩
  exact ⟨.t (h1.2 0 v x (by rw [hcells];rfl) Z),by simpa [vb,ZL] using hbk⟩
theorem z46 (hB:zby B) (hp:z2f P S=true) {base:Nat}:∀(ts:List TypeId) (args:List Value) (ds:List (DataW H)) (ps:List MemPlace),(∀t∈ts,t∈S)->(∀(j:Nat) t v,ts[j]?=some t->args[j]?=some v->Value.okWide P w .any base t v)->
  DataW.TrodAll enc P w 0 sp held ts args ds ps->(DataW.weightsEach P ts ds).all (· <=reachBytes)=true->∃vs,WTs P ts vs/\args.length=vs.length/\(vs.map vb).sum<=(ds.map B).sum/\∀(j:Nat) (v:Value) (x:V),args[j]?=some v->vs[j]?=some x->zu (L.all w) v x
 |[],[],[],ps,_,_,_,_=>⟨[],.nil,rfl,by simp,by simp⟩
 |t::ts,v::args,d::ds,ps,hS,hok,⟨p,q,h1,h2,_⟩,hwt=>by
  simp only [DataW.weightsEach,List.all_append,Bool.and_eq_true] at hwt;obtain ⟨vs,k1,k2,k4,k3⟩:=z46 hB hp ts args ds q (fun t ht=>hS t (List.mem_cons_of_mem _ ht)) (fun j t v a b=>hok (j+1) t v (by simpa using a) (by simpa using b)) h2 hwt.2;obtain ⟨n,xs,g1,g2,g3⟩:=zbe hB hp (hS t (by simp)) (hok 0 t v rfl rfl) h1 hwt.1
  refine ⟨z3q P t xs::vs,.cons g1 k1,by simp [k2],by simp only [List.map_cons,List.sum_cons];omega,fun j u x hu hx=>?_⟩
  cases j with
  |zero=>simp at hu hx;subst hu;subst hx;exact g2
  |succ j=>exact k3 j u x (by simpa using hu) (by simpa using hx)
 |[],_::_,_,_,_,_,h,_=>by simp [DataW.TrodAll] at h
 |[],[],_::_,_,_,_,h,_=>by simp [DataW.TrodAll] at h
 |_::_,[],_,_,_,_,h,_=>by simp [DataW.TrodAll] at h
 |_::_,_::_,[],_,_,_,h,_=>by simp [DataW.TrodAll] at h
end
section
variable {H:Type} {enc:TypeId×Value->H} {P:Program}
theorem z3n {B:DataW H->Nat} {N:Nat} (hB:zby B) {S:List TypeId} {f:FuncId} {fn:Func} {s:ChangeSpec} {tb:TypeId} {apart fresh handsOn again:Bool} (hp:z2f P S=true) (hl:laidOutB P=true) (hT:∀t∈fn.params.toList,t∈S/\P.readableRec t=true/\t<P.types.size)
  (hrt:fn.resultTypes=#[tb]) (hb:P.underlying tb=some .bool) (hv:s.vars=[]) (hs:∀ds:List (DataW H),ds.length=fn.params.size->s.fn H ds={results:=[.lit (.bool true)],args:=ds})
  (W:World) (base:Nat) (args:Array Value) (ds gs:List (DataW H)) (before:List MemPlace)
  (hval:∀(j:Nat) t v,fn.params[j]?=some t->args[j]?=some v->Value.okWide P W .any base t v)
  (hW:DataW.Whole enc P fn.params.toList s.vars apart W args.toList ds gs before)
  (hwt:(DataW.weightsEach P (fn.params.toList++s.plain.varTypes P) (ds++gs)).all (· <=reachBytes)=true)
  (hbk:(ds.map B).sum<=N) (hok:∀vs,WTs P fn.params.toList vs->(vs.map vb).sum<=N->z7 P f vs ⟨[],0⟩ {v:= .t (.bool true)}):
  Calls P f args W fun e W'=>∃v,e= .returned v/\s.post enc P fn apart fresh handsOn again W args v W':=by
 have hW':=hW;obtain ⟨p,q,hA,hV,rfl,hfz,hnd⟩:=hW;rw [hv] at hV;obtain ⟨rfl,rfl⟩:=trodVars_none hV
 have hdl:ds.length=fn.params.size:=by
  have:∀(ts:List TypeId) (vs:List Value) (ds:List (DataW H)) (ps:List MemPlace),DataW.TrodAll enc P W 0 (fun _=>true) true ts vs ds ps->ds.length=ts.length:=by
   intro ts
   induction ts with
   |nil=>intro vs ds ps h;cases vs<;>cases ds<;>simp_all [DataW.TrodAll]
   |cons t ts ih=>
    intro vs ds ps h
    cases vs with
    |nil=>simp [DataW.TrodAll] at h
    |cons v vs=>
     cases ds with
     |nil=>simp [DataW.TrodAll] at h
     |cons d ds=>obtain ⟨p,q,_,h2,_⟩:=h;simp [ih vs ds q h2]
  simpa using this _ _ _ _ hA
 have hwt':(DataW.weightsEach P fn.params.toList ds).all (· <=reachBytes)=true:=by
  have happ:∀(ts us:List TypeId) (ds es:List (DataW H)),ts.length=ds.length->DataW.weightsEach P (ts++us) (ds++es)=DataW.weightsEach P ts ds++DataW.weightsEach P us es:=by
   intro ts
   induction ts with
   |nil=>intro us ds es h;cases ds with
    |nil=>simp [DataW.weightsEach]
    |cons d ds=>simp at h
   |cons t ts ih=>intro us ds es h;cases ds with
    |nil=>simp at h
    |cons d ds=>simp only [List.cons_append,DataW.weightsEach,List.append_assoc];rw [ih us ds es (by simpa using h)]
  rw [happ _ _ _ _ (by simpa using hdl.symm),List.all_append,Bool.and_eq_true] at hwt;exact hwt.1
 obtain ⟨vs,k1,k2,k4,k3⟩:=z46 hB hp _ _ _ _ (fun t ht=>(hT t ht).1) (fun j t v a b=>hval j t v (by simpa using a) (by simpa using b)) hA hwt';refine ((hok vs k1 (Nat.le_trans k4 hbk)).2 (L.all W) args (Z5.all W) Z (by simpa using k2) (fun j v x a b=>k3 j v x (by simpa using a) b)).mono fun e W' he=>?_;obtain ⟨v,Λ',rfl,rfl,g1,g2,g3,g4⟩:=he;have hvt:=g4.ZQ.Yf;subst hvt;have hbel:Below W.heap.size W Λ'.w:=⟨g1.fr.os,g1.fr.tape,g1.fr.output,g1.fr.size,fun b hb=>(g1.fr.fix b hb none rfl).2⟩;have hsf:=hs (ds++[]) (by simpa using hdl);refine ⟨_,rfl,z3w (pa:=p) (pv:=[]) (by simpa using hW') ?_ ?_ ?_ (by simp) hbel ?_⟩
 ·intro b sp hd;rw [hsf,hrt]
  exact ⟨[],[],⟨1,by simp [DataW.trod,hb,Value.cells]⟩,rfl,rfl⟩
 ·intro sp hsp;rw [hsf];have hlt:∀x∈p,x.block<W.heap.size:=fun x hx=>hW'.lt x (by simpa using hx);simpa using Qn hl hbel _ _ _ _ (fun t ht=>(hT t ht).2) hA hlt (fun x hx=>hsp x (by simpa using hx))
 ·intro sp hsp;rw [hsf,hv];rfl
 ·intro j t r hj hr;rw [hrt] at hj
  cases j with
  |zero=>
   simp at hj;subst hj;simp [hrt,Value.resultList] at hr;subst hr;simp [Value.okWide,Cell.okWide,Cell.ok,hb]
  |succ j=>simp at hj
theorem zgk {H:Type} {enc:TypeId×Value->H} {P:Program} {B:DataW H->Nat} {N:Nat} (hB:zby B) (S:List TypeId) {f:FuncId} {fn:Func} {s:ChangeSpec} {tb:TypeId} {apart fresh handsOn again:Bool} (hp:z2f P S=true) (hl:laidOutB P=true)
  (hT:(fn.params.toList.all fun t=>S.contains t&&P.readableRec t&&decide (t<P.types.size))=true)
  (hrt:fn.resultTypes=#[tb]) (hb:P.underlying tb=some .bool) (hv:s.vars=[]) (hs:∀ds:List (DataW H),ds.length=fn.params.size->s.fn H ds={results:=[.lit (.bool true)],args:=ds})
  (W:World) (base:Nat) (args:Array Value) (ds gs:List (DataW H)) (before:List MemPlace)
  (hval:∀(j:Nat) t v,fn.params[j]?=some t->args[j]?=some v->Value.okWide P W .any base t v)
  (hW:DataW.Whole enc P fn.params.toList s.vars apart W args.toList ds gs before)
  (hwt:(DataW.weightsEach P (fn.params.toList++s.plain.varTypes P) (ds++gs)).all (· <=reachBytes)=true)
  (hbk:(ds.map B).sum<=N) (hok:∀vs,WTs P fn.params.toList vs->(vs.map vb).sum<=N->z7 P f vs ⟨[],0⟩ {v:= .t (.bool true)}):
  Calls P f args W fun e W'=>∃v,e= .returned v/\s.post enc P fn apart fresh handsOn again W args v W':=by
 refine z3n hB (S:=S) hp hl (fun t ht=>?_) hrt hb hv hs W base args ds gs before hval hW hwt hbk hok;rw [List.all_eq_true] at hT;have:=hT t ht;simp only [Bool.and_eq_true,decide_eq_true_eq,List.contains_iff_mem] at this;exact ⟨this.1.1,this.1.2,this.2⟩
end
end Go.GB
namespace Go.GB
namespace Sel
end Sel
namespace Sel.Ok
end Sel.Ok
end Go.GB
namespace Go.GB.C11
open Go.GB
structure Pr13 (P:Program):Prop extends Pr P where
 i64:zd P 64=some (n64,c64.bare,r64)
 i23:zd P 23=some (n23,c23.bare,r23)
 i27:zd P 27=some (n27,c27.bare,r27)
 i95:zd P 95=some (n95,c95.bare,r95)
 i96:zd P 96=some (n96,c96.bare,r96)
 i130:zd P 130=some (n130,c130.bare,r130)
 i112:zd P 112=some (n112,c112.bare,r112)
 i123:zd P 123=some (n123,c123.bare,r123)
 i124:zd P 124=some (n124,c124.bare,r124)
 i131:zd P 131=some (n131,c131.bare,r131)
 i132:zd P 132=some (n132,c132.bare,r132)
 i30:zd P 30=some (n30,c30.bare,r30)
 i140:zd P 140=some (n140,c140.bare,r140)
 i146:zd P 146=some (n146,c146.bare,r146)
variable {P:Program}
end Go.GB.C11
namespace Go.GB.C11
open Go.GB
variable {P:Program}
def szV (v:Val):Int:=v.items.attach.foldl (fun n x=>IntKind.i64.wrap (n+szV x.1)) 1
termination_by SizeOf.sizeOf v
decreasing_by exact Val.yE v x.2
def dpV (v:Val):Int:=IntKind.i64.wrap (v.items.attach.foldl (fun n x=>if dpV x.1>n then dpV x.1 else n) 0+1)
termination_by SizeOf.sizeOf v
decreasing_by all_goals exact Val.yE v x.2
def twS:List Str->List Str->Bool
 |_,[]=>false
 |p,s::r=>decide (s∈p)||twS (p++[s]) r
theorem ze8 (v:Val):szV v=v.items.foldl (fun n x=>IntKind.i64.wrap (n+szV x)) 1:=by
 rw [szV];exact List.foldl_attach (l:=v.items) (f:=fun n x=>IntKind.i64.wrap (n+szV x)) (b:=1)
theorem zeb (v:Val):dpV v=IntKind.i64.wrap (v.items.foldl (fun n x=>if dpV x>n then dpV x else n) 0+1):=by
 rw [dpV];rw [List.foldl_attach (l:=v.items) (f:=fun n x=>if dpV x>n then dpV x else n) (b:=0)]
def SzC (P:Program) (v:Val):Prop:=z7 P 130 [v.v] ⟨[],0⟩ {v:= .t (.int .i64 (szV v))}
theorem z5L (H:Pr13 P) (v:Val) (hv:v.Ok) (ih:∀x,x∈v.items->SzC P x):SzC P v:=by
 have hil:=hv.il;unfold SzC;rw [ze8];refine z7.run H.i130 H.mixed Z Z ?_;refine fR Z ?_;refine zD v.items (fun i (n:Int)=>{env:=[(1,.ptr 0 0),(3,.t (.int .i64 n)),(4,.t (.int .i64 i))],s:=⟨[(0,.cells [.t (.int .i64 v.kind),.t (.int .i64 v.int),.t (.str v.text),.t (.lst (v.items.map Val.enc)),.t (.lst (v.keys.map sE))])],1⟩}) (fun r i n=>v.items.foldl (fun n x=>IntKind.i64.wrap (n+szV x)) 1=r.foldl (fun n x=>IntKind.i64.wrap (n+szV x)) n) 1 1 Z Z Z Z Z ?_ ?_
 ·intro n hinv;refine fR Z ?_;refine lM Z Z Z ?_;refine fM Z ?_;refine Run.zj Z Z (by simp) ?_;refine fR Z ?_;refine Run.fin Z (z3.go ?_);exact .t (by rw [hinv];rfl)
 ·intro i x r n h1 hi hd hinv ihl;have hcall:=ih x (zMG h1);unfold SzC at hcall;refine fR Z ?_;refine lM Z Z Z ?_;refine fM Z ?_;refine Run.zm Z Z (by simp;omega) ?_;refine fR Z ?_;refine Mid.Zl (Val.zw x) Z Z Z h1 Z Z ?_;refine fM Z ?_;refine Mid.call (hcall) Z Z Z Z ?_;refine p0 Z ?_;refine fM Z ?_;refine aL Z Z Z Z Z ?_;refine fM Z ?_;exact zn 1 Z (ihl (IntKind.i64.wrap (n+szV x)) hinv) Z Z Z
theorem z0I (H:Pr13 P):∀(v:Val),v.Ok->SzC P v
 |v,hv=>z5L H v hv fun x hx=>z0I H x (hv.it x hx)
termination_by v=>SizeOf.sizeOf v
decreasing_by exact Val.yE v hx
def DpC (P:Program) (v:Val):Prop:=z7 P 131 [v.v] ⟨[],0⟩ {v:= .t (.int .i64 (dpV v))}
theorem z4y (H:Pr13 P) (v:Val) (hv:v.Ok) (ih:∀x,x∈v.items->DpC P x):DpC P v:=by
 have hil:=hv.il;unfold DpC;rw [zeb];refine z7.run H.i131 H.mixed Z Z ?_;refine fR Z ?_;refine zD v.items (fun i (n:Int)=>{env:=[(1,.ptr 0 0),(3,.t (.int .i64 n)),(4,.t (.int .i64 i))],s:=⟨[(0,.cells [.t (.int .i64 v.kind),.t (.int .i64 v.int),.t (.str v.text),.t (.lst (v.items.map Val.enc)),.t (.lst (v.keys.map sE))])],1⟩}) (fun r i n=>v.items.foldl (fun n x=>if dpV x>n then dpV x else n) 0=r.foldl (fun n x=>if dpV x>n then dpV x else n) n) 1 0 Z Z Z Z Z ?_ ?_
 ·intro n hinv;refine fR Z ?_;refine lM Z Z Z ?_;refine fM Z ?_;refine Run.zj Z Z (by simp) ?_;refine fR Z ?_;refine p0 Z ?_;refine fM Z ?_;refine Run.fin Z (z3.go ?_);exact .t (by rw [hinv];rfl)
 ·intro i x r n h1 hi hd hinv ihl;have hcall:=ih x (zMG h1);unfold DpC at hcall;refine fR Z ?_;refine lM Z Z Z ?_;refine fM Z ?_;refine Run.zm Z Z (by simp;omega) ?_;refine fR Z ?_;refine Mid.Zl (Val.zw x) Z Z Z h1 Z Z ?_;refine fM Z ?_;refine Mid.call (hcall) Z Z Z Z ?_;refine fM Z ?_;refine aL Z Z Z Z Z ?_;refine fM Z ?_;exact zn 1 Z (ihl (if dpV x>n then dpV x else n) hinv) Z Z Z
theorem QR (H:Pr13 P):∀(v:Val),v.Ok->DpC P v
 |v,hv=>z4y H v hv fun x hx=>QR H x (hv.it x hx)
termination_by v=>SizeOf.sizeOf v
decreasing_by exact Val.yE v hx
theorem zcF (p:List Str) (l:List Str):∀{i:Nat} {x:Str} {r:List Str},l[i]?=some x->l.drop i=x::r->twS (l.take i) (x::r)=(decide (x∈l.take i)||twS (l.take (i+1)) r):=by
 intro i x r h1 h2
 have htk:l.take i++[x]=l.take (i+1):=by rw [List.take_add_one,h1];rfl
 rw [←htk];rfl
theorem z7X (H:Pr13 P) (l:List Str) (hl:l.length<=140737488355328):z7 P 146 [.t (.lst (l.map sE))] ⟨[],0⟩ {v:= .t (.bool (twS [] l))}:=by
 generalize hT:twS [] l=tot;refine z7.run H.i146 H.mixed Z Z ?_;refine fR Z ?_;refine zD l (fun i (_:Unit)=>{env:=[(0,.t (.lst (l.map sE))),(3,.t (.int .i64 i))],s:=⟨[],0⟩}) (fun r i _=>l.drop i=r/\twS (l.take i) r=tot) 0 () Z ⟨rfl,hT⟩ Z Z Z ?_ ?_
 ·rintro _ ⟨_,hinv⟩;refine fR Z ?_;refine lM Z Z Z ?_;refine fM Z ?_;refine Run.zj Z Z (by simp) ?_;refine fR Z ?_;refine Run.fin Z (z3.go ?_);exact .t (by rw [←hinv];rfl)
 ·rintro i x r _ h1 hi hd ⟨hdr,hinv⟩ ih;rw [zcF [] l h1 hdr] at hinv
  have hdr':l.drop (i+1)=r:=by rw [←List.drop_drop,hdr];rfl
  refine fR Z ?_;refine lM Z Z Z ?_;refine fM Z ?_;refine Run.zm Z Z (by simp;omega) ?_;refine fR Z ?_;refine zD (l.take i) (fun k (_:Unit)=>{env:=[(0,.t (.lst (l.map sE))),(3,.t (.int .i64 i)),(4,.t (.int .i64 k))],s:=⟨[],0⟩}) (fun r k _=>decide (x∈l.take i)=decide (x∈r)) 0 () Z Z Z Z Z ?_ ?_
  ·intro _ hinv2
   have hnot:decide (x∈l.take i)=false:=by rw [hinv2];simp
   rw [hnot] at hinv
   have htl:(l.take i).length=i:=by rw [List.length_take];omega
   refine fR Z ?_;refine Run.zj Z Z (by simp [htl]) ?_;refine fR Z ?_;refine aL Z Z Z Z Z ?_;refine fM Z ?_;exact zn 0 Z (ih () ⟨hdr',by simpa using hinv⟩) rfl rfl rfl
  ·intro k y r2 _ g1 gi gd hinv2 ih2
   have htl:(l.take i).length=i:=by rw [List.length_take];omega
   have g1':l[k]?=some y:=by
    rw [List.getElem?_take] at g1;split at g1
    ·exact g1
    ·cases g1
   refine fR Z ?_;refine Run.zm Z Z (by simp;omega) ?_;refine fR Z ?_;refine Mid.zg Z Z Z h1 Z Z ?_;refine fM Z ?_;refine Mid.zg Z Z Z g1' Z Z ?_;refine fM Z ?_;refine Run.cond Z Z (fun hc=>?_) (fun hc=>?_)
   ·have hc':x=y:=by simpa using hc
    have hm:decide (x∈l.take i)=true:=by rw [hinv2];simp [hc']
    rw [hm] at hinv;refine fR Z ?_;refine Run.fin Z (z3.go ?_);exact .t (by rw [←hinv];rfl)
   ·have hc':¬ x=y:=by simpa using hc
    refine fR Z ?_;refine aL Z Z Z Z Z ?_;refine fM Z ?_;exact zn 0 Z (ih2 () (by rw [hinv2];simp [hc'])) Z Z Z
end Go.GB.C11
namespace Go.GB.C11
open Go.GB
variable {P:Program}
def z1Z (v:Val) (lit:Bool):Bool:=
 if (v.kind==0)=true then (((v.int==0&&v.text==[])&&(v.items.length:Int)==0)&&(v.keys.length:Int)==0)
 else if (v.kind==1)=true then ((((v.int==0||v.int==1)&&v.text==[])&&(v.items.length:Int)==0)&&(v.keys.length:Int)==0)
 else if (v.kind==2)=true then ((v.text==[]&&(v.items.length:Int)==0)&&(v.keys.length:Int)==0)
 else if (v.kind==3)=true then ((v.int==0&&(v.items.length:Int)==0)&&(v.keys.length:Int)==0)
 else if (v.kind==4)=true then ((((((v.int==0&&(v.items.length:Int)==0)&&(v.keys.length:Int)==0)&&zq v.text)&&v.text !=[116,114,117,101])&&v.text !=[102,97,108,115,101])&&v.text !=[110,117,108,108])
 else if (v.kind==5)=true then ((v.int==0&&v.text==[])&&(v.keys.length:Int)==0)
 else if (v.kind==6)=true then (((v.int==0&&v.text==[])&&(v.keys.length:Int)==(v.items.length:Int))&&!twS [] v.keys)
 else if (v.kind==7)=true then ((((lit&&v.int==0)&&(v.items.length:Int)==0)&&(v.keys.length:Int)==0)&&zq v.text)
 else false
theorem z9H (H:Pr13 P) (v:Val) (hv:v.Ok) (lit:Bool):z7 P 140 [v.v,.t (.bool lit)] ⟨[],0⟩ {v:= .t (.bool (z1Z v lit))}:=by
 have hkl:=hv.kl;have htl:=hv.tl;generalize hT:z1Z v lit=tot;unfold z1Z at hT;refine z7.run H.i140 H.mixed Z Z ?_;refine fR Z ?_;refine Run.cond Z Z (fun h0=>?_) (fun h0=>?_)
 ·rw [if_pos h0] at hT;refine fR Z ?_;refine lMG Z Z Z Z ?_;refine fM Z ?_;refine lMG Z Z Z Z ?_;refine fM Z ?_;refine Run.fin Z (z3.go ?_);exact .t (by rw [←hT])
 ·rw [if_neg (by rw [h0];simp)] at hT;refine fR Z ?_;refine Run.cond Z Z (fun h1=>?_) (fun h1=>?_)
  ·rw [if_pos h1] at hT;refine fR Z ?_;refine lMG Z Z Z Z ?_;refine fM Z ?_;refine lMG Z Z Z Z ?_;refine fM Z ?_;refine Run.fin Z (z3.go ?_);exact .t (by rw [←hT])
  ·rw [if_neg (by rw [h1];simp)] at hT;refine fR Z ?_;refine Run.cond Z Z (fun h2=>?_) (fun h2=>?_)
   ·rw [if_pos h2] at hT;refine fR Z ?_;refine lMG Z Z Z Z ?_;refine fM Z ?_;refine lMG Z Z Z Z ?_;refine fM Z ?_;refine Run.fin Z (z3.go ?_);exact .t (by rw [←hT])
   ·rw [if_neg (by rw [h2];simp)] at hT;refine fR Z ?_;refine Run.cond Z Z (fun h3=>?_) (fun h3=>?_)
    ·rw [if_pos h3] at hT;refine fR Z ?_;refine lMG Z Z Z Z ?_;refine fM Z ?_;refine lMG Z Z Z Z ?_;refine fM Z ?_;refine Run.fin Z (z3.go ?_);exact .t (by rw [←hT])
    ·rw [if_neg (by rw [h3];simp)] at hT;refine fR Z ?_;refine Run.cond Z Z (fun h4=>?_) (fun h4=>?_)
     ·rw [if_pos h4] at hT;refine fR Z ?_;refine lMG Z Z Z Z ?_;refine fM Z ?_;refine lMG Z Z Z Z ?_;refine fM Z ?_;refine caG Z Z (fun hg=>⟨_,rfl,Q5 H.toPr v.text htl,rfl⟩) Z Z ?_;refine fM Z ?_;refine Run.fin Z (z3.go ?_);exact .t (by rw [←hT];rfl)
     ·rw [if_neg (by rw [h4];simp)] at hT;refine fR Z ?_;refine Run.cond Z Z (fun h5=>?_) (fun h5=>?_)
      ·rw [if_pos h5] at hT;refine fR Z ?_;refine lMG Z Z Z Z ?_;refine fM Z ?_;refine Run.fin Z (z3.go ?_);exact .t (by rw [←hT])
      ·rw [if_neg (by rw [h5];simp)] at hT;refine fR Z ?_;refine Run.cond Z Z (fun h6=>?_) (fun h6=>?_)
       ·rw [if_pos h6] at hT;refine fR Z ?_;refine lMG Z Z Z Z ?_;refine fM Z ?_;refine lMG Z Z Z Z ?_;refine fM Z ?_;refine caG Z Z (fun hg=>⟨_,rfl,z7X H v.keys (by omega),rfl⟩) Z Z ?_;refine fM Z ?_;refine Run.fin Z (z3.go ?_);exact .t (by rw [←hT])
       ·rw [if_neg (by rw [h6];simp)] at hT;refine fR Z ?_;refine Run.cond Z Z (fun h7=>?_) (fun h7=>?_)
        ·rw [if_pos h7] at hT;refine fR Z ?_;refine lMG Z Z Z Z ?_;refine fM Z ?_;refine lMG Z Z Z Z ?_;refine fM Z ?_;refine caG Z Z (fun hg=>⟨_,rfl,Q5 H.toPr v.text htl,rfl⟩) Z Z ?_;refine fM Z ?_;refine Run.fin Z (z3.go ?_);exact .t (by rw [←hT])
        ·rw [if_neg (by rw [h7];simp)] at hT;refine fR Z ?_;refine Run.fin Z (z3.go ?_);exact .t (by rw [←hT])
def z2y (lit:Bool) (v:Val):Bool:=z1Z v lit&&(v.keys.all (fun k=>!(lit&&!zq k))&&v.items.attach.all (fun x=>z2y lit x.1))
termination_by SizeOf.sizeOf v
decreasing_by exact Val.yE v x.2
theorem zdM (lit:Bool) (v:Val):z2y lit v=(z1Z v lit&&(v.keys.all (fun k=>!(lit&&!zq k))&&v.items.all (z2y lit))):=by
 rw [z2y];congr 2;rw [Bool.eq_iff_iff];simp [List.all_eq_true]
def WhC (P:Program) (lit:Bool) (v:Val):Prop:=z7 P 132 [v.v,.t (.bool lit)] ⟨[],0⟩ {v:= .t (.bool (z2y lit v))}
theorem z5o (H:Pr13 P) (lit:Bool) (v:Val) (hv:v.Ok) (ih:∀x,x∈v.items->WhC P lit x):WhC P lit v:=by
 have hil:=hv.il;have hkl:=hv.kl;unfold WhC;rw [zdM];refine z7.run H.i132 H.mixed Z Z ?_;refine fR Z ?_;refine Mid.call (z9H H v hv lit) Z Z Z Z ?_;refine fM Z ?_;refine Run.cond Z Z (fun h0=>?_) (fun h0=>?_)
 ·have h0':z1Z v lit=false:=by simpa using h0
  refine fR Z ?_;refine Run.fin Z (z3.go ?_);exact .t (by rw [h0'];rfl)
 ·have h0':z1Z v lit=true:=by simpa using h0
  rw [h0',Bool.true_and];refine fR Z ?_;refine zD v.keys (fun i (_:Unit)=>{env:=[(1,.t (.bool lit)),(2,.ptr 0 0),(5,.t (.int .i64 i))],s:=⟨[(0,.cells [.t (.int .i64 v.kind),.t (.int .i64 v.int),.t (.str v.text),.t (.lst (v.items.map Val.enc)),.t (.lst (v.keys.map sE))])],1⟩}) (fun r i _=>v.keys.all (fun k=>!(lit&&!zq k))=r.all (fun k=>!(lit&&!zq k))) 1 () Z Z Z Z Z ?_ ?_
  ·intro _ hk
   have hk':v.keys.all (fun k=>!(lit&&!zq k))=true:=by rw [hk];rfl
   rw [hk',Bool.true_and];refine fR Z ?_;refine lM Z Z Z ?_;refine fM Z ?_;refine Run.zj Z Z (by simp) ?_;refine fR Z ?_;refine zD v.items (fun i (_:Unit)=>{env:=[(1,.t (.bool lit)),(2,.ptr 0 0),(6,.t (.int .i64 i))],s:=⟨[(0,.cells [.t (.int .i64 v.kind),.t (.int .i64 v.int),.t (.str v.text),.t (.lst (v.items.map Val.enc)),.t (.lst (v.keys.map sE))])],1⟩}) (fun r i _=>v.items.all (z2y lit)=r.all (z2y lit)) 1 () Z Z Z Z Z ?_ ?_
   ·intro _ hinv;refine fR Z ?_;refine lM Z Z Z ?_;refine fM Z ?_;refine Run.zj Z Z (by simp) ?_;refine fR Z ?_;refine Run.fin Z (z3.go ?_);exact .t (by rw [hinv];rfl)
   ·intro i x r _ h1 hi hd hinv ihl;have hcall:=ih x (zMG h1);unfold WhC at hcall;refine fR Z ?_;refine lM Z Z Z ?_;refine fM Z ?_;refine Run.zm Z Z (by simp;omega) ?_;refine fR Z ?_;refine Mid.Zl (Val.zw x) Z Z Z h1 Z Z ?_;refine fM Z ?_;refine Mid.call (hcall) Z Z Z Z ?_;refine fM Z ?_;refine Run.cond Z Z (fun hc=>?_) (fun hc=>?_)
    ·have hc':z2y lit x=false:=by simpa using hc
     refine fR Z ?_;refine Run.fin Z (z3.go ?_);exact .t (by rw [hinv,List.all_cons,hc'];rfl)
    ·have hc':z2y lit x=true:=by simpa using hc
     refine fR Z ?_;refine aL Z Z Z Z Z ?_;refine fM Z ?_;exact zn 1 Z (ihl () (by rw [hinv,List.all_cons,hc'];rfl)) Z Z Z
  ·intro i x r _ h1 hi hd hinv ihl;have hxl:=hv.kt x (zMG h1);refine fR Z ?_;refine lM Z Z Z ?_;refine fM Z ?_;refine Run.zm Z Z (by simp;omega) ?_;refine fR Z ?_;refine elG Z Z Z Z h1 Z Z ?_;refine fM Z ?_;refine caG Z Z (fun hg=>⟨_,rfl,Q5 H.toPr x hxl,rfl⟩) Z Z ?_;refine fM Z ?_;refine Run.cond Z Z (fun hc=>?_) (fun hc=>?_)
   ·refine fR Z ?_;refine Run.fin Z (z3.go ?_);exact .t (by rw [hinv,List.all_cons,hc];rfl)
   ·refine fR Z ?_;refine aL Z Z Z Z Z ?_;refine fM Z ?_;exact zn 1 Z (ihl () (by rw [hinv,List.all_cons,hc];rfl)) Z Z Z
theorem QD (H:Pr13 P) (lit:Bool):∀(v:Val),v.Ok->WhC P lit v
 |v,hv=>z5o H lit v hv fun x hx=>QD H lit x (hv.it x hx)
termination_by v=>SizeOf.sizeOf v
decreasing_by exact Val.yE v hx
def Qy (v:Val):Bool:=(decide (szV v<=4096)&&decide (dpV v<=24))&&z2y true v
theorem z71 (H:Pr13 P) (v:Val) (hv:v.Ok):z7 P 112 [v.v] ⟨[],0⟩ {v:= .t (.bool (Qy v))}:=by
 have h1:=z0I H v hv;have h2:=QR H v hv;have h3:=QD H true v hv;unfold SzC at h1;unfold DpC at h2;unfold WhC at h3;refine z7.run H.i112 H.mixed Z Z ?_;refine fR Z ?_;refine Mid.call (h1) Z Z Z Z ?_;refine fM Z ?_;refine caG Z Z (fun hg=>⟨_,rfl,h2,rfl⟩) Z Z ?_;refine fM Z ?_;refine caG Z Z (fun hg=>⟨_,rfl,h3,rfl⟩) Z Z ?_;refine fM Z ?_;refine Run.fin Z (z3.go ?_);exact .t Z
end Go.GB.C11
namespace Go.GB.C11
open Go.GB
variable {P:Program}
theorem z2V (a b:Ref):z3d a b=z3d b a:=by
 unfold z3d;rw [Bool.eq_iff_iff];simp;exact ⟨fun h=>⟨h.1.symm,h.2.symm⟩,fun h=>⟨h.1.symm,h.2.symm⟩⟩
theorem qx (H:Pr13 P) (a b:Ref) (ha:a.Ok) (hb:b.Ok):z7 P 30 [a.v,b.v] ⟨[],0⟩ {v:= .t (.bool (z3d a b))}:=by
 have h1:=ha.l;have h2:=hb.l;refine z7.run H.i30 H.mixed Z Z ?_;refine fR Z ?_;refine caG Z Z (fun hg=>⟨_,rfl,zdj H.toPr a.zr b.zr (by omega) (by omega),rfl⟩) Z Z ?_;refine fM Z ?_;refine Run.fin Z (z3.go ?_);exact .t Z
theorem z3x (H:Pr13 P) (ds:List Def) (hD:Z8 ds) (n:Str) (k:Int) (hk:k≠0):z7 P 123 [yS ds,.t (.str n),.t (.int .i64 k)] ⟨[],0⟩ {v:= .t (.int .i64 (yx ds n k))}:=by
 refine z7.run H.i123 H.mixed Z Z ?_;refine fR Z ?_;refine Mid.call (yh H.toPr ds hD.l n) Z Z Z Z ?_;refine fM Z ?_;refine caG Z Z (fun hg=>⟨_,rfl,YT H.toPr n,rfl⟩) Z Z ?_;refine fM Z ?_;refine Run.cond Z Z (fun h1=>?_) (fun h1=>?_)
 ·refine fR Z ?_;refine Run.fin Z (z3.go ?_);exact .t (by unfold yx;rw [if_pos h1])
 ·have h1':¬ (!(zf n ds).isSome&&!(WX n))=true:=by
   rw [show (!(zf n ds).isSome&&!(WX n))=false from h1];simp
  refine fR Z ?_;refine Run.cond Z Z (fun h2=>?_) (fun h2=>?_)
  ·have h2':(!(zf n ds).isSome||((zf n ds).getD Def.zero).kind !=k)=true:=by
    have:(((zf n ds).getD Def.zero).kind !=k)=true:=h2;rw [this];simp
   refine fR Z ?_;refine Run.fin Z (z3.go ?_);exact .t (by unfold yx;rw [if_neg h1',if_pos h2'])
  ·have h2':¬ (!(zf n ds).isSome||((zf n ds).getD Def.zero).kind !=k)=true:=by
    have:(((zf n ds).getD Def.zero).kind !=k)=false:=h2;rw [this]
    cases hf:zf n ds with
    |none=>rw [hf] at this;exact absurd (by simpa [Def.zero] using this) hk.symm
    |some d=>simp
   refine fR Z ?_;refine Run.fin Z (z3.go ?_);exact .t (by unfold yx;rw [if_neg h1',if_neg h2'])
theorem zag (H:Pr13 P) (ds:List Def) (hD:Z8 ds) (t:Def) (ht:t.Ok) (x:Field) (hx:x.Ok) (hl:(z6v ds t x).length<=4398046511104):z7 P 124 [yS ds,t.v,x.v] ⟨[],0⟩ {v:= .t (.lst ((z6v ds t x).map zk.enc))}:=by
 have hxn:=hx.nm;have htn:=ht.nm;have hxa:=hx.al
 have hatl:List.length (atF t x)<=281474976710657:=by unfold atF;simp;omega
 generalize hT:z6v ds t x=tot at hl;unfold z6v at hT;generalize hAt:atF t x=at_ at hT hatl;have hAt':t.name++[46]++x.name=at_:=hAt;refine z7.run H.i124 H.mixed Z Z ?_;refine fR Z ?_;refine pu Z ?_;refine fM Z ?_;refine pu Z ?_;refine fM Z ?_;rw [hAt'];refine Mid.call (qK H.toPr t ht.fl x.name) Z Z Z Z ?_;refine fM Z ?_
 cases hy:Zb x.name t.fields with
 |none=>
  rw [hy] at hT;refine Run.zm Z Z Z ?_;refine fR Z ?_;refine Run.fin Z (z3.go ?_)
  first
  |exact .t (by rw [←hT];rfl)
  |exact .own (by rw [←hT];rfl)
 |some y=>
  rw [hy] at hT;simp only at hT;have hyo:=ht.f y (w7 hy);have hya:=hyo.al;refine Run.zj Z Z Z ?_;refine fR Z ?_;refine Mid.call (z9k H.toPr ds hD y.ty x.ty hyo.t hx.t) Z Z Z Z ?_;refine fM Z ?_
  have tail:∀B0:List zk,B0++(qA y at_ x.args++WV x at_ y.args)=tot->Run P n124 (⟨[],0⟩:S).nxt (z3 ⟨[],0⟩ {v:= .t (.lst (tot.map zk.enc))} r124 Yz.ret)
    [It.c c124_20,It.blk 0,It.c c124_11] {env:=[(5,.ptr 2 0),(7,.t (.str at_)),(8,.ptr 3 0),(10,.own 4 2 (List.map zk.enc (B0))),(11,.t (.int .i64 0))],s:=⟨[(2,.cells [.t (.str x.name),.t (.lst (x.args.map Input.enc)),.t (.str x.ty.name),.t (.lst (x.ty.zr.map nE)),.t (.lst (x.zX.map Dir.enc))]),(3,.cells [.t (.str y.name),.t (.lst (y.args.map Input.enc)),.t (.str y.ty.name),.t (.lst (y.ty.zr.map nE)),.t (.lst (y.zX.map Dir.enc))]),(4,.arr (B0).length)],5⟩}:=by
   intro B0 hB0;refine zD x.args (fun i (B:List zk)=>{env:=[(5,.ptr 2 0),(7,.t (.str at_)),(8,.ptr 3 0),(10,.own 4 2 (List.map zk.enc (B))),(11,.t (.int .i64 i))],s:=⟨[(2,.cells [.t (.str x.name),.t (.lst (x.args.map Input.enc)),.t (.str x.ty.name),.t (.lst (x.ty.zr.map nE)),.t (.lst (x.zX.map Dir.enc))]),(3,.cells [.t (.str y.name),.t (.lst (y.args.map Input.enc)),.t (.str y.ty.name),.t (.lst (y.ty.zr.map nE)),.t (.lst (y.zX.map Dir.enc))]),(4,.arr (B).length)],5⟩}) (fun r i B=>B++(qA y at_ r++WV x at_ y.args)=tot) 5 B0 Z hB0 Z Z Z ?_ ?_
   ·rintro B hB;simp only [qA,List.nil_append] at hB;refine fR Z ?_;refine lM Z Z Z ?_;refine fM Z ?_;refine Run.zj Z Z (by simp) ?_;refine fR Z ?_;refine zD y.args (fun i (B:List zk)=>{env:=[(5,.ptr 2 0),(7,.t (.str at_)),(8,.ptr 3 0),(10,.own 4 2 (List.map zk.enc (B))),(14,.t (.int .i64 i))],s:=⟨[(2,.cells [.t (.str x.name),.t (.lst (x.args.map Input.enc)),.t (.str x.ty.name),.t (.lst (x.ty.zr.map nE)),.t (.lst (x.zX.map Dir.enc))]),(3,.cells [.t (.str y.name),.t (.lst (y.args.map Input.enc)),.t (.str y.ty.name),.t (.lst (y.ty.zr.map nE)),.t (.lst (y.zX.map Dir.enc))]),(4,.arr (B).length)],5⟩}) (fun r i B=>B++WV x at_ r=tot) 5 B Z hB Z Z Z ?_ ?_
    ·rintro C hC
     obtain rfl:C=tot:=by rw [←hC];simp [WV]
     refine fR Z ?_;refine lM Z Z Z ?_;refine fM Z ?_;refine Run.zj Z Z (by simp) ?_;refine fR Z ?_;refine Run.fin Z (z3.go ?_);exact .own Z
    ·rintro i b r C h1 hi hd hC ih;have hb:=hyo.a b (zMG h1);have hbn:=hb.nm;have hlen:=congrArg List.length hC;simp only [List.length_append] at hlen;refine fR Z ?_;refine lM Z Z Z ?_;refine fM Z ?_;refine Run.zm Z Z (by simp;omega) ?_;refine fR Z ?_;refine Mid.zg Z Z Z h1 Z Z ?_;refine fM Z ?_;refine Mid.call (W1 H.toPr x.args hxa b.name) Z Z Z Z ?_;refine fM Z ?_;refine elG Z Z Z Z h1 Z Z ?_;refine fM Z ?_;refine caG Z Z (fun hg=>⟨_,rfl,z2k H.toPr b.ty hb.t,rfl⟩) Z Z ?_;refine fM Z ?_;refine elG Z Z Z Z h1 Z Z ?_;refine fM Z ?_;refine Run.cond Z Z (fun hc=>?_) (fun hc=>?_)
     ·have hc':zd7 x b=true:=hc;simp only [WV] at hC hlen;rw [if_pos hc'] at hC hlen;simp only [List.length_cons] at hlen;refine fR Z ?_;refine pu Z ?_;refine fM Z ?_;refine Mid.zg Z Z Z h1 Z Z ?_;refine fM Z ?_;refine pu Z ?_;refine pu Z ?_;refine fM Z ?_;refine apM zk.enc C [(⟨22,at_++[40]++b.name++[41]⟩:zk)] Z Z Z Z Z ?_ (h1:=by first |omega|(simp;omega)|(simp;done)) (h2:=by first |omega|(simp;omega)|(simp;done));refine fM rfl ?_;refine aL rfl rfl rfl rfl rfl ?_;refine fM rfl ?_;exact zn 5 rfl (ih (C++[⟨22,at_++[40]++b.name++[41]⟩]) (by rw [←hC];simp)) rfl rfl rfl
     ·have hc':¬ zd7 x b=true:=by rw [show zd7 x b=false from hc];simp
      simp only [WV] at hC;rw [if_neg hc'] at hC;refine fR Z ?_;refine aL Z Z Z Z Z ?_;refine fM Z ?_;exact zn 5 Z (ih C hC) Z Z Z
   ·rintro i a r B h1 hi hd hB ih;have ha:=hx.a a (zMG h1);have han:=ha.nm;have hlen:=congrArg List.length hB;simp only [List.length_append] at hlen;have hio:=zgl hyo.a a.name;refine fR Z ?_;refine lM Z Z Z ?_;refine fM Z ?_;refine Run.zm Z Z (by simp;omega) ?_;refine fR Z ?_;refine Mid.zg Z Z Z h1 Z Z ?_;refine fM Z ?_;refine Mid.call (W1 H.toPr y.args hya a.name) Z Z Z Z ?_;refine fM Z ?_;refine elG Z Z Z Z h1 Z Z ?_;refine fM Z ?_;refine caG Z Z (fun hg=>⟨_,rfl,qx H ((zV a.name y.args).getD Input.zero).ty a.ty hio.t ha.t,rfl⟩) Z Z ?_;refine fM Z ?_;refine Run.cond Z Z (fun hc=>?_) (fun hc=>?_)
    ·have hc':zdN y a=true:=by
      have h:=hc;rw [z2V] at h;exact h
     simp only [qA] at hB hlen;rw [if_pos hc'] at hB hlen;simp only [List.length_cons,List.cons_append] at hB hlen;refine fR Z ?_;refine pu Z ?_;refine fM Z ?_;refine Mid.zg Z Z Z h1 Z Z ?_;refine fM Z ?_;refine pu Z ?_;refine pu Z ?_;refine fM Z ?_;refine apM zk.enc B [(⟨22,at_++[40]++a.name++[41]⟩:zk)] Z Z Z Z Z ?_ (h1:=by first |omega|(simp;omega)|(simp;done)) (h2:=by first |omega|(simp;omega)|(simp;done));refine fM rfl ?_;refine aL rfl rfl rfl rfl rfl ?_;refine fM rfl ?_;exact zn 5 rfl (ih (B++[⟨22,at_++[40]++a.name++[41]⟩]) (by rw [←hB];simp)) rfl rfl rfl
    ·have hc':¬ zdN y a=true:=by
      have h:=hc;rw [z2V] at h;rw [show zdN y a=false from h];simp
     simp only [qA] at hB;rw [if_neg hc'] at hB;refine fR Z ?_;refine aL Z Z Z Z Z ?_;refine fM Z ?_;exact zn 5 Z (ih B hB) Z Z Z
  refine Run.cond Z Z (fun hs=>?_) (fun hs=>?_)
  ·have hs':¬ z83 ds y.ty x.ty=true:=by simpa using hs
   rw [if_neg hs'] at hT;refine fR Z ?_;refine apN zk.enc [(⟨10,at_⟩:zk)] Z Z Z ?_ (h1:=by first |omega|(simp;omega)|(simp;done)) (h2:=by first |omega|(simp;omega)|(simp;done));refine fM rfl ?_;refine YK 5 rfl (tail [⟨10,at_⟩] hT) rfl rfl rfl
  ·have hs':z83 ds y.ty x.ty=true:=by simpa using hs
   rw [if_pos hs'] at hT;refine fR Z ?_;refine YK 4 Z (tail [] hT) Z Z Z
theorem z6W (H:Pr13 P) (ds:List Def) (hD:Z8 ds) (t:Def) (ht:t.Ok) (hl:(z9p ds t).length<=4398046511104):z7 P 95 [yS ds,t.v] ⟨[],0⟩ {v:= .t (.lst ((z9p ds t).map zk.enc))}:=by
 have hil:=ht.il;unfold z9p at hl⊢;generalize hT:Y6 ds t [] t.implements=tot at hl;refine z7.run H.i95 H.mixed Z Z ?_;refine fR Z ?_;refine zD t.implements (fun i (B:List zk)=>{env:=[(2,.ptr 0 0),(3,.ptr 1 0),(5,.own 2 2 (List.map zk.enc (B))),(6,.t (.int .i64 i))],s:=⟨[(0,.cells [.t (.lst (ds.map Def.enc))]),(1,.cells [.t (.int .i64 t.kind),.t (.str t.name),.t (.lst (t.implements.map sE)),.t (.lst (t.zX.map Dir.enc)),.t (.lst (t.fields.map Field.enc)),.t (.lst (t.members.map zN.enc)),.t (.lst (t.ze.map Input.enc))]),(2,.arr (B).length)],3⟩}) (fun r i B=>B++Y6 ds t (t.implements.take i) r=tot) 2 [] Z (by simpa using hT) Z Z Z ?_ ?_
 ·rintro B hB
  obtain rfl:B=tot:=by rw [←hB];simp [Y6]
  refine fR Z ?_;refine lM Z Z Z ?_;refine fM Z ?_;refine Run.zj Z Z (by simp) ?_;refine fR Z ?_;refine Run.fin Z (z3.go ?_);exact .own Z
 ·rintro i n r B h1 hi hd hB ih
  have htk:t.implements.take i++[n]=t.implements.take (i+1):=by rw [List.take_add_one,h1];rfl
  have hB':B++((if z3p ds (t.implements.take i) n=0 then q6 ds t ((zf n ds).getD Def.zero).fields else [(⟨z3p ds (t.implements.take i) n,t.name⟩:zk)])++Y6 ds t (t.implements.take (i+1)) r)=tot:=by rw [←htk];exact hB
  have hlen:B.length+(if z3p ds (t.implements.take i) n=0 then q6 ds t ((zf n ds).getD Def.zero).fields else [(⟨z3p ds (t.implements.take i) n,t.name⟩:zk)]).length<=4398046511104:=by
   have:=congrArg List.length hB';simp only [List.length_append] at this;omega
  have htkl:(t.implements.take i).length<=140737488355328:=by simp;omega
  have hF:=z02 hD n;refine fR Z ?_;refine lM Z Z Z ?_;refine fM Z ?_;refine Run.zm Z Z (by simp;omega) ?_;refine fR Z ?_;refine Mid.zg Z Z Z h1 Z Z ?_;refine fM Z ?_;refine Mid.call (z3x H ds hD n 2 (by decide)) Z Z Z Z ?_;refine fM Z ?_;refine zfL Z Z Z Z Z ?_;refine fM Z ?_;refine elG Z Z Z Z h1 Z Z ?_;refine fM Z ?_;refine caG Z Z (fun hg=>⟨_,rfl,z4W H.toPr (t.implements.take i) htkl n,rfl⟩) Z Z ?_;refine fM Z ?_;refine Run.cond Z Z (fun h7=>?_) (fun h7=>?_)
  ·have e7:z3p ds (t.implements.take i) n=7:=by unfold z3p;rw [if_pos h7]
   rw [e7] at hB' hlen;simp at hB' hlen;refine fR Z ?_;refine Run.zm Z Z Z ?_;refine fR Z ?_;refine apM zk.enc B [(⟨7,t.name⟩:zk)] Z Z Z Z Z ?_ (h1:=by first |omega|(simp;omega)|(simp;done)) (h2:=by first |omega|(simp;omega)|(simp;done));refine fM rfl ?_;refine aL rfl rfl rfl rfl rfl ?_;refine fM rfl ?_;exact zn 3 rfl (ih (B++[⟨7,t.name⟩]) (by rw [←hB'];simp)) rfl rfl rfl
  ·have e7:z3p ds (t.implements.take i) n=yx ds n 2:=by unfold z3p;rw [if_neg (by rw [show (yx ds n 2==0&&decide (n∈t.implements.take i))=false from h7];simp)]
   rw [e7] at hB' hlen;refine fR Z ?_;refine Run.cond Z Z (fun he=>?_) (fun he=>?_)
   ·have he':¬ yx ds n 2=0:=by simpa using he
    rw [if_neg he'] at hB' hlen;simp at hB' hlen;refine fR Z ?_;refine apM zk.enc B [(⟨yx ds n 2,t.name⟩:zk)] Z Z Z Z Z ?_ (h1:=by first |omega|(simp;omega)|(simp;done)) (h2:=by first |omega|(simp;omega)|(simp;done));refine fM rfl ?_;refine aL rfl rfl rfl rfl rfl ?_;refine fM rfl ?_;exact zn 3 rfl (ih (B++[⟨yx ds n 2,t.name⟩]) (by rw [←hB'];simp)) rfl rfl rfl
   ·have he':yx ds n 2=0:=by simpa using he
    rw [if_pos he'] at hB' hlen;refine fR Z ?_;refine Mid.zg Z Z Z h1 Z Z ?_;refine fM Z ?_;refine Mid.call (yh H.toPr ds hD.l n) Z Z Z Z ?_;refine fM Z ?_;generalize hf:(zf n ds).getD Def.zero=f at hF hB' hlen;have hff:=hF.fl;generalize hG:q6 ds t f.fields=G at hB' hlen;refine zD f.fields (fun j (C:List zk)=>{env:=[(2,.ptr 0 0),(3,.ptr 1 0),(5,.own 2 2 (List.map zk.enc C)),(6,.t (.int .i64 i)),(8,.ptr 3 0),(10,.t (.int .i64 j))],s:=⟨[(0,.cells [.t (.lst (ds.map Def.enc))]),(1,.cells [.t (.int .i64 t.kind),.t (.str t.name),.t (.lst (t.implements.map sE)),.t (.lst (t.zX.map Dir.enc)),.t (.lst (t.fields.map Field.enc)),.t (.lst (t.members.map zN.enc)),.t (.lst (t.ze.map Input.enc))]),(2,.arr C.length),(3,.cells [.t (.int .i64 f.kind),.t (.str f.name),.t (.lst (f.implements.map sE)),.t (.lst (f.zX.map Dir.enc)),.t (.lst (f.fields.map Field.enc)),.t (.lst (f.members.map zN.enc)),.t (.lst (f.ze.map Input.enc))])],4⟩}) (fun r2 j C=>C++q6 ds t r2=B++G) 4 B Z (by rw [←hG]) Z Z Z ?_ ?_
    ·rintro C hC;simp only [q6,List.append_nil] at hC;subst hC;refine fR Z ?_;refine lM Z Z Z ?_;refine fM Z ?_;refine Run.zj Z Z (by simp) ?_;refine fR Z ?_;refine aL Z Z Z Z Z ?_;refine fM Z ?_;exact zn 3 Z (ih (B++G) (by rw [←hB'];simp)) Z Z Z
    ·rintro j x r2 C g1 gi gd hC ih2;have hx:=hF.f x (zMG g1);have hln2:=congrArg List.length hC;simp only [q6,List.length_append] at hln2;have hcall:=zag H ds hD t ht x hx (by omega);simp only [q6] at hC;generalize z6v ds t x=N at hC hln2 hcall;refine fR Z ?_;refine lM Z Z Z ?_;refine fM Z ?_;refine Run.zm Z Z (by simp;omega) ?_;refine fR Z ?_;refine Mid.zg Z Z Z g1 Z Z ?_;refine fM Z ?_;refine Mid.call (hcall) Z Z Z Z ?_;skip;refine apM zk.enc C N Z Z Z Z Z ?_ (h1:=by first |omega|(simp;omega)|(simp;done)) (h2:=by first |omega|(simp;omega)|(simp;done));refine fM rfl ?_;refine aL rfl rfl rfl rfl rfl ?_;refine fM rfl ?_;exact zn 4 rfl (ih2 (C++N) (by rw [←hC];simp)) rfl rfl rfl
theorem z9w (H:Pr13 P) (ds:List Def) (hD:Z8 ds) (t:Def) (ht:t.Ok) (hl:(unL ds t [] t.members).length<=4398046511104):z7 P 96 [yS ds,t.v] ⟨[],0⟩ {v:= .t (.lst ((unL ds t [] t.members).map zk.enc))}:=by
 have hml:=ht.ml;have htn:=ht.nm;generalize hT:unL ds t [] t.members=tot at hl;refine z7.run H.i96 H.mixed Z Z ?_;refine fR Z ?_;refine zD t.members (fun i (B:List zk)=>{env:=[(2,.ptr 0 0),(3,.ptr 1 0),(5,.own 2 2 (List.map zk.enc (B))),(6,.t (.int .i64 i))],s:=⟨[(0,.cells [.t (.lst (ds.map Def.enc))]),(1,.cells [.t (.int .i64 t.kind),.t (.str t.name),.t (.lst (t.implements.map sE)),.t (.lst (t.zX.map Dir.enc)),.t (.lst (t.fields.map Field.enc)),.t (.lst (t.members.map zN.enc)),.t (.lst (t.ze.map Input.enc))]),(2,.arr (B).length)],3⟩}) (fun r i B=>B++unL ds t (t.members.take i) r=tot) 2 [] Z (by simpa using hT) Z Z Z ?_ ?_
 ·rintro B hB
  obtain rfl:B=tot:=by rw [←hB];simp [unL]
  refine fR Z ?_;refine lM Z Z Z ?_;refine fM Z ?_;refine Run.zj Z Z (by simp) ?_;refine fR Z ?_;refine Run.fin Z (z3.go ?_);exact .own Z
 ·rintro i m r B h1 hi hd hB ih;have hm:=ht.m m (zMG h1);have hmn:=hm.nm
  have htk:t.members.take i++[m]=t.members.take (i+1):=by rw [List.take_add_one,h1];rfl
  simp only [unL,htk] at hB;have hlen:=congrArg List.length hB;simp only [List.length_append] at hlen
  have htkl:(t.members.take i).length<=140737488355328:=by simp;omega
  refine fR Z ?_;refine lM Z Z Z ?_;refine fM Z ?_;refine Run.zm Z Z (by simp;omega) ?_;refine fR Z ?_;refine Mid.zg Z Z Z h1 Z Z ?_;refine fM Z ?_;refine Mid.call (z3x H ds hD m.name 1 (by decide)) Z Z Z Z ?_;refine fM Z ?_;refine zfL Z Z Z Z Z ?_;refine fM Z ?_;refine caG Z Z (fun hg=>⟨_,rfl,z3E H.toPr ⟨0,[],[],[],[],t.members.take i,[]⟩ htkl m.name,rfl⟩) Z Z ?_;refine fM Z ?_;refine Run.cond Z Z (fun h7=>?_) (fun h7=>?_)
  ·have e7:unE ds (t.members.take i) m=7:=by unfold unE;rw [if_pos h7]
   rw [e7] at hB hlen;simp at hB hlen;refine fR Z ?_;refine Run.zm Z Z Z ?_;refine fR Z ?_;refine pu Z ?_;refine fM Z ?_;refine pu Z ?_;refine fM Z ?_;refine apM zk.enc B [(⟨7,t.name++[46]++m.name⟩:zk)] Z Z Z Z Z ?_ (h1:=by first |omega|(simp;omega)|(simp;done)) (h2:=by first |omega|(simp;omega)|(simp;done));refine fM rfl ?_;refine aL rfl rfl rfl rfl rfl ?_;refine fM rfl ?_;exact zn 3 rfl (ih (B++[⟨7,t.name++[46]++m.name⟩]) (by rw [←hB];simp)) rfl rfl rfl
  ·have e7:unE ds (t.members.take i) m=yx ds m.name 1:=by unfold unE;rw [if_neg (by rw [show (yx ds m.name 1==0&&wV (t.members.take i) m.name)=false from h7];simp)]
   rw [e7] at hB hlen;refine fR Z ?_;refine Run.cond Z Z (fun he=>?_) (fun he=>?_)
   ·have he':¬ yx ds m.name 1=0:=by simpa using he
    rw [if_neg he'] at hB hlen;simp at hB hlen;refine fR Z ?_;refine pu Z ?_;refine fM Z ?_;refine pu Z ?_;refine fM Z ?_;refine apM zk.enc B [(⟨yx ds m.name 1,t.name++[46]++m.name⟩:zk)] Z Z Z Z Z ?_ (h1:=by first |omega|(simp;omega)|(simp;done)) (h2:=by first |omega|(simp;omega)|(simp;done));refine fM rfl ?_;refine aL rfl rfl rfl rfl rfl ?_;refine fM rfl ?_;exact zn 3 rfl (ih (B++[⟨yx ds m.name 1,t.name++[46]++m.name⟩]) (by rw [←hB];simp)) rfl rfl rfl
   ·have he':yx ds m.name 1=0:=by simpa using he
    rw [if_pos he'] at hB hlen;refine fR Z ?_;refine aL Z Z Z Z Z ?_;refine fM Z ?_;exact zn 3 Z (ih B (by rw [←hB];simp)) Z Z Z
theorem z9q (H:Pr13 P) (ds:List Def) (hD:Z8 ds) (hl:(WS ds).length<=4398046511104):z7 P 64 [yS ds] ⟨[],0⟩ {v:= .t (.lst ((WS ds).map zk.enc))}:=by
 have hdl:=hD.l;unfold WS at hl⊢;generalize hT:W9 ds ds=tot at hl;refine z7.run H.i64 H.mixed Z Z ?_;refine fR Z ?_;refine zD ds (fun i (B:List zk)=>{env:=[(1,.ptr 0 0),(3,.own 1 2 (List.map zk.enc B)),(4,.t (.int .i64 i))],s:=⟨[(0,.cells [.t (.lst (ds.map Def.enc))]),(1,.arr B.length)],2⟩}) (fun r i B=>B++W9 ds r=tot) 1 [] Z (by simpa using hT) Z Z Z ?_ ?_
 ·rintro B hB
  obtain rfl:B=tot:=by rw [←hB];simp [W9]
  refine fR Z ?_;refine lM Z Z Z ?_;refine fM Z ?_;refine Run.zj Z Z (by simp) ?_;refine fR Z ?_;refine Run.fin Z (z3.go ?_);exact .own Z
 ·rintro i t r B h1 hi hd hB ih;have ht:=hD.d t (zMG h1);have hlen:=congrArg List.length hB;simp only [List.length_append] at hlen;refine fR Z ?_;refine lM Z Z Z ?_;refine fM Z ?_;refine Run.zm Z Z (by simp;omega) ?_;refine fR Z ?_;refine Mid.zg Z Z Z h1 Z Z ?_;refine fM Z ?_;refine Run.cond Z Z (fun hk=>?_) (fun hk=>?_)
  ·have hk':t.kind=1:=by simpa using hk
   simp only [W9] at hB hlen;rw [if_pos hk'] at hB hlen;simp only [List.length_append] at hlen;have hcall:=z6W H ds hD t ht (by omega);generalize z9p ds t=N at hB hlen hcall;refine fR Z ?_;refine Mid.zg Z Z Z h1 Z Z ?_;refine fM Z ?_;refine Mid.call (hcall) Z Z Z Z ?_;skip;refine apM zk.enc B N Z Z Z Z Z ?_ (h1:=by first |omega|(simp;omega)|(simp;done)) (h2:=by first |omega|(simp;omega)|(simp;done));refine fM rfl ?_;refine aL rfl rfl rfl rfl rfl ?_;refine fM rfl ?_;exact zn 2 rfl (ih (B++N) (by rw [←hB];simp)) rfl rfl rfl
  ·have hk':¬ t.kind=1:=by simpa using hk
   simp only [W9] at hB hlen;rw [if_neg hk'] at hB hlen;simp only [List.length_append] at hlen;refine fR Z ?_;refine Run.cond Z Z (fun hk3=>?_) (fun hk3=>?_)
   ·have hk3':t.kind=3:=by simpa using hk3
    rw [if_pos hk3'] at hB hlen;have hcall:=z9w H ds hD t ht (by omega);generalize unL ds t [] t.members=N at hB hlen hcall;refine fR Z ?_;refine Mid.zg Z Z Z h1 Z Z ?_;refine fM Z ?_;refine Mid.call (hcall) Z Z Z Z ?_;skip;refine apM zk.enc B N Z Z Z Z Z ?_ (h1:=by first |omega|(simp;omega)|(simp;done)) (h2:=by first |omega|(simp;omega)|(simp;done));refine fM rfl ?_;refine aL rfl rfl rfl rfl rfl ?_;refine fM rfl ?_;exact zn 2 rfl (ih (B++N) (by rw [←hB];simp)) rfl rfl rfl
   ·have hk3':¬ t.kind=3:=by simpa using hk3
    rw [if_neg hk3'] at hB;refine fR Z ?_;refine aL Z Z Z Z Z ?_;refine fM Z ?_;exact zn 2 Z (ih B (by rw [←hB];simp)) Z Z Z
end Go.GB.C11
namespace Go.GB
open Go.RowKit
def z1i:List Sh:=[.int .i64,.int .i64,.str,.num 0,.lst 16 [.str]]
def zbB:List Sh:= .str::z1i
def z3V:List Sh:=[.str,.lst 96 zbB]
def z8f:List Sh:=[.str,.lst 8 [.int .i64]]
def z1S:List Sh:=[.str]++z8f++[.bool]++z1i++[.lst 40 z3V]
def z8O:List Sh:=[.str,.lst 168 z1S]++z8f++[.lst 40 z3V]
def z6t:List Sh:=[.str,.lst 40 z3V]
def zdU:List Sh:=[.int .i64,.str,.lst 16 [.str],.lst 40 z3V,.lst 104 z8O,.lst 40 z6t,.lst 168 z1S]
def zdX:List Sh:=[.lst 144 zdU]
def z5p:List Sh:=[.str,.str,.str,.lst 96 zbB]++z8f++[.str,.int .i64,.num 1]
def YA:Nat->T->Prop
 |0,x=>∃l:List Val,x= .lst (l.map Val.enc)/\l.length*80<=B47/\∀v∈l,v.Ok
 |_,x=>∃l:List za,x= .lst (l.map za.enc)/\l.length*160<=B47/\∀p∈l,p.Ok/\p.on.length<=maxLen
theorem ZN:reachBytes<=140737488355328:=by decide
theorem Q8 {Y:Nat->T->Prop} {x:T} {b:Nat} (h:(Sh.lst b [.str]).ok Y x):∃l:List Str,x= .lst (l.map sE)/\l.length*b<=reachBytes/\∀s∈l,s.length<=reachBytes:=by
 obtain ⟨xs,rfl,h1,_,h2⟩:=h
 obtain ⟨l,rfl,h3⟩:=yD (f:=sE) (Q:=fun s=>s.length<=reachBytes) xs fun c hc=>by
  obtain ⟨x,r,rfl,⟨s,rfl,hs⟩,h⟩:=Sh.zC (h2 c hc);obtain rfl:=Sh.yY h;exact ⟨s,rfl,hs⟩
 exact ⟨l,rfl,by simpa using h1,h3⟩
theorem zdv {Y:Nat->T->Prop} {x:T} {b:Nat} (h:(Sh.lst b [.int .i64]).ok Y x):∃l:List Int,x= .lst (l.map nE)/\l.length*b<=reachBytes:=by
 obtain ⟨xs,rfl,h1,_,h2⟩:=h
 obtain ⟨l,rfl,h3⟩:=yD (f:=nE) (Q:=fun _=>True) xs fun c hc=>by
  obtain ⟨x,r,rfl,⟨s,rfl,hs⟩,h⟩:=Sh.zC (h2 c hc);obtain rfl:=Sh.yY h;exact ⟨s,rfl,trivial⟩
 exact ⟨l,rfl,by simpa using h1⟩
theorem wy {α:Type} {f:α->List T} {Q:α->Prop} {Y:Nat->T->Prop} {x:T} {b:Nat} {sh:List Sh} (hf:∀c,Sh.oks Y sh c->∃a,c=f a/\Q a) (h:(Sh.lst b sh).ok Y x):∃l:List α,x= .lst (l.map f)/\l.length*b<=reachBytes/\l.length<=maxLen/\∀a∈l,Q a:=by
 obtain ⟨xs,rfl,h1,h0,h2⟩:=h;obtain ⟨l,rfl,h3⟩:=yD (f:=f) (Q:=Q) xs fun c hc=>hf c (h2 c hc)
 exact ⟨l,rfl,by simpa using h1,by simpa using h0,h3⟩
theorem z7U {r:List Sh} {c:List T} (h:Sh.oks YA (z1i++r) c):∃(v:Val) (c':List T),c=v.cs++c'/\v.Ok/\Sh.oks YA r c':=by
 obtain ⟨x1,c,rfl,⟨k,rfl,_⟩,g1⟩:=Sh.zC h;obtain ⟨x2,c,rfl,⟨i,rfl,_⟩,g2⟩:=Sh.zC g1;obtain ⟨x3,c,rfl,⟨t,rfl,ht⟩,g3⟩:=Sh.zC g2;obtain ⟨x4,c,rfl,⟨its,rfl,hi1,hi2⟩,g4⟩:=Sh.zC g3;obtain ⟨x5,c,rfl,hk,g5⟩:=Sh.zC g4;obtain ⟨ks,rfl,hk1,hk2⟩:=Q8 hk;have:=ZN
 refine ⟨.mk k i t its ks,c,rfl,.mk hi1 (by unfold B47;omega) hi2 (by omega) (fun x hx=>by have:=hk2 x hx;omega),g5⟩
theorem zd2 {c:List T} (h:Sh.oks YA z1i c):∃v:Val,c=v.enc/\v.Ok:=by
 obtain ⟨v,c',rfl,h1,h2⟩:=z7U (r:=[]) (by simpa using h);obtain rfl:=Sh.yY h2
 exact ⟨v,by rw [Val.zw,List.append_nil],h1⟩
theorem zcr {c:List T} (h:Sh.oks YA zbB c):∃a:Arg,c=a.enc/\a.Ok:=by
 obtain ⟨x,c,rfl,⟨n,rfl,_⟩,g1⟩:=Sh.zC h;obtain ⟨v,c',rfl,h1,h2⟩:=z7U (r:=[]) (by simpa using g1);obtain rfl:=Sh.yY h2
 exact ⟨⟨n,v⟩,by simp [Arg.enc,Val.cs],h1⟩
theorem zec {c:List T} (h:Sh.oks YA z3V c):∃a:Dir,c=a.enc/\a.Ok:=by
 have:=ZN;obtain ⟨x,c,rfl,⟨n,rfl,hn⟩,g1⟩:=Sh.zC h;obtain ⟨x,c,rfl,hx,g2⟩:=Sh.zC g1;obtain rfl:=Sh.yY g2;obtain ⟨l,rfl,h1,_,h2⟩:=wy (fun c hc=>zcr hc) hx
 exact ⟨⟨n,l⟩,rfl,⟨by show l.length<=_;omega,h2,by show n.length<=_;omega⟩⟩
theorem z1L {b:Nat} (hb:0<b) {x:T} (h:(Sh.lst b z3V).ok YA x):∃l:List Dir,x= .lst (l.map Dir.enc)/\l.length<=140737488355328/\∀d∈l,d.Ok:=by
 have:=ZN;obtain ⟨l,rfl,h1,_,h2⟩:=wy (fun c hc=>zec hc) h;refine ⟨l,rfl,?_,h2⟩;have:l.length<=l.length*b:=Nat.le_mul_of_pos_right _ hb;omega
theorem z7R {r:List Sh} {c:List T} (h:Sh.oks YA (z8f++r) c):∃(v:Ref) (c':List T),c= .str v.name:: .lst (v.zr.map nE)::c'/\v.Ok/\Sh.oks YA r c':=by
 have:=ZN;obtain ⟨x1,c,rfl,⟨n,rfl,hn⟩,g1⟩:=Sh.zC h;obtain ⟨x5,c,rfl,hk,g2⟩:=Sh.zC g1;obtain ⟨ks,rfl,hk1⟩:=zdv hk
 exact ⟨⟨n,ks⟩,c,rfl,⟨by show ks.length*8<=_;omega,by show n.length<=_;omega⟩,g2⟩
theorem zbm {c:List T} (h:Sh.oks YA z1S c):∃a:Input,c=a.enc/\a.Ok:=by
 have:=ZN;obtain ⟨x,c,rfl,⟨n,rfl,hn⟩,g1⟩:=Sh.zC h;obtain ⟨t,c,rfl,ht,g2⟩:=z7R g1;obtain ⟨x,c,rfl,⟨b,rfl⟩,g3⟩:=Sh.zC g2;obtain ⟨v,c,rfl,hv,g4⟩:=z7U g3;obtain ⟨x,c,rfl,hx,g5⟩:=Sh.zC g4;obtain rfl:=Sh.yY g5;obtain ⟨l,rfl,h1,h2⟩:=z1L (by decide) hx
 exact ⟨⟨n,t,b,v,l⟩,by simp [Input.enc,Val.cs],⟨ht,hv,h1,h2,by show n.length<=_;omega⟩⟩
theorem z4i {x:T} (h:(Sh.lst 168 z1S).ok YA x):∃l:List Input,x= .lst (l.map Input.enc)/\l.length<=140737488355328/\∀d∈l,d.Ok:=by
 have:=ZN;obtain ⟨l,rfl,h1,_,h2⟩:=wy (fun c hc=>zbm hc) h
 exact ⟨l,rfl,by omega,h2⟩
theorem zcj {c:List T} (h:Sh.oks YA z8O c):∃a:Field,c=a.enc/\a.Ok:=by
 have:=ZN;obtain ⟨x,c,rfl,⟨n,rfl,hn⟩,g1⟩:=Sh.zC h;obtain ⟨x,c,rfl,hx,g2⟩:=Sh.zC g1;obtain ⟨ins,rfl,i1,i2⟩:=z4i hx;obtain ⟨t,c,rfl,ht,g3⟩:=z7R g2;obtain ⟨x,c,rfl,hx,g4⟩:=Sh.zC g3;obtain rfl:=Sh.yY g4;obtain ⟨l,rfl,h1,h2⟩:=z1L (by decide) hx
 exact ⟨⟨n,ins,t,l⟩,rfl,⟨i1,i2,ht,h1,h2,by show n.length<=_;omega⟩⟩
theorem z9M {c:List T} (h:Sh.oks YA z6t c):∃a:zN,c=a.enc/\a.Ok:=by
 have:=ZN;obtain ⟨x,c,rfl,⟨n,rfl,hn⟩,g1⟩:=Sh.zC h;obtain ⟨x,c,rfl,hx,g2⟩:=Sh.zC g1;obtain rfl:=Sh.yY g2;obtain ⟨l,rfl,h1,h2⟩:=z1L (by decide) hx
 exact ⟨⟨n,l⟩,rfl,⟨h1,h2,by show n.length<=_;omega⟩⟩
theorem zf9 {c:List T} (h:Sh.oks YA zdU c):∃a:Def,c=a.enc/\a.Ok:=by
 have:=ZN;obtain ⟨x,c,rfl,⟨k,rfl,_⟩,g1⟩:=Sh.zC h;obtain ⟨x,c,rfl,⟨n,rfl,hn⟩,g2⟩:=Sh.zC g1;obtain ⟨x,c,rfl,hx,g3⟩:=Sh.zC g2;obtain ⟨im,rfl,a1,a2⟩:=Q8 hx;obtain ⟨x,c,rfl,hx,g4⟩:=Sh.zC g3;obtain ⟨ds,rfl,b1,b2⟩:=z1L (by decide) hx;obtain ⟨x,c,rfl,hx,g5⟩:=Sh.zC g4;obtain ⟨fs,rfl,c1,_,c2⟩:=wy (fun c hc=>zcj hc) hx;obtain ⟨x,c,rfl,hx,g6⟩:=Sh.zC g5;obtain ⟨ms,rfl,d1,_,d2⟩:=wy (fun c hc=>z9M hc) hx;obtain ⟨x,c,rfl,hx,g7⟩:=Sh.zC g6;obtain ⟨is,rfl,e1,e2⟩:=z4i hx;obtain rfl:=Sh.yY g7
 exact ⟨⟨k,n,im,ds,fs,ms,is⟩,rfl,⟨by show im.length<=_;omega,b1,b2,by show fs.length<=_;omega,c2,by show ms.length<=_;omega,d2,e1,e2,by show n.length<=_;omega,fun y hy=>by have:=a2 y hy;omega⟩⟩
theorem zfc {r:List Sh} {c:List T} (h:Sh.oks YA (zdX++r) c):∃(l:List Def) (c':List T),c= .lst (l.map Def.enc)::c'/\Z8 l/\Sh.oks YA r c':=by
 have:=ZN;obtain ⟨x,c,rfl,hx,g1⟩:=Sh.zC h;obtain ⟨l,rfl,h1,_,h2⟩:=wy (fun c hc=>zf9 hc) hx
 exact ⟨l,c,rfl,⟨by omega,h2,by omega⟩,g1⟩
theorem zcU {c:List T} (h:Sh.oks YA z5p c):∃p:za,c=p.enc/\p.Ok/\p.on.length<=maxLen:=by
 have:=ZN;obtain ⟨x,c,rfl,⟨k,rfl,_⟩,g1⟩:=Sh.zC h;obtain ⟨x,c,rfl,⟨o,rfl,ho⟩,g2⟩:=Sh.zC g1;obtain ⟨x,c,rfl,⟨n,rfl,_⟩,g3⟩:=Sh.zC g2;obtain ⟨x,c,rfl,hx,g4⟩:=Sh.zC g3;obtain ⟨as,rfl,a1,_,a2⟩:=wy (fun c hc=>zcr hc) hx;obtain ⟨t,c,rfl,ht,g5⟩:=z7R g4;obtain ⟨x,c,rfl,⟨lb,rfl,_⟩,g6⟩:=Sh.zC g5;obtain ⟨x,c,rfl,⟨i,rfl,_⟩,g7⟩:=Sh.zC g6;obtain ⟨x,c,rfl,⟨ps,rfl,p1,p2⟩,g8⟩:=Sh.zC g7;obtain rfl:=Sh.yY g8
 exact ⟨.mk k o n as t lb i ps,by rw [za.zw];rfl,.mk (by unfold B47;omega) a2 ht p1 (fun x hx=>(p2 x hx).1),Nat.le_trans ho (by decide)⟩
def spV (vt:TypeId) (e:TypeId):Option Nat:=if e=vt then some 0 else none
def spA (vt pt:TypeId) (e:TypeId):Option Nat:=if e=vt then some 0 else if e=pt then some 1 else none
theorem zcs {P:Program} {vt:TypeId} (hb:P.bytesOf vt=80) (hs:z0v P (spV vt) 6 vt=some z1i):∀(n:Nat) (c:List T),WT P n vt c->∃v:Val,c=v.enc/\v.Ok:=by
 intro n
 induction n using Nat.strongRecOn with
 |_ n ih=>
  intro c h;refine zd2 (Q3 (Y:=YA) n 6 vt z1i c (fun e i k xs hk he hr hl hc=>?_) hs h);unfold spV at he;split at he
  ·rename_i e1;subst e1;simp only [Option.some.injEq] at he;subst he;obtain ⟨l,rfl,h3⟩:=yD (f:=Val.enc) (Q:=Val.Ok) xs fun c hcm=>ih k hk c (hc c hcm);have:=ZN;rw [hb] at hr
   exact ⟨l,rfl,by unfold B47;simp at hr;omega,h3⟩
  ·cases he
theorem zdp {P:Program} {vt pt:TypeId} (hb:P.bytesOf vt=80) (hs:z0v P (spV vt) 6 vt=some z1i) (hbp:P.bytesOf pt=160) (hsp:z0v P (spA vt pt) 6 pt=some z5p):∀(n:Nat) (c:List T),WT P n pt c->∃p:za,c=p.enc/\p.Ok/\p.on.length<=maxLen:=by
 have hv:=zcs hb hs;intro n
 induction n using Nat.strongRecOn with
 |_ n ih=>
  intro c h;refine zcU (Q3 (Y:=YA) n 6 pt z5p c (fun e i k xs hk he hr hl hc=>?_) hsp h);have:=ZN;unfold spA at he;split at he
  ·rename_i e1;subst e1;simp only [Option.some.injEq] at he;subst he;obtain ⟨l,rfl,h3⟩:=yD (f:=Val.enc) (Q:=Val.Ok) xs fun c hcm=>hv k c (hc c hcm);rw [hb] at hr
   exact ⟨l,rfl,by unfold B47;simp at hr;omega,h3⟩
  ·split at he
   ·rename_i _ e1;subst e1;simp only [Option.some.injEq] at he;subst he;obtain ⟨l,rfl,h3⟩:=yD (f:=za.enc) (Q:=fun p=>p.Ok/\p.on.length<=maxLen) xs fun c hcm=>ih k hk c (hc c hcm);rw [hbp] at hr
    exact ⟨l,rfl,by unfold B47;simp at hr;omega,h3⟩
   ·cases he
theorem zgv {P:Program} {vt pt:TypeId} (hb:P.bytesOf vt=80) (hs:z0v P (spV vt) 6 vt=some z1i) (hbp:P.bytesOf pt=160) (hsp:z0v P (spA vt pt) 6 pt=some z5p):
  ∀e i n xs,spA vt pt e=some i->xs.length*P.bytesOf e<=reachBytes->xs.length<=maxLen->(∀c∈xs,WT P n e c)->YA i (.lst xs):=by
 have hv:=zcs hb hs;have hp:=zdp hb hs hbp hsp;intro e i k xs he hr hl hc;have:=ZN;unfold spA at he;split at he
 ·rename_i e1;subst e1;simp only [Option.some.injEq] at he;subst he;obtain ⟨l,rfl,h3⟩:=yD (f:=Val.enc) (Q:=Val.Ok) xs fun c hcm=>hv k c (hc c hcm);rw [hb] at hr
  exact ⟨l,rfl,by unfold B47;simp at hr;omega,h3⟩
 ·split at he
  ·rename_i _ e1;subst e1;simp only [Option.some.injEq] at he;subst he;obtain ⟨l,rfl,h3⟩:=yD (f:=za.enc) (Q:=fun p=>p.Ok/\p.on.length<=maxLen) xs fun c hcm=>hp k c (hc c hcm);rw [hbp] at hr
   exact ⟨l,rfl,by unfold B47;simp at hr;omega,h3⟩
  ·cases he
end Go.GB
namespace Go.GB.C18
open Go.GB Go.GB.C11
structure zaf (P:Program):Prop extends Pr13 P where
 i144:zd P 144=some (n144,c144.bare,r144)
 i147:zd P 147=some (n147,c147.bare,r147)
 i31:zd P 31=some (n31,c31.bare,r31)
 i70:zd P 70=some (n70,c70.bare,r70)
 i155:zd P 155=some (n155,c155.bare,r155)
 i55:zd P 55=some (n55,c55.bare,r55)
 i76:zd P 76=some (n76,c76.bare,r76)
 i77:zd P 77=some (n77,c77.bare,r77)
 i78:zd P 78=some (n78,c78.bare,r78)
variable {P:Program}
def z0J (P:Program) (v:Val):Prop:=z7 P 147 [v.v] ⟨[],0⟩ {v:=v.v}
theorem z4J (H:zaf P) (l:List Val) (hl:l.length*80<=140737488355328) (hrec:∀x,x∈l->z0J P x):z7 P 155 [.t (.lst (l.map Val.enc))] ⟨[],0⟩ {v:= .t (.lst (l.map Val.enc))}:=by
 refine z7.run H.i155 H.mixed Z Z ?_;refine fR Z ?_;refine zD l (fun i (B:List Val)=>{env:=[(0,.t (.lst (l.map Val.enc))),(3,.own 0 5 (B.map Val.enc)),(4,.t (.int .i64 i))],s:=⟨[(0,.arr B.length)],1⟩}) (fun r i B=>B.length=i/\B++r=l) 0 [] Z ⟨rfl,rfl⟩ Z Z Z ?_ ?_
 ·rintro B ⟨hBl,hB⟩
  have e:B=l:=by rw [←hB];simp
  refine fR Z ?_;refine lM Z Z Z ?_;refine fM Z ?_;refine Run.zj Z Z (by simp) ?_;refine fR Z ?_;refine Run.fin Z (z3.go ?_);exact .own (by rw [e])
 ·rintro i x r B h1 hi hd ⟨hBl,hB⟩ ih;have hBl':B.length=i:=hBl;have hc:=hrec x (zMG h1);unfold z0J at hc;refine fR Z ?_;refine lM Z Z Z ?_;refine fM Z ?_;refine Run.zm Z Z (by simp;omega) ?_;refine fR Z ?_;refine Mid.Zl (Val.zw x) Z Z Z h1 Z Z ?_;refine fM Z ?_;refine Mid.call (hc) Z Z Z Z ?_;refine fM Z ?_;refine apM Val.enc B [x] Z (congrArg (fun c=>some (T.lst [c])) (Val.zw x).symm) Z Z Z ?_ (hl:=fun x=>(congrArg List.length (Val.zw x)).trans Z);refine fM Z ?_;refine aL Z Z Z Z Z ?_;refine fM Z ?_;exact zn 1 Z (ih (B++[x]) ⟨by simp;omega,by rw [←hB];simp⟩) rfl rfl rfl
theorem z7q (H:zaf P) (v:Val) (hv:v.Ok) (hrec:∀x,x∈v.items->z0J P x):z0J P v:=by
 have hil:=hv.il;have hkl:=hv.kl;unfold z0J;refine z7.run H.i147 H.mixed Z Z ?_;refine fR Z ?_;refine Mid.call (z4J H v.items hil hrec) Z Z Z Z ?_;refine fM Z ?_;refine apN sE v.keys Z Z Z ?_ (h1:=by first |omega|(simp;omega)|(simp;done)) (h2:=by first |omega|(simp;omega)|(simp;done));refine fM rfl ?_;refine Run.fin rfl (z3.go ?_);exact .agg (.cons (.t rfl) (.cons (.t rfl) (.cons (.t rfl) (.cons (.t rfl) (.cons (.own rfl) .nil)))))
theorem z4r (H:zaf P):∀(k:Nat) (v:Val),SizeOf.sizeOf v<=k->v.Ok->z0J P v
 |0,v,h,_=>by cases v;simp at h
 |k+1,v,h,hv=>z7q H v hv fun x hx=>z4r H k x (by have:=Val.yE v hx;omega) (hv.it x hx)
theorem zc4 (H:zaf P) (v:Val) (hv:v.Ok):z7 P 147 [v.v] ⟨[],0⟩ {v:=v.v}:=z4r H _ v (Nat.le_refl _) hv
theorem zbr {m:Nat} {s:S}:LeR m s (.agg [.t (.int .i64 0),.t (.int .i64 0),.t (.str []),.zI,.zI]) Val.zero.v:= .agg (.cons (.t rfl) (.cons (.t rfl) (.cons (.t rfl) (.cons (.nil rfl) (.cons (.nil rfl) .nil)))))
def z0K (k:Str):List Str->Option Nat
 |[]=>none
 |x::r=>if x=k then some 0 else (z0K k r).map (· +1)
theorem z9n (k:Str):∀(l:List Str) (i:Int),Zc k l i=match z0K k l with|some j=>i+j|none=>-1
 |[],i=>rfl
 |x::r,i=>by
  simp only [Zc,z0K];by_cases h:x=k
  ·subst h;simp
  ·have h':¬ (k==x)=true:=by simp [Ne.symm h]
   rw [if_neg h',if_neg h,z9n k r (i+1)]
   cases z0K k r with
   |none=>rfl
   |some j=>show i+1+(j:Int)=i+((j+1:Nat):Int);omega
def Wd (v:Val) (k:Str):Option Val:=if v.kind=6 then match z0K k v.keys with|some j=>v.items[j]?|none=>none else none
theorem z8Z {v:Val} (hv:v.Ok) {k:Str} {x:Val} (h:Wd v k=some x):x.Ok:=by
 unfold Wd at h;split at h
 ·split at h
  ·exact hv.it x (zMG h)
  ·cases h
 ·cases h
theorem z4R (H:zaf P) (v:Val) (hv:v.Ok) (k:Str):z7 P 144 [v.v,.t (.str k)] ⟨[],0⟩ {v:= .tup [((Wd v k).getD Val.zero).v,.t (.bool (Wd v k).isSome)]}:=by
 have hkl:=hv.kl;have hil:=hv.il;refine z7.run H.i144 H.mixed Z Z ?_;refine fR Z ?_;by_cases hk:v.kind=6
 ·have hg:Wd v k=match z0K k v.keys with|some j=>v.items[j]?|none=>none:=by unfold Wd;rw [if_pos hk]
  refine Run.zj Z Z (by simp [hk]) ?_;refine fR Z ?_
  refine zD v.keys (fun i (_:Unit)=>{env:=[(1,.t (.str k)),(2,.ptr 0 0),(4,.ptr 1 0),(6,.t (.int .i64 i))],s:=⟨[(0,(.cells [.t (.int .i64 v.kind),.t (.int .i64 v.int),.t (.str v.text),.t (.lst (v.items.map Val.enc)),.t (.lst (v.keys.map sE))])),(1,.cells [.t (.int .i64 0),.t (.int .i64 0),.t (.str []),.zI,.zI])],2⟩}) (fun r i _=>z0K k v.keys=(z0K k r).map (· +i)) 2 () Z (by cases z0K k v.keys<;>rfl) Z Z Z ?_ ?_
  ·rintro _ hinv;rw [hg,hinv];refine fR Z ?_;refine lM Z Z Z ?_;refine fM Z ?_;refine Run.zj Z Z (by simp) ?_;refine fR Z ?_;refine Run.fin Z (z3.go ?_);exact .wM zbr (.t Z)
  ·rintro i x r _ h1 hi hd hinv ih;refine fR Z ?_;refine lM Z Z Z ?_;refine fM Z ?_;refine Run.zm Z Z (by simp;omega) ?_;refine fR Z ?_;refine Mid.zg Z Z Z h1 Z Z ?_;refine fM Z ?_;refine Run.cond Z Z (fun hc=>?_) (fun hc=>?_)
   ·have hx:x=k:=by simpa using hc
    have hj:z0K k v.keys=some i:=by rw [hinv];simp [z0K,hx]
    rw [hg,hj];refine fR Z ?_;refine lM Z Z Z ?_;refine fM Z ?_;by_cases hlt:i<v.items.length
    ·obtain ⟨y,hy⟩:∃y,v.items[i]?=some y:=⟨v.items[i],by simp [hlt]⟩
     refine Run.zj Z Z (by simp;omega) ?_;simp only [hy,Option.getD_some,Option.isSome_some];refine fR Z ?_;refine Mid.Zl (Val.zw y) Z Z Z hy Z Z ?_;refine fM Z ?_;refine Mid.call (zc4 H y (hv.it y (zMG hy))) Z Z Z Z ?_;refine fM Z ?_;refine Run.fin Z (z3.go ?_);exact .wM (.le (.same Z)) (.t Z)
    ·have hy:v.items[i]?=none:=List.getElem?_eq_none (by omega);refine Run.zm Z Z (by simp;omega) ?_;simp only [hy,Option.getD_none,Option.isSome_none];refine fR Z ?_;refine Run.fin Z (z3.go ?_);exact .wM zbr (.t Z)
   ·have hx:¬ x=k:=by simpa using hc
    refine fR Z ?_;refine aL Z Z Z Z Z ?_;refine fM Z ?_
    exact zn 2 Z (ih () (by rw [hinv];simp only [z0K,if_neg hx];cases z0K k r with|none=>rfl|some j=>simp;omega)) Z Z Z
 ·have hg:Wd v k=none:=by unfold Wd;rw [if_neg hk]
  rw [hg];refine Run.zm Z Z (by simp [hk]) ?_;refine fR Z ?_;refine Run.fin Z (z3.go ?_);exact .wM zbr (.t Z)
end Go.GB.C18
namespace Go.GB.C29
open Go.GB Go.GB.C11 Go.GB.C18
structure PrW (P:Program):Prop where
 p18:zaf P
 mixed:P.follows .mixedOrders=true
 i36:zd P 36=some (n36,c36.bare,r36)
 i65:zd P 65=some (n65,c65.bare,r65)
 i97:zd P 97=some (n97,c97.bare,r97)
 i125:zd P 125=some (n125,c125.bare,r125)
 i127:zd P 127=some (n127,c127.bare,r127)
 i137:zd P 137=some (n137,c137.bare,r137)
 i138:zd P 138=some (n138,c138.bare,r138)
 i145:zd P 145=some (n145,c145.bare,r145)
 i148:zd P 148=some (n148,c148.bare,r148)
 i150:zd P 150=some (n150,c150.bare,r150)
 i151:zd P 151=some (n151,c151.bare,r151)
 i152:zd P 152=some (n152,c152.bare,r152)
 i153:zd P 153=some (n153,c153.bare,r153)
 i154:zd P 154=some (n154,c154.bare,r154)
 i156:zd P 156=some (n156,c156.bare,r156)
 i157:zd P 157=some (n157,c157.bare,r157)
 i158:zd P 158=some (n158,c158.bare,r158)
 i159:zd P 159=some (n159,c159.bare,r159)
section
variable {P:Program} {n m:Nat} {R:St->Prop} {draw:Bool} {all:List AO} {after:List (List Nat)} {live:List Nat} {k:List It} {b:Nat} {fl:List (Bool×Bool)} {ops:List AO} {st st':St} {d:Option Nat}
end
variable {P:Program}
def z6M (n:Int):Str:=[UInt8.ofNat (IntKind.u8.wrap (IntKind.i64.wrap (48 - n.tmod 10))).toNat]
def wm:Nat->Int->Str
 |0,_=>[]
 |k+1,n=>if n>-10 then z6M n else wm k (IntKind.i64.wrap (n.tdiv 10))++z6M n
def z5d (n:Int):Str:=if n<0 then [45]++wm (n.natAbs+1) n else wm (n.natAbs+1+9223372036854775808) (IntKind.i64.wrap (0 - n))
theorem zch {n:Int} (hn:n<=-10):n.tdiv 10=-((-n)/10):=by
 have:=Int.neg_tdiv (-n) 10;rw [Int.neg_neg] at this;rw [this,Int.tdiv_eq_ediv_of_nonneg (by omega)]
theorem zbp (x:Int):-9223372036854775808<=IntKind.i64.wrap x/\IntKind.i64.wrap x<=9223372036854775807:=by rw [IntKind.wrap_i64];omega
theorem z6F:∀(k:Nat) (n:Int) (j:Nat),-9223372036854775808<=n->n.natAbs<10 ^ (j+1)->(wm k n).length<=j+1
 |0,n,j,_,_=>by simp [wm]
 |k+1,n,j,h1,h2=>by
  simp only [wm];split
  ·simp [z6M]
  ·rename_i h
   have hn:n<=-10:=by omega
   have e:=zch hn
   cases j with
   |zero=>simp at h2;omega
   |succ j=>
    rw [wrap64 (by omega) (by omega)]
    have h3:n.natAbs<10*10 ^ (j+1):=by rw [Nat.pow_succ] at h2;omega
    have:=z6F k (n.tdiv 10) j (by omega) (by rw [e];generalize 10 ^ (j+1)=M at*;omega);simp [z6M];omega
theorem z8r {k:Nat} {n:Int}:(wm k (IntKind.i64.wrap n)).length<=20:=by
 have:=zbp n;exact z6F k _ 19 (by omega) (by simp only [Nat.reduceAdd,Nat.reducePow];omega)
theorem z4I {k:Nat} {n:Int}:(wm k n).length<=21:=by
 cases k with
 |zero=>simp [wm]
 |succ k=>
  simp only [wm];split
  ·simp [z6M]
  ·have:=z8r (k:=k) (n:=n.tdiv 10);simp [z6M];omega
theorem z0G (H:PrW P):∀(k:Nat) (n:Int),n.natAbs<k->z7 P 159 [.t (.int .i64 n)] ⟨[],0⟩ {v:= .t (.str (wm k n))}
 |0,n,h=>by omega
 |k+1,n,h=>by
  refine z7.run H.i159 H.mixed Z Z ?_;refine fR Z ?_;refine pu Z ?_;refine p0 Z ?_;refine fM Z ?_;refine p0 Z ?_;refine fM Z ?_;refine Run.cond Z Z (fun h=>?_) (fun h=>?_)
  ·have h':n>-10:=by simpa using h
   have hR:wm (k+1) n=z6M n:=by simp only [wm];rw [if_pos h']
   refine fR Z ?_;refine Run.fin Z (z3.go ?_);exact .t (by rw [hR];rfl)
  ·have h':¬ n>-10:=by simpa using h
   have hR:wm (k+1) n=wm k (IntKind.i64.wrap (n.tdiv 10))++z6M n:=by simp only [wm];rw [if_neg h']
   have e:=zch (n:=n) (by omega);have hwr:=zbp (n.tdiv 10)
   have hrec:=z0G H k (IntKind.i64.wrap (n.tdiv 10)) (by
    by_cases hb:-9223372036854775808<=n
    ·rw [wrap64 (by omega) (by omega)];omega
    ·omega)
   have hlen:=z8r (k:=k) (n:=n.tdiv 10);refine fR Z ?_;refine pu Z ?_;refine Mid.call (hrec) Z Z Z Z ?_;refine fM Z ?_;refine pu Z ?_;refine fM Z ?_;refine Run.fin Z (z3.go ?_);exact .t (by rw [hR];rfl)
theorem zeW (H:PrW P) (n:Int):z7 P 156 [.t (.int .i64 n)] ⟨[],0⟩ {v:= .t (.str (z5d n))}:=by
 have hlen:=z4I (k:=n.natAbs+1) (n:=n)
 have hw:(IntKind.i64.wrap (0 - n)).natAbs<n.natAbs+1+9223372036854775808:=by have:=zbp (0 - n);omega
 refine z7.run H.i156 H.mixed Z Z ?_;refine fR Z ?_;refine Run.cond Z Z (fun h=>?_) (fun h=>?_)
 ·have h':n<0:=by simpa using h
  have hR:z5d n=[45]++wm (n.natAbs+1) n:=by unfold z5d;rw [if_pos h']
  refine fR Z ?_;refine Mid.call (z0G H (n.natAbs+1) n (by omega)) Z Z Z Z ?_;refine pu Z ?_;refine fM Z ?_;refine Run.fin Z (z3.go ?_);exact .t (by rw [hR])
 ·have h':¬ n<0:=by simpa using h
  have hR:z5d n=wm (n.natAbs+1+9223372036854775808) (IntKind.i64.wrap (0 - n)):=by unfold z5d;rw [if_neg h']
  refine fR Z ?_;refine Mid.call (z0G H (n.natAbs+1+9223372036854775808) (IntKind.i64.wrap (0 - n)) hw) Z Z Z Z ?_;refine fM Z ?_;refine Run.fin Z (z3.go ?_);exact .t (by rw [hR])
theorem zbi (n:Int):(z5d n).length<=22:=by
 unfold z5d;split
 ·have:=z4I (k:=n.natAbs+1) (n:=n);simp;omega
 ·have:=z4I (k:=n.natAbs+1+9223372036854775808) (n:=IntKind.i64.wrap (0 - n));omega
def ZM (e er:Int):Int:=if er=0 then e else er
def wL (l c er:Int):Int:=if IntKind.i64.wrap (c+1)>4096 then ZM 4 (if l>24 then ZM 5 er else er) else (if l>24 then ZM 5 er else er)
theorem Yh (H:PrW P) (ds:List Def) (lit:Bool) (c er e:Int):z7 P 148 [.ptr 0 0,.t (.int .i64 e)] ⟨[(0,.cells [.t (.lst (List.map Def.enc (ds))),.t (.int .i64 0),.t (.int .i64 0),.t (.str []),.t (.lst []),.t (.lst []),.t (.bool (lit)),.t (.int .i64 (c)),.t (.int .i64 (er))])],1⟩ {v:= .tup [],ob:=[(0,.cells [.t (.lst (List.map Def.enc (ds))),.t (.int .i64 0),.t (.int .i64 0),.t (.str []),.t (.lst []),.t (.lst []),.t (.bool (lit)),.t (.int .i64 (c)),.t (.int .i64 (ZM e er))])],rd:=true}:=by
 refine z7.run H.i148 H.mixed Z Z ?_;refine fR Z ?_;refine Run.cond Z Z (fun h=>?_) (fun h=>?_)
 ·have h':er=0:=by simpa using h
  refine fR Z ?_;refine Run.fin Z (z3.chg Z Z ?_ ?_)
  ·exact .le (.same Z)
  ·rw [show ZM e er=e from if_pos h'];exact leSA
 ·have h':¬ er=0:=by simpa using h
  skip;refine Run.fin Z (z3.chg Z Z ?_ ?_)
  ·exact .le (.same Z)
  ·rw [show ZM e er=er from if_neg h'];exact leSA
theorem z8y (H:PrW P) (ds:List Def) (lit:Bool) (c er l:Int):z7 P 150 [.ptr 0 0,.t (.int .i64 l)] ⟨[(0,.cells [.t (.lst (List.map Def.enc (ds))),.t (.int .i64 0),.t (.int .i64 0),.t (.str []),.t (.lst []),.t (.lst []),.t (.bool (lit)),.t (.int .i64 (c)),.t (.int .i64 (er))])],1⟩ {v:= .tup [],ob:=[(0,.cells [.t (.lst (List.map Def.enc (ds))),.t (.int .i64 0),.t (.int .i64 0),.t (.str []),.t (.lst []),.t (.lst []),.t (.bool (lit)),.t (.int .i64 (IntKind.i64.wrap (c+1))),.t (.int .i64 (wL l c er))])],rd:=true}:=by
 refine z7.run H.i150 H.mixed Z Z ?_;refine fR Z ?_;refine Run.cond Z Z (fun h=>?_) (fun h=>?_)
 ·have h':l>24:=by simpa using h
  refine fR Z ?_
  refine Mid.ZI [0] (Yh H ds lit c er 5) Z Z Z Z (by simp [zR];simp [z6.bd,V.bds,V.bd]) (by repeat' (first |exact trivial|exact rfl|refine And.intro ?_ ?_|exact (congrArg some (z6.zK _ _ _ _ _ _)).symm|exact (congrArg some (z6.zL _ _ _)).symm|(refine (congrArg some (z6.zZ ?_ _ _)).symm;intro _;rfl))) Z Z (ob':=[(0,.cells [.t (.lst (List.map Def.enc (ds))),.t (.int .i64 0),.t (.int .i64 0),.t (.str []),.t (.lst []),.t (.lst []),.t (.bool (lit)),.t (.int .i64 (c)),.t (.int .i64 (ZM 5 er))])]) (rfl) Z Z ?_
  refine fM Z ?_;refine p0 Z ?_;refine fM Z ?_
  have hR:wL l c er=if IntKind.i64.wrap (c+1)>4096 then ZM 4 (ZM 5 er) else ZM 5 er:=by unfold wL;rw [if_pos h']
  refine Run.cond Z Z (fun h2=>?_) (fun h2=>?_)
  ·have h2':IntKind.i64.wrap (c+1)>4096:=by simpa using h2
   rw [if_pos h2'] at hR;refine fR Z ?_
   refine Mid.ZI [0] (Yh H ds lit (IntKind.i64.wrap (c+1)) (ZM 5 er) 4) Z Z Z Z (by simp [zR];simp [z6.bd,V.bds,V.bd]) (by repeat' (first |exact trivial|exact rfl|refine And.intro ?_ ?_|exact (congrArg some (z6.zK _ _ _ _ _ _)).symm|exact (congrArg some (z6.zL _ _ _)).symm|(refine (congrArg some (z6.zZ ?_ _ _)).symm;intro _;rfl))) Z Z (ob':=[(0,.cells [.t (.lst (List.map Def.enc (ds))),.t (.int .i64 0),.t (.int .i64 0),.t (.str []),.t (.lst []),.t (.lst []),.t (.bool (lit)),.t (.int .i64 (IntKind.i64.wrap (c+1))),.t (.int .i64 (ZM 4 (ZM 5 er)))])]) (rfl) Z Z ?_
   refine fM Z ?_;refine Run.fin Z (z3.chg Z Z ?_ ?_)
   ·exact .le (.same Z)
   ·rw [hR];exact leSA
  ·have h2':¬ IntKind.i64.wrap (c+1)>4096:=by simpa using h2
   rw [if_neg h2'] at hR;skip;refine Run.fin Z (z3.chg Z Z ?_ ?_)
   ·exact .le (.same Z)
   ·rw [hR];exact leSA
 ·have h':¬ l>24:=by simpa using h
  refine fR Z ?_;refine p0 Z ?_;refine fM Z ?_
  have hR:wL l c er=if IntKind.i64.wrap (c+1)>4096 then ZM 4 er else er:=by unfold wL;rw [if_neg h']
  refine Run.cond Z Z (fun h2=>?_) (fun h2=>?_)
  ·have h2':IntKind.i64.wrap (c+1)>4096:=by simpa using h2
   rw [if_pos h2'] at hR;refine fR Z ?_
   refine Mid.ZI [0] (Yh H ds lit (IntKind.i64.wrap (c+1)) (er) 4) Z Z Z Z (by simp [zR];simp [z6.bd,V.bds,V.bd]) (by repeat' (first |exact trivial|exact rfl|refine And.intro ?_ ?_|exact (congrArg some (z6.zK _ _ _ _ _ _)).symm|exact (congrArg some (z6.zL _ _ _)).symm|(refine (congrArg some (z6.zZ ?_ _ _)).symm;intro _;rfl))) Z Z (ob':=[(0,.cells [.t (.lst (List.map Def.enc (ds))),.t (.int .i64 0),.t (.int .i64 0),.t (.str []),.t (.lst []),.t (.lst []),.t (.bool (lit)),.t (.int .i64 (IntKind.i64.wrap (c+1))),.t (.int .i64 (ZM 4 (er)))])]) (rfl) Z Z ?_
   refine fM Z ?_;refine Run.fin Z (z3.chg Z Z ?_ ?_)
   ·exact .le (.same Z)
   ·rw [hR];exact leSA
  ·have h2':¬ IntKind.i64.wrap (c+1)>4096:=by simpa using h2
   rw [if_neg h2'] at hR;skip;refine Run.fin Z (z3.chg Z Z ?_ ?_)
   ·exact .le (.same Z)
   ·rw [hR];exact leSA
end Go.GB.C29
namespace Go.GB.C29
open Go.GB Go.GB.C11 Go.GB.C18
variable {P:Program}
def Qv (lit:Bool) (v:Val):Bool:=lit&&v.kind==7
theorem z2M (H:PrW P) (ds:List Def) (lit:Bool) (c er:Int) (v:Val):z7 P 137 [.ptr 0 0,v.v] ⟨[(0,.cells [.t (.lst (List.map Def.enc (ds))),.t (.int .i64 0),.t (.int .i64 0),.t (.str []),.t (.lst []),.t (.lst []),.t (.bool (lit)),.t (.int .i64 (c)),.t (.int .i64 (er))])],1⟩ {v:= .t (.bool (Qv lit v)),rd:=true}:=by
 have hg:=z4R H.p18 Val.zero Val.ZD v.text;have hz:Wd Val.zero v.text=none:=rfl;rw [hz] at hg;refine z7.run H.i137 H.mixed Z Z ?_;refine fR Z ?_;refine Run.cond Z Z (fun h=>?_) (fun h=>?_)
 ·have hR:Qv lit v=false:=by revert h;unfold Qv;generalize hk:(v.kind==7)=b;cases lit<;>cases b<;>simp_all
  refine fR Z ?_;refine Run.fin Z (z3.yA Z Z Z (by first |exact rfl|exact zT|exact tSto_bd) (.t ((by rw [hR]))))
 ·have hR:Qv lit v=true:=by revert h;unfold Qv;generalize hk:(v.kind==7)=b;cases lit<;>cases b<;>simp_all
  refine fR Z ?_;refine Mid.call (hg) Z Z Z Z ?_;refine fM Z ?_;refine Run.fin Z (z3.yA Z Z Z (by first |exact rfl|exact zT|exact tSto_bd) (.t ((by rw [hR];rfl))))
def zeA (l:List Input) (x:Input) (i:Nat):Bool:=(l.take i).any fun y=>y.name==x.name
theorem z7L (H:PrW P) (l:List Input) (hl:l.length<=140737488355328) (i:Nat) (x:Input) (hx:l[i]?=some x):z7 P 157 [.t (.lst (l.map Input.enc)),.t (.int .i64 i)] ⟨[],0⟩ {v:= .t (.bool (zeA l x i))}:=by
 have hi:i<l.length:=(List.getElem?_eq_some_iff.1 hx).1;refine z7.run H.i157 H.mixed Z Z ?_;refine fR Z ?_
 have hl2:(l.take i).length=i:=by simp;omega
 generalize hR:zeA l x i=R;refine zD (l.take i) (fun k (_:Unit)=>{env:=[(0,.t (.lst (l.map Input.enc))),(1,.t (.int .i64 i)),(5,.t (.int .i64 k))],s:=⟨[],0⟩}) (fun r k _=>((l.take i).drop k).any (fun y=>y.name==x.name)=R) 0 () Z hR Z Z Z ?_ ?_
 ·intro _ hinv;rw [List.drop_length] at hinv;rw [hl2];subst hinv;refine fR Z ?_;refine Run.zj Z Z (by simp) ?_;refine fR Z ?_;refine Run.fin Z (z3.go ?_);exact .t Z
 ·intro k y r _ k1 hk hd hinv ih
  have hki:k<i:=by omega
  have k2:l[k]?=some y:=by rw [List.getElem?_take,if_pos hki] at k1;exact k1
  have hinv':(y.name==x.name||((l.take i).drop (k+1)).any fun y=>y.name==x.name)=R:=by
   obtain ⟨h1,rfl⟩:=List.getElem?_eq_some_iff.1 k1;rw [←hinv,List.drop_eq_getElem_cons h1];rfl
  refine fR Z ?_;refine Run.zm Z Z (by simp;omega) ?_;refine fR Z ?_;refine Mid.zg Z Z Z k2 Z Z ?_;refine fM Z ?_;refine Mid.zg Z Z Z hx Z Z ?_;refine fM Z ?_;refine Run.cond Z Z (fun h2=>?_) (fun h2=>?_)
  ·rw [h2,Bool.true_or] at hinv';subst hinv';refine fR Z ?_;refine Run.fin Z (z3.go ?_);exact .t Z
  ·rw [h2,Bool.false_or] at hinv';refine fR Z ?_;refine aL Z Z Z Z Z ?_;refine fM Z ?_;exact zn 0 Z (ih () hinv') Z Z Z
def z5t (name:Str) (v:Val):Option Val:=
 if (name==[73,110,116]&&v.kind==2&&decide (v.int≥-2147483648)&&decide (v.int<2147483648))=true then some v
 else if ((name==[83,116,114,105,110,103]&&v.kind==3)||(name==[66,111,111,108,101,97,110]&&v.kind==1)||(name==[73,68]&&v.kind==3))=true then some v
 else if (name==[73,68]&&v.kind==2)=true then some (.mk 3 0 (z5d v.int) [] [])
 else none
def erO (o:Option Val) (er:Int):Int:=match o with|some _=>er|none=>ZM 23 er
theorem z7c (H:PrW P) (ds:List Def) (lit:Bool) (c er:Int) (name:Str) (v:Val):z7 P 152 [.ptr 0 0,.t (.str name),v.v] ⟨[(0,.cells [.t (.lst (List.map Def.enc (ds))),.t (.int .i64 0),.t (.int .i64 0),.t (.str []),.t (.lst []),.t (.lst []),.t (.bool (lit)),.t (.int .i64 (c)),.t (.int .i64 (er))])],1⟩ {v:=((z5t name v).getD Val.zero).v,ob:=[(0,.cells [.t (.lst (List.map Def.enc (ds))),.t (.int .i64 0),.t (.int .i64 0),.t (.str []),.t (.lst []),.t (.lst []),.t (.bool (lit)),.t (.int .i64 (c)),.t (.int .i64 (erO (z5t name v) er))])],rd:=true}:=by
 generalize hR:z5t name v=R;refine z7.run H.i152 H.mixed Z Z ?_;refine fR Z ?_;refine Run.cond Z Z (fun h1=>?_) (fun h1=>?_)
 ·have hR':R=some v:=by rw [←hR];unfold z5t;rw [if_pos h1]
  subst hR';refine fR Z ?_;refine Run.fin Z (z3.chg Z Z ?_ ?_)
  ·exact .le (.same Z)
  ·skip;exact leSA
 have n1:=h1;simp only [Bool.eq_false_iff] at n1;unfold z5t at hR;rw [if_neg n1] at hR;refine fR Z ?_
 have pos:∀h:((name==[83,116,114,105,110,103]&&v.kind==3)||(name==[66,111,111,108,101,97,110]&&v.kind==1)||(name==[73,68]&&v.kind==3))=true,R=some v:=fun h=>by rw [←hR,if_pos h]
 refine Run.cond Z Z (fun ha=>?_) (fun ha=>?_)
 ·have hR':R=some v:=pos (by rw [ha];rfl);subst hR';skip;refine Run.zm Z Z ha ?_;refine fR Z ?_;refine Run.fin Z (z3.chg Z Z ?_ ?_)
  ·exact .le (.same Z)
  ·skip;exact leSA
 refine fR Z ?_;refine Run.cond Z Z (fun hb=>?_) (fun hb=>?_)
 ·have hR':R=some v:=pos (by rw [ha,hb];rfl);subst hR';skip;refine Run.zm Z Z hb ?_;refine fR Z ?_;refine Run.fin Z (z3.chg Z Z ?_ ?_)
  ·exact .le (.same Z)
  ·skip;exact leSA
 refine fR Z ?_;refine Run.cond Z Z (fun hc=>?_) (fun hc=>?_)
 ·have hR':R=some v:=pos (by rw [ha,hb,hc];rfl);subst hR';refine fR Z ?_;refine Run.fin Z (z3.chg Z Z ?_ ?_)
  ·exact .le (.same Z)
  ·skip;exact leSA
 rw [if_neg (by rw [ha,hb,hc];simp)] at hR;refine fR Z ?_;refine Run.cond Z Z (fun hd=>?_) (fun hd=>?_)
 ·have hR':R=some (.mk 3 0 (z5d v.int) [] []):=by rw [←hR,if_pos hd]
  subst hR';refine fR Z ?_;refine Mid.call (zeW H v.int) Z Z Z Z ?_;refine fM Z ?_;refine Run.fin Z (z3.chg Z Z ?_ ?_)
  ·exact .agg (.cons (.t Z) (.cons (.t Z) (.cons (.t Z) (.cons (.nil Z) (.cons (.nil Z) .nil)))))
  ·skip;exact leSA
 rw [if_neg (by rw [hd];simp)] at hR;subst hR;refine fR Z ?_
 refine Mid.ZI [0] (Yh H ds lit c er 23) Z Z Z Z (by simp [zR];simp [z6.bd,V.bds,V.bd]) (by repeat' (first |exact trivial|exact rfl|refine And.intro ?_ ?_|exact (congrArg some (z6.zK _ _ _ _ _ _)).symm|exact (congrArg some (z6.zL _ _ _)).symm|(refine (congrArg some (z6.zZ ?_ _ _)).symm;intro _;rfl))) Z Z (ob':=[(0,.cells [.t (.lst (List.map Def.enc (ds))),.t (.int .i64 0),.t (.int .i64 0),.t (.str []),.t (.lst []),.t (.lst []),.t (.bool (lit)),.t (.int .i64 (c)),.t (.int .i64 (ZM 23 er))])]) (rfl) Z Z ?_
 refine fM Z ?_;refine Run.fin Z (z3.chg Z Z ?_ ?_)
 ·exact .agg (.cons (.t Z) (.cons (.t Z) (.cons (.t Z) (.cons (.nil Z) (.cons (.nil Z) .nil)))))
 ·skip;exact leSA
def zeK (l:List zN) (s:Str):Bool:=l.any fun m=>m.name==s
def z63 (t:Def) (lit:Bool) (v:Val):Option Val:=if ((v.kind==4||(v.kind==3&&!lit))&&zeK t.members v.text)=true then some (.mk 4 0 v.text [] []) else none
theorem zds (H:PrW P) (ds:List Def) (lit:Bool) (c er:Int) (t:Def) (ht:t.Ok) (v:Val):z7 P 153 [.ptr 0 0,t.v,v.v] ⟨[(0,.cells [.t (.lst (List.map Def.enc (ds))),.t (.int .i64 0),.t (.int .i64 0),.t (.str []),.t (.lst []),.t (.lst []),.t (.bool (lit)),.t (.int .i64 (c)),.t (.int .i64 (er))])],1⟩ {v:=((z63 t lit v).getD Val.zero).v,ob:=[(0,.cells [.t (.lst (List.map Def.enc (ds))),.t (.int .i64 0),.t (.int .i64 0),.t (.str []),.t (.lst []),.t (.lst []),.t (.bool (lit)),.t (.int .i64 (c)),.t (.int .i64 (erO (z63 t lit v) er))])],rd:=true}:=by
 have hml:=ht.ml;generalize hR:z63 t lit v=R;unfold z63 at hR;refine z7.run H.i153 H.mixed Z Z ?_;refine fR Z ?_;refine Run.cond Z Z (fun h1=>?_) (fun h1=>?_)
 ·have e1:(v.kind==4||(v.kind==3&&!lit))=true:=by revert h1;generalize (v.kind==4)=b1;generalize (v.kind==3)=b2;cases b1<;>cases b2<;>cases lit<;>simp
  rw [e1,Bool.true_and] at hR;refine fR Z ?_;refine zD t.members (fun i (_:Unit)=>{env:=[(0,.ptr 0 0),(4,.ptr 1 0),(5,.ptr 2 0),(6,.ptr 3 0),(7,.t (.int .i64 i))],s:=⟨[(0,.cells [.t (.lst (List.map Def.enc (ds))),.t (.int .i64 0),.t (.int .i64 0),.t (.str []),.t (.lst []),.t (.lst []),.t (.bool (lit)),.t (.int .i64 (c)),.t (.int .i64 (er))]),(1,.cells [.t (.int .i64 t.kind),.t (.str t.name),.t (.lst (t.implements.map sE)),.t (.lst (t.zX.map Dir.enc)),.t (.lst (t.fields.map Field.enc)),.t (.lst (t.members.map zN.enc)),.t (.lst (t.ze.map Input.enc))]),(2,.cells [.t (.int .i64 v.kind),.t (.int .i64 v.int),.t (.str v.text),.t (.lst (v.items.map Val.enc)),.t (.lst (v.keys.map sE))]),(3,.cells [.t (.int .i64 0),.t (.int .i64 0),.t (.str []),.zI,.zI])],4⟩}) (fun r i _=>zeK t.members v.text=(t.members.drop i).any fun m=>m.name==v.text) 4 () Z Z Z Z Z ?_ ?_
  ·intro _ hinv;rw [List.drop_length] at hinv;rw [hinv] at hR;have hR':R=none:=hR.symm;subst hR';refine fR Z ?_;refine lM Z Z Z ?_;refine fM Z ?_;refine Run.zj Z Z (by simp) ?_;refine fR Z ?_
   refine Mid.ZI [0] (Yh H ds lit c er 23) Z Z Z Z (by simp [zR];simp [z6.bd,V.bds,V.bd]) (by repeat' (first |exact trivial|exact rfl|refine And.intro ?_ ?_|exact (congrArg some (z6.zK _ _ _ _ _ _)).symm|exact (congrArg some (z6.zL _ _ _)).symm|(refine (congrArg some (z6.zZ ?_ _ _)).symm;intro _;rfl))) Z Z (ob':=[(0,.cells [.t (.lst (List.map Def.enc (ds))),.t (.int .i64 0),.t (.int .i64 0),.t (.str []),.t (.lst []),.t (.lst []),.t (.bool (lit)),.t (.int .i64 (c)),.t (.int .i64 (ZM 23 er))])]) (rfl) Z Z ?_
   refine fM Z ?_;refine Run.fin Z (z3.chg Z Z ?_ ?_)
   ·exact .agg (.cons (.t Z) (.cons (.t Z) (.cons (.t Z) (.cons (.nil Z) (.cons (.nil Z) .nil)))))
   ·skip;exact leSA
  ·intro i x r _ k1 hi hd hinv ih
   have hinv':zeK t.members v.text=(x.name==v.text||(t.members.drop (i+1)).any fun m=>m.name==v.text):=by
    obtain ⟨h1,rfl⟩:=List.getElem?_eq_some_iff.1 k1;rw [hinv,List.drop_eq_getElem_cons h1];rfl
   refine fR Z ?_;refine lM Z Z Z ?_;refine fM Z ?_;refine Run.zm Z Z (by simp;omega) ?_;refine fR Z ?_;refine Mid.zg Z Z Z k1 Z Z ?_;refine fM Z ?_;refine Run.cond Z Z (fun h2=>?_) (fun h2=>?_)
   ·rw [hinv',h2,Bool.true_or,if_pos rfl] at hR;subst hR;refine fR Z ?_;refine Run.fin Z (z3.chg Z Z ?_ ?_)
    ·exact .agg (.cons (.t Z) (.cons (.t Z) (.cons (.t Z) (.cons (.nil Z) (.cons (.nil Z) .nil)))))
    ·skip;exact leSA
   ·rw [h2,Bool.false_or] at hinv';refine fR Z ?_;refine aL Z Z Z Z Z ?_;refine fM Z ?_;exact zn 4 Z (ih () hinv') Z Z Z
 ·have e1:(v.kind==4||(v.kind==3&&!lit))=false:=by revert h1;generalize (v.kind==4)=b1;generalize (v.kind==3)=b2;cases b1<;>cases b2<;>cases lit<;>simp
  rw [e1,Bool.false_and] at hR;have hR':R=none:=hR.symm;subst hR';refine fR Z ?_
  refine Mid.ZI [0] (Yh H ds lit c er 23) Z Z Z Z (by simp [zR];simp [z6.bd,V.bds,V.bd]) (by repeat' (first |exact trivial|exact rfl|refine And.intro ?_ ?_|exact (congrArg some (z6.zK _ _ _ _ _ _)).symm|exact (congrArg some (z6.zL _ _ _)).symm|(refine (congrArg some (z6.zZ ?_ _ _)).symm;intro _;rfl))) Z Z (ob':=[(0,.cells [.t (.lst (List.map Def.enc (ds))),.t (.int .i64 0),.t (.int .i64 0),.t (.str []),.t (.lst []),.t (.lst []),.t (.bool (lit)),.t (.int .i64 (c)),.t (.int .i64 (ZM 23 er))])]) (rfl) Z Z ?_
  refine fM Z ?_;refine Run.fin Z (z3.chg Z Z ?_ ?_)
  ·exact .agg (.cons (.t Z) (.cons (.t Z) (.cons (.t Z) (.cons (.nil Z) (.cons (.nil Z) .nil)))))
  ·skip;exact leSA
end Go.GB.C29
