/-
  YtablikngmojchaaGreatP6: lemmas. No conditions.
-/
import Derived.Test.YtablikngmojchaaGreatP5
import Derived.Test.YtablikngmojchaaGreatP3
import Derived.Test.YtablikngmojchaaGreatP4
set_option linter.all false
set_option maxRecDepth 100000
set_option maxHeartbeats 16000000
namespace Go.GB.C11
open Go.GB
variable {P:Program}
def zc2 (ds:List Def) (p:List Input) (x:Input) (at_:Str):List z4:=
 Zs x.name false (zw x.name p).isSome at_++(if z0j ds x.ty.name=false then [⟨8,at_⟩] else if z8M ds x.ty.name=false then [⟨10,at_⟩] else [])
def inF (ds:List Def) (pre post:Str):List Input->List Input->List z4
 |_,[]=>[]
 |p,x::r=>zc2 ds p x (pre++x.name++post)++inF ds pre post (p++[x]) r
theorem yS (H:Pr P) (ds:List Def) (hD:Z2 ds) (l:List Input) (hl:l.length<=140737488355328) (hlo:∀y,y∈l->y.Ok) (pre post:Str) (hp:pre.length<=1125899906842624) (hq:post.length<=1125899906842624) (ht:(inF ds pre post [] l).length<=4398046511104):
  z5 P 65 [yY ds,.t (.lst (l.map Input.enc)),.t (.str pre),.t (.str post)] ⟨[],0⟩ {v:= .t (.lst ((inF ds pre post [] l).map z4.enc))}:=by
 generalize hT:inF ds pre post [] l=tot at ht;refine z5.run H.i65 H.mixed Z Z ?_;refine fR Z ?_;refine zn l (fun i (B:List z4)=>{env:=[(1,.t (.lst (l.map Input.enc))),(2,.t (.str pre)),(3,.t (.str post)),(4,.ptr 0 0),(9,.own 1 2 (B.map z4.enc)),(10,.t (.int .i64 i))],s:=⟨[(0,.cells [.t (.lst (ds.map Def.enc))]),(1,.arr B.length)],2⟩}) (fun r i B=>B++inF ds pre post (l.take i) r=tot) 1 [] Z (by simpa using hT) Z Z Z ?_ ?_
 ·rintro B hB
  obtain rfl:B=tot:=by rw [←hB];simp [inF]
  refine fR Z ?_;refine lM Z Z Z ?_;refine fM Z ?_;refine Run.z9 Z Z (by simp) ?_;refine fR Z ?_;refine Run.fin Z (z3.go ?_);exact .own Z
 ·rintro i x r B h1 hi hd hB ih;have hx:=hlo x (zMG h1);have hxn:=hx.nm
  have htk:l.take i++[x]=l.take (i+1):=by rw [w1f,h1];rfl
  have htkl:(l.take i).length<=140737488355328:=by simp;omega
  simp only [inF,zc2,htk] at hB;generalize hAt:pre++x.name++post=at_ at hB
  have hatl:at_.length<=4503599627370496:=by rw [←hAt];simp;omega
  have hlen:=congrArg List.length hB;simp only [w03] at hlen;refine fR Z ?_;refine lM Z Z Z ?_;refine fM Z ?_;refine Run.zb Z Z (by simp;omega) ?_;refine fR Z ?_;refine Mid.z6 Z Z Z h1 Z Z ?_;refine fM Z ?_;refine pu Z ?_;refine fM Z ?_;refine pu Z ?_;refine fM Z ?_;refine lTo Z Z Z Z ?_;refine fM Z ?_;rw [hAt];refine Mid.z6 Z Z Z h1 Z Z ?_;refine fM Z ?_;refine Mid.call (yP H (l.take i) htkl x.name) Z Z Z Z ?_;refine fM Z ?_;refine Mid.z6 Z Z Z h1 Z Z ?_;refine fM Z ?_;refine Mid.call (Q7 H x.name hxn false (zw x.name (l.take i)).isSome at_) Z Z Z Z ?_;skip;generalize Zs x.name false (zw x.name (l.take i)).isSome at_=N at hB hlen;refine apM z4.enc B N Z Z Z Z Z ?_ (h1:=by first |omega|(simp;omega)|(simp;done)) (h2:=by first |omega|(simp;omega)|(simp;done));refine fM rfl ?_;refine Mid.z6 rfl rfl rfl h1 rfl rfl ?_;refine fM rfl ?_;refine Mid.call (z6B H ds hD x.ty.name) rfl rfl rfl rfl ?_;refine fM rfl ?_;refine Run.cond rfl rfl (fun hk=>?_) (fun hk=>?_)
  ·have hk':z0j ds x.ty.name=false:=by simpa using hk
   rw [w0e hk'] at hB hlen;simp only [w0d,w16] at hlen;refine fR Z ?_;refine apM z4.enc (B++N) [(⟨8,at_⟩:z4)] Z Z Z Z Z ?_ (h1:=by first |omega|(simp;omega)|(simp;done)) (h2:=by first |omega|(simp;omega)|(simp;done));refine fM rfl ?_;refine aL rfl rfl rfl rfl rfl ?_;refine fM rfl ?_;exact zd 2 rfl (ih (B++N++[⟨8,at_⟩]) (by rw [←hB];simp)) rfl rfl rfl
  ·have hk':¬ z0j ds x.ty.name=false:=by simpa using hk
   rw [w0g hk'] at hB hlen;refine fR Z ?_;refine Mid.z6 Z Z Z h1 Z Z ?_;refine fM Z ?_;refine Mid.call (z7o H ds hD x.ty.name) Z Z Z Z ?_;refine fM Z ?_;refine Run.cond Z Z (fun hy=>?_) (fun hy=>?_)
   ·have hy':z8M ds x.ty.name=false:=by simpa using hy
    rw [w0e hy'] at hB hlen;simp only [w0d,w16] at hlen;refine fR Z ?_;refine apM z4.enc (B++N) [(⟨10,at_⟩:z4)] Z Z Z Z Z ?_ (h1:=by first |omega|(simp;omega)|(simp;done)) (h2:=by first |omega|(simp;omega)|(simp;done));refine fM rfl ?_;refine aL rfl rfl rfl rfl rfl ?_;refine fM rfl ?_;exact zd 2 rfl (ih (B++N++[⟨10,at_⟩]) (by rw [←hB];simp)) rfl rfl rfl
   ·have hy':¬ z8M ds x.ty.name=false:=by simpa using hy
    rw [w0g hy'] at hB hlen;refine fR Z ?_;refine aL Z Z Z Z Z ?_;refine fM Z ?_;exact zd 2 Z (ih (B++N) (by rw [←hB];simp)) Z Z Z
def zct (ds:List Def) (n:Str):Bool:=!Qe n&&(ze n ds).isSome&&((ze n ds).getD Def.zero).kind==5
def z7g (ds:List Def) (p:List Field) (x:Field) (at_:Str):List z4:=
 Zs x.name false (zu x.name p).isSome at_++(if z0j ds x.ty.name=false then [⟨8,at_⟩] else if zct ds x.ty.name=true then [⟨10,at_⟩] else [])++inF ds (at_++[40]) [41] [] x.args
def z0x (ds:List Def) (n:Str):List Field->List Field->List z4
 |_,[]=>[]
 |p,x::r=>z7g ds p x (n++[46]++x.name)++z0x ds n (p++[x]) r
theorem wV (H:Pr P) (ds:List Def) (hD:Z2 ds) (d:Def) (hd:d.Ok) (ht:(z0x ds d.name [] d.fields).length<=4398046511104):z5 P 63 [yY ds,d.v] ⟨[],0⟩ {v:= .t (.lst ((z0x ds d.name [] d.fields).map z4.enc))}:=by
 have hfl:=hd.fl;have hnm:=hd.nm;generalize hT:z0x ds d.name [] d.fields=tot at ht;refine z5.run H.i63 H.mixed Z Z ?_;refine fR Z ?_;refine zn d.fields (fun i (B:List z4)=>{env:=[(2,.ptr 0 0),(3,.ptr 1 0),(5,.own 2 2 (B.map z4.enc)),(6,.t (.int .i64 i))],s:=⟨[(0,.cells [.t (.lst (ds.map Def.enc))]),(1,(TCo d)),(2,.arr B.length)],3⟩}) (fun r i B=>B++z0x ds d.name (d.fields.take i) r=tot) 2 [] Z (by simpa using hT) Z Z Z ?_ ?_
 ·rintro B hB
  obtain rfl:B=tot:=by rw [←hB];simp [z0x]
  refine fR Z ?_;refine lM Z Z Z ?_;refine fM Z ?_;refine Run.z9 Z Z (by simp) ?_;refine fR Z ?_;refine Run.fin Z (z3.go ?_);exact .own Z
 ·rintro i x r B h1 hi hdr hB ih;have hx:=hd.f x (zMG h1);have hxn:=hx.nm;have hxl:=hx.al
  have htk:d.fields.take i++[x]=d.fields.take (i+1):=by rw [w1f,h1];rfl
  have htkl:(d.fields.take i).length<=140737488355328:=by simp;omega
  simp only [z0x,z7g,htk] at hB;generalize hAt:d.name++[46]++x.name=at_ at hB
  have hatl:at_.length<=1125899906842000:=by rw [←hAt];simp;omega
  have hlen:=congrArg List.length hB;simp only [w03] at hlen;refine fR Z ?_;refine lM Z Z Z ?_;refine fM Z ?_;refine Run.zb Z Z (by simp;omega) ?_;refine fR Z ?_;refine Mid.z6 Z Z Z h1 Z Z ?_;refine fM Z ?_;refine pu Z ?_;refine fM Z ?_;refine pu Z ?_;refine fM Z ?_;refine lTo Z Z Z Z ?_;refine fM Z ?_;rw [hAt];refine Mid.call (yL H ⟨0,[],[],[],d.fields.take i,[],[]⟩ htkl x.name) Z Z Z Z ?_;refine fM Z ?_;refine Mid.call (Q7 H x.name hxn false (zu x.name (d.fields.take i)).isSome at_) Z Z Z Z ?_;skip;generalize Zs x.name false (zu x.name (d.fields.take i)).isSome at_=N at hB hlen;refine apM z4.enc B N Z Z Z Z Z ?_ (h1:=by first |omega|(simp;omega)|(simp;done)) (h2:=by first |omega|(simp;omega)|(simp;done));refine fM rfl ?_;refine Mid.call (yn H ds hD.l x.ty.name) rfl rfl rfl rfl ?_;refine fM rfl ?_;refine Mid.call (z6B H ds hD x.ty.name) rfl rfl rfl rfl ?_;refine fM rfl ?_;refine Run.cond rfl rfl (fun hk=>?_) (fun hk=>?_)
  ·have hk':z0j ds x.ty.name=false:=by simpa using hk
   rw [w0e hk'] at hB hlen;simp only [w0d,w16] at hlen;refine fR Z ?_;refine apM z4.enc (B++N) [(⟨8,at_⟩:z4)] Z Z Z Z Z ?_ (h1:=by first |omega|(simp;omega)|(simp;done)) (h2:=by first |omega|(simp;omega)|(simp;done));refine fM rfl ?_;refine pu rfl ?_;refine Mid.call (yS H ds hD x.args hxl hx.a (at_++[40]) [41] (by simp;omega) (by decide) (by omega)) rfl rfl rfl rfl ?_;skip;generalize inF ds (at_++[40]) [41] [] x.args=M at hB hlen;refine apM z4.enc (B++N++[⟨8,at_⟩]) M rfl rfl rfl rfl rfl ?_ (h1:=by first |omega|(simp;omega)|(simp;done)) (h2:=by first |omega|(simp;omega)|(simp;done));refine fM rfl ?_;refine aL rfl rfl rfl rfl rfl ?_;refine fM rfl ?_;exact zd 3 rfl (ih (B++N++[⟨8,at_⟩]++M) (by rw [←hB];simp)) rfl rfl rfl
  ·have hk':¬ z0j ds x.ty.name=false:=by simpa using hk
   rw [w0g hk'] at hB hlen;refine fR Z ?_;refine Mid.call (W9 H x.ty.name) Z Z Z Z ?_;refine fM Z ?_;refine Run.cond Z Z (fun hy=>?_) (fun hy=>?_)
   ·have hy':zct ds x.ty.name=true:=hy;rw [w0e hy'] at hB hlen;simp only [w0d,w16] at hlen;refine fR Z ?_;refine apM z4.enc (B++N) [(⟨10,at_⟩:z4)] Z Z Z Z Z ?_ (h1:=by first |omega|(simp;omega)|(simp;done)) (h2:=by first |omega|(simp;omega)|(simp;done));refine fM rfl ?_;refine pu rfl ?_;refine Mid.call (yS H ds hD x.args hxl hx.a (at_++[40]) [41] (by simp;omega) (by decide) (by omega)) rfl rfl rfl rfl ?_;skip;generalize inF ds (at_++[40]) [41] [] x.args=M at hB hlen;refine apM z4.enc (B++N++[⟨10,at_⟩]) M rfl rfl rfl rfl rfl ?_ (h1:=by first |omega|(simp;omega)|(simp;done)) (h2:=by first |omega|(simp;omega)|(simp;done));refine fM rfl ?_;refine aL rfl rfl rfl rfl rfl ?_;refine fM rfl ?_;exact zd 3 rfl (ih (B++N++[⟨10,at_⟩]++M) (by rw [←hB];simp)) rfl rfl rfl
   ·have hy':¬ zct ds x.ty.name=true:=by rw [show zct ds x.ty.name=false from hy];simp
    rw [w0g hy'] at hB hlen;simp only [w16] at hlen;refine fR Z ?_;refine pu Z ?_;refine Mid.call (yS H ds hD x.args hxl hx.a (at_++[40]) [41] (by simp;omega) (by decide) (by omega)) Z Z Z Z ?_;skip;generalize inF ds (at_++[40]) [41] [] x.args=M at hB hlen;refine apM z4.enc (B++N) M Z Z Z Z Z ?_ (h1:=by first |omega|(simp;omega)|(simp;done)) (h2:=by first |omega|(simp;omega)|(simp;done));refine fM rfl ?_;refine aL rfl rfl rfl rfl rfl ?_;refine fM rfl ?_;exact zd 3 rfl (ih (B++N++M) (by rw [←hB];simp)) rfl rfl rfl
def z5m (n:Str):Bool:=n==[116,114,117,101]||n==[102,97,108,115,101]||n==[110,117,108,108]
def z2b (t:Str):List zh->List zh->List z4
 |_,[]=>[]
 |p,x::r=>Zs x.name (z5m x.name) (Wl p x.name) (t++[46]++x.name)++z2b t (p++[x]) r
theorem wa (H:Pr P) (d:Def) (hd:d.Ok) (ht:(z2b d.name [] d.members).length<=4398046511104):z5 P 64 [d.v] ⟨[],0⟩ {v:= .t (.lst ((z2b d.name [] d.members).map z4.enc))}:=by
 have hfl:=hd.ml;have hnm:=hd.nm;generalize hT:z2b d.name [] d.members=tot at ht;refine z5.run H.i64 H.mixed Z Z ?_;refine fR Z ?_;refine zn d.members (fun i (B:List z4)=>{env:=[(1,.ptr 0 0),(3,.own 1 2 (B.map z4.enc)),(4,.t (.int .i64 i))],s:=⟨[(0,(TCo d)),(1,.arr B.length)],2⟩}) (fun r i B=>B++z2b d.name (d.members.take i) r=tot) 1 [] Z (by simpa using hT) Z Z Z ?_ ?_
 ·rintro B hB
  obtain rfl:B=tot:=by rw [←hB];simp [z2b]
  refine fR Z ?_;refine lM Z Z Z ?_;refine fM Z ?_;refine Run.z9 Z Z (by simp) ?_;refine fR Z ?_;refine Run.fin Z (z3.go ?_);exact .own Z
 ·rintro i x r B h1 hi hdr hB ih;have hx:=hd.m x (zMG h1);have hxn:=hx.nm
  have htk:d.members.take i++[x]=d.members.take (i+1):=by rw [w1f,h1];rfl
  have htkl:(d.members.take i).length<=140737488355328:=by simp;omega
  simp only [z2b,htk] at hB;generalize hAt:d.name++[46]++x.name=at_ at hB
  have hatl:at_.length<=1125899906842000:=by rw [←hAt];simp;omega
  have hlen:=congrArg List.length hB;simp only [w03] at hlen;refine fR Z ?_;refine lM Z Z Z ?_;refine fM Z ?_;refine Run.zb Z Z (by simp;omega) ?_;refine fR Z ?_;refine Mid.z6 Z Z Z h1 Z Z ?_;refine fM Z ?_;refine zn (d.members.take i) (fun j (C:Bool)=>{env:=[(1,.ptr 0 0),(3,.own 1 2 (B.map z4.enc)),(4,.t (.int .i64 i)),(5,.t (.str x.name)),(6,.t (.bool C)),(7,.t (.int .i64 j))],s:=⟨[(0,(TCo d)),(1,.arr B.length)],2⟩}) (fun r j C=>Wl (d.members.take i) x.name=(C||Wl r x.name)) 2 false Z (by simp) Z Z Z ?_ ?_
  ·intro C hC
   have hl:(d.members.take i).length=i:=by simp;omega
   have hC':Wl (d.members.take i) x.name=C:=by rw [hC];simp [Wl]
   rw [hl];rw [hC'] at hB hlen;refine fR Z ?_;refine Run.z9 Z Z (by simp) ?_;refine fR Z ?_;refine pu Z ?_;refine fM Z ?_;refine pu Z ?_;rw [hAt];refine Mid.call (Q7 H x.name hxn (z5m x.name) C at_) Z Z Z Z ?_;skip;generalize Zs x.name (z5m x.name) C at_=N at hB hlen;refine apM z4.enc B N Z Z Z Z Z ?_ (h1:=by first |omega|(simp;omega)|(simp;done)) (h2:=by first |omega|(simp;omega)|(simp;done));refine fM rfl ?_;refine aL rfl rfl rfl rfl rfl ?_;refine fM rfl ?_;exact zd 2 rfl (ih (B++N) (by rw [←hB];simp)) rfl rfl rfl
  ·intro j o r2 C h2 hj hjd hC ih2
   have hji:j<i:=by simp at hj;omega
   have ho:d.members[j]?=some o:=by rw [w0p] at h2;rw [w0e hji] at h2;exact h2
   have hjl:j<d.members.length:=by omega
   refine fR Z ?_;refine Run.zb Z Z (by simp;omega) ?_;refine fR Z ?_;refine elG Z Z Z Z ho Z Z ?_;refine fM Z ?_;refine aL Z Z Z Z Z ?_;refine fM Z ?_
   exact zd 2 Z (ih2 (C||o.name==x.name) (by rw [hC];simp only [Wl,w1d];cases C<;>simp)) Z Z Z
end Go.GB.C11
namespace Go.GB.C11
open Go.GB
variable {P:Program}
def z0i:Str:=[81,117,101,114,121]
def zcG (ds:List Def) (d:Def):List z4:=
 if d.kind=1 then z0x ds d.name [] d.fields else if d.kind=2 then z0x ds d.name [] d.fields
 else if d.kind=4 then z2b d.name [] d.members else if d.kind=5 then inF ds (d.name++[46]) [] [] d.zi else []
def z58 (ds:List Def):Nat->List Def->List z4
 |_,[]=>[]
 |i,d::r=>YX ds i d++zcG ds d++z58 ds (i+1) r
def z6G (ds:List Def) (q:Bool):List z4:=if (q&&!(ze z0i ds).isSome)=true then [⟨30,z0i⟩] else []
def wI (ds:List Def) (q:Bool):List z4:=z58 ds 0 ds++z6G ds q
theorem zbO (H:Pr P) (ds:List Def) (hD:Z2 ds) (hil:∀o,o∈ds->o.zi.length<=2199023255552) (q:Bool) (ht:(wI ds q).length<=4398046511104):z5 P 24 [yY ds,.t (.bool q)] ⟨[],0⟩ {v:= .t (.lst ((wI ds q).map z4.enc))}:=by
 have hdl:=hD.l;have hT:z58 ds 0 ds++z6G ds q=wI ds q:=rfl;generalize wI ds q=tot at ht hT;refine z5.run H.i24 H.mixed Z Z ?_;refine fR Z ?_;refine zn ds (fun i (B:List z4)=>{env:=[(1,.t (.bool q)),(2,.ptr 0 0),(5,.own 1 2 (B.map z4.enc)),(6,.t (.int .i64 i))],s:=⟨[(0,.cells [.t (.lst (ds.map Def.enc))]),(1,.arr B.length)],2⟩}) (fun r i B=>B++z58 ds i r++z6G ds q=tot) 1 [] Z (by simpa using hT) Z Z Z ?_ ?_
 ·rintro B hB;simp only [z58,w1j] at hB;have hlen:=congrArg List.length hB;simp only [w03] at hlen;refine fR Z ?_;refine lM Z Z Z ?_;refine fM Z ?_;refine Run.z9 Z Z (by simp) ?_;refine fR Z ?_;refine Mid.call (yn H ds hD.l z0i) Z Z Z Z ?_;refine fM Z ?_;refine Run.cond Z Z (fun hc=>?_) (fun hc=>?_)
  ·have hc':z6G ds q=[⟨30,z0i⟩]:=by unfold z6G;rw [w0e (show (q&&!(ze z0i ds).isSome)=true from hc)]
   rw [hc'] at hB hlen;simp only [w0d,w16] at hlen;refine fR Z ?_;refine apM z4.enc B [(⟨30,z0i⟩:z4)] Z Z Z Z Z ?_ (h1:=by first |omega|(simp;omega)|(simp;done)) (h2:=by first |omega|(simp;omega)|(simp;done));refine fM rfl ?_;refine Run.fin rfl (z3.go ?_);exact .own (by rw [hB])
  ·have hc':z6G ds q=[]:=by unfold z6G;rw [w0g (by rw [show (q&&!(ze z0i ds).isSome)=false from hc];simp)]
   rw [hc'] at hB;refine fR Z ?_;refine Run.fin Z (z3.go ?_);exact .own (by rw [←hB];simp)
 ·rintro i d r B h1 hi hdr hB ih;have hd:=hD.d d (zMG h1);have hnm:=hd.nm;have hnl:=hd.nl;simp only [z58] at hB;have hlen:=congrArg List.length hB;simp only [w03] at hlen;refine fR Z ?_;refine lM Z Z Z ?_;refine fM Z ?_;refine Run.zb Z Z (by simp;omega) ?_;refine fR Z ?_;refine Mid.z6 Z Z Z h1 Z Z ?_;refine fM Z ?_;refine Mid.call (zaE H ds hD hil i d h1) Z Z Z Z ?_;skip;generalize YX ds i d=W at hB hlen;refine apM z4.enc B W Z Z Z Z Z ?_ (h1:=by first |omega|(simp;omega)|(simp;done)) (h2:=by first |omega|(simp;omega)|(simp;done));refine fM rfl ?_;unfold zcG at hB hlen;refine Run.cond rfl rfl (fun k1=>?_) (fun k1=>?_)
  ·have k1':d.kind=1:=by simpa using k1
   rw [w0e k1'] at hB hlen;skip;refine Run.zb Z Z k1 ?_;refine fR Z ?_;refine Mid.call (wV H ds hD d hd (by omega)) Z Z Z Z ?_;skip;generalize z0x ds d.name [] d.fields=M at hB hlen;refine apM z4.enc (B++W) M Z Z Z Z Z ?_ (h1:=by first |omega|(simp;omega)|(simp;done)) (h2:=by first |omega|(simp;omega)|(simp;done));refine fM rfl ?_;refine aL rfl rfl rfl rfl rfl ?_;refine fM rfl ?_;exact zd 2 rfl (ih (B++W++M) (by rw [←hB];simp)) rfl rfl rfl
  ·have k1':¬ d.kind=1:=by simpa using k1
   rw [w0g k1'] at hB hlen;refine fR Z ?_;refine Run.cond Z Z (fun k2=>?_) (fun k2=>?_)
   ·have k2':d.kind=2:=by simpa using k2
    rw [w0e k2'] at hB hlen;refine fR Z ?_;refine Mid.call (wV H ds hD d hd (by omega)) Z Z Z Z ?_;skip;generalize z0x ds d.name [] d.fields=M at hB hlen;refine apM z4.enc (B++W) M Z Z Z Z Z ?_ (h1:=by first |omega|(simp;omega)|(simp;done)) (h2:=by first |omega|(simp;omega)|(simp;done));refine fM rfl ?_;refine aL rfl rfl rfl rfl rfl ?_;refine fM rfl ?_;exact zd 2 rfl (ih (B++W++M) (by rw [←hB];simp)) rfl rfl rfl
   ·have k2':¬ d.kind=2:=by simpa using k2
    rw [w0g k2'] at hB hlen;refine fR Z ?_;refine Run.cond Z Z (fun k4=>?_) (fun k4=>?_)
    ·have k4':d.kind=4:=by simpa using k4
     rw [w0e k4'] at hB hlen;refine fR Z ?_;refine Mid.call (wa H d hd (by omega)) Z Z Z Z ?_;skip;generalize z2b d.name [] d.members=M at hB hlen;refine apM z4.enc (B++W) M Z Z Z Z Z ?_ (h1:=by first |omega|(simp;omega)|(simp;done)) (h2:=by first |omega|(simp;omega)|(simp;done));refine fM rfl ?_;refine aL rfl rfl rfl rfl rfl ?_;refine fM rfl ?_;exact zd 2 rfl (ih (B++W++M) (by rw [←hB];simp)) rfl rfl rfl
    ·have k4':¬ d.kind=4:=by simpa using k4
     rw [w0g k4'] at hB hlen;refine fR Z ?_;refine Run.cond Z Z (fun k5=>?_) (fun k5=>?_)
     ·have k5':d.kind=5:=by simpa using k5
      rw [w0e k5'] at hB hlen;refine fR Z ?_;refine pu Z ?_;refine Mid.call (yS H ds hD d.zi hnl hd.n (d.name++[46]) [] (by simp;omega) (by decide) (by omega)) Z Z Z Z ?_;skip;generalize inF ds (d.name++[46]) [] [] d.zi=M at hB hlen;refine apM z4.enc (B++W) M Z Z Z Z Z ?_ (h1:=by first |omega|(simp;omega)|(simp;done)) (h2:=by first |omega|(simp;omega)|(simp;done));refine fM rfl ?_;refine aL rfl rfl rfl rfl rfl ?_;refine fM rfl ?_;exact zd 2 rfl (ih (B++W++M) (by rw [←hB];simp)) rfl rfl rfl
     ·have k5':¬ d.kind=5:=by simpa using k5
      rw [w0g k5'] at hB hlen;refine fR Z ?_;refine aL Z Z Z Z Z ?_;refine fM Z ?_;exact zd 2 Z (ih (B++W) (by rw [←hB];simp)) Z Z Z
end Go.GB.C11
namespace Go.GB
namespace Sel
end Sel
namespace Sel.Ok
end Sel.Ok
end Go.GB
namespace Go.GB.C11
open Go.GB
structure QW (P:Program):Prop extends Pr P where
 i25:z7 P 25=some (n25,c25.bare,r25)
 i66:z7 P 66=some (n66,c66.bare,r66)
 i67:z7 P 67=some (n67,c67.bare,r67)
 i171:z7 P 171=some (n171,c171.bare,r171)
 i151:z7 P 151=some (n151,c151.bare,r151)
 i117:z7 P 117=some (n117,c117.bare,r117)
 i119:z7 P 119=some (n119,c119.bare,r119)
 i172:z7 P 172=some (n172,c172.bare,r172)
 i173:z7 P 173=some (n173,c173.bare,r173)
 i53:z7 P 53=some (n53,c53.bare,r53)
 i184:z7 P 184=some (n184,c184.bare,r184)
 i187:z7 P 187=some (n187,c187.bare,r187)
variable {P:Program}
end Go.GB.C11
namespace Go.GB.C11
open Go.GB
variable {P:Program}
def szV (v:Val):Int:=v.items.attach.foldl (fun n x=>IntKind.i64.wrap (n+szV x.1)) 1
termination_by SizeOf.sizeOf v
decreasing_by exact Val.yd v x.2
def dpV (v:Val):Int:=IntKind.i64.wrap (v.items.attach.foldl (fun n x=>if dpV x.1>n then dpV x.1 else n) 0+1)
termination_by SizeOf.sizeOf v
decreasing_by all_goals exact Val.yd v x.2
def twS:List Str->List Str->Bool
 |_,[]=>false
 |p,s::r=>decide (s∈p)||twS (p++[s]) r
theorem zey (v:Val):szV v=v.items.foldl (fun n x=>IntKind.i64.wrap (n+szV x)) 1:=by
 rw [szV];exact List.foldl_attach (l:=v.items) (f:=fun n x=>IntKind.i64.wrap (n+szV x)) (b:=1)
theorem zed (v:Val):dpV v=IntKind.i64.wrap (v.items.foldl (fun n x=>if dpV x>n then dpV x else n) 0+1):=by
 rw [dpV];rw [List.foldl_attach (l:=v.items) (f:=fun n x=>if dpV x>n then dpV x else n) (b:=0)]
def SzC (P:Program) (v:Val):Prop:=z5 P 171 [v.v] ⟨[],0⟩ {v:= .t (.int .i64 (szV v))}
theorem z6I (H:QW P) (v:Val) (hv:v.Ok) (ih:∀x,x∈v.items->SzC P x):SzC P v:=by
 have hil:=hv.il;unfold SzC;rw [zey];refine z5.run H.i171 H.mixed Z Z ?_;refine fR Z ?_;refine zn v.items (fun i (n:Int)=>{env:=[(1,.ptr 0 0),(3,.t (.int .i64 n)),(4,.t (.int .i64 i))],s:=⟨[(0,(VCo v))],1⟩}) (fun r i n=>v.items.foldl (fun n x=>IntKind.i64.wrap (n+szV x)) 1=r.foldl (fun n x=>IntKind.i64.wrap (n+szV x)) n) 1 1 Z Z Z Z Z ?_ ?_
 ·intro n hinv;refine fR Z ?_;refine lM Z Z Z ?_;refine fM Z ?_;refine Run.z9 Z Z (by simp) ?_;refine fR Z ?_;refine Run.fin Z (z3.go ?_);exact .t (by rw [hinv];rfl)
 ·intro i x r n h1 hi hd hinv ihl;have hcall:=ih x (zMG h1);unfold SzC at hcall;refine fR Z ?_;refine lM Z Z Z ?_;refine fM Z ?_;refine Run.zb Z Z (by simp;omega) ?_;refine fR Z ?_;refine Mid.YI (Val.w4 x) Z Z Z h1 Z Z ?_;refine fM Z ?_;refine Mid.call (hcall) Z Z Z Z ?_;refine p0 Z ?_;refine fM Z ?_;refine aL Z Z Z Z Z ?_;refine fM Z ?_;exact zd 1 Z (ihl (IntKind.i64.wrap (n+szV x)) hinv) Z Z Z
theorem z4r (H:QW P):∀(v:Val),v.Ok->SzC P v
 |v,hv=>z6I H v hv fun x hx=>z4r H x (hv.it x hx)
termination_by v=>SizeOf.sizeOf v
decreasing_by exact Val.yd v hx
def DpC (P:Program) (v:Val):Prop:=z5 P 172 [v.v] ⟨[],0⟩ {v:= .t (.int .i64 (dpV v))}
theorem z5t (H:QW P) (v:Val) (hv:v.Ok) (ih:∀x,x∈v.items->DpC P x):DpC P v:=by
 have hil:=hv.il;unfold DpC;rw [zed];refine z5.run H.i172 H.mixed Z Z ?_;refine fR Z ?_;refine zn v.items (fun i (n:Int)=>{env:=[(1,.ptr 0 0),(3,.t (.int .i64 n)),(4,.t (.int .i64 i))],s:=⟨[(0,(VCo v))],1⟩}) (fun r i n=>v.items.foldl (fun n x=>if dpV x>n then dpV x else n) 0=r.foldl (fun n x=>if dpV x>n then dpV x else n) n) 1 0 Z Z Z Z Z ?_ ?_
 ·intro n hinv;refine fR Z ?_;refine lM Z Z Z ?_;refine fM Z ?_;refine Run.z9 Z Z (by simp) ?_;refine fR Z ?_;refine p0 Z ?_;refine fM Z ?_;refine Run.fin Z (z3.go ?_);exact .t (by rw [hinv];rfl)
 ·intro i x r n h1 hi hd hinv ihl;have hcall:=ih x (zMG h1);unfold DpC at hcall;refine fR Z ?_;refine lM Z Z Z ?_;refine fM Z ?_;refine Run.zb Z Z (by simp;omega) ?_;refine fR Z ?_;refine Mid.YI (Val.w4 x) Z Z Z h1 Z Z ?_;refine fM Z ?_;refine Mid.call (hcall) Z Z Z Z ?_;refine fM Z ?_;refine aL Z Z Z Z Z ?_;refine fM Z ?_;exact zd 1 Z (ihl (if dpV x>n then dpV x else n) hinv) Z Z Z
theorem z3x (H:QW P):∀(v:Val),v.Ok->DpC P v
 |v,hv=>z5t H v hv fun x hx=>z3x H x (hv.it x hx)
termination_by v=>SizeOf.sizeOf v
decreasing_by exact Val.yd v hx
theorem zcW (p:List Str) (l:List Str):∀{i:Nat} {x:Str} {r:List Str},l[i]?=some x->l.drop i=x::r->twS (l.take i) (x::r)=(decide (x∈l.take i)||twS (l.take (i+1)) r):=by
 intro i x r h1 h2
 have htk:l.take i++[x]=l.take (i+1):=by rw [w1f,h1];rfl
 rw [←htk];rfl
theorem z7l (H:QW P) (l:List Str) (hl:l.length<=140737488355328):z5 P 187 [.t (.lst (l.map sE))] ⟨[],0⟩ {v:= .t (.bool (twS [] l))}:=by
 generalize hT:twS [] l=tot;refine z5.run H.i187 H.mixed Z Z ?_;refine fR Z ?_;refine zn l (fun i (_:Unit)=>{env:=[(0,.t (.lst (l.map sE))),(3,.t (.int .i64 i))],s:=⟨[],0⟩}) (fun r i _=>l.drop i=r/\twS (l.take i) r=tot) 0 () Z ⟨rfl,hT⟩ Z Z Z ?_ ?_
 ·rintro _ ⟨_,hinv⟩;refine fR Z ?_;refine lM Z Z Z ?_;refine fM Z ?_;refine Run.z9 Z Z (by simp) ?_;refine fR Z ?_;refine Run.fin Z (z3.go ?_);exact .t (by rw [←hinv];rfl)
 ·rintro i x r _ h1 hi hd ⟨hdr,hinv⟩ ih;rw [zcW [] l h1 hdr] at hinv
  have hdr':l.drop (i+1)=r:=by rw [←List.drop_drop,hdr];rfl
  refine fR Z ?_;refine lM Z Z Z ?_;refine fM Z ?_;refine Run.zb Z Z (by simp;omega) ?_;refine fR Z ?_;refine zn (l.take i) (fun k (_:Unit)=>{env:=[(0,.t (.lst (l.map sE))),(3,.t (.int .i64 i)),(4,.t (.int .i64 k))],s:=⟨[],0⟩}) (fun r k _=>decide (x∈l.take i)=decide (x∈r)) 0 () Z Z Z Z Z ?_ ?_
  ·intro _ hinv2
   have hnot:decide (x∈l.take i)=false:=by rw [hinv2];simp
   rw [hnot] at hinv
   have htl:(l.take i).length=i:=by rw [w26];omega
   refine fR Z ?_;refine Run.z9 Z Z (by simp [htl]) ?_;refine fR Z ?_;refine aL Z Z Z Z Z ?_;refine fM Z ?_;exact zd 0 Z (ih () ⟨hdr',by simpa using hinv⟩) rfl rfl rfl
  ·intro k y r2 _ g1 gi gd hinv2 ih2
   have htl:(l.take i).length=i:=by rw [w26];omega
   have g1':l[k]?=some y:=by
    rw [w0p] at g1;split at g1
    ·exact g1
    ·cases g1
   refine fR Z ?_;refine Run.zb Z Z (by simp;omega) ?_;refine fR Z ?_;refine Mid.z6 Z Z Z h1 Z Z ?_;refine fM Z ?_;refine Mid.z6 Z Z Z g1' Z Z ?_;refine fM Z ?_;refine Run.cond Z Z (fun hc=>?_) (fun hc=>?_)
   ·have hc':x=y:=by simpa using hc
    have hm:decide (x∈l.take i)=true:=by rw [hinv2];simp [hc']
    rw [hm] at hinv;refine fR Z ?_;refine Run.fin Z (z3.go ?_);exact .t (by rw [←hinv];rfl)
   ·have hc':¬ x=y:=by simpa using hc
    refine fR Z ?_;refine aL Z Z Z Z Z ?_;refine fM Z ?_;exact zd 0 Z (ih2 () (by rw [hinv2];simp [hc'])) Z Z Z
end Go.GB.C11
namespace Go.GB.C11
open Go.GB
variable {P:Program}
def z2V (v:Val) (lit:Bool):Bool:=
 if (v.kind==0)=true then (((v.int==0&&v.text==[])&&(v.items.length:Int)==0)&&(v.keys.length:Int)==0)
 else if (v.kind==1)=true then ((((v.int==0||v.int==1)&&v.text==[])&&(v.items.length:Int)==0)&&(v.keys.length:Int)==0)
 else if (v.kind==2)=true then ((v.text==[]&&(v.items.length:Int)==0)&&(v.keys.length:Int)==0)
 else if (v.kind==3)=true then ((v.int==0&&(v.items.length:Int)==0)&&(v.keys.length:Int)==0)
 else if (v.kind==4)=true then ((((((v.int==0&&(v.items.length:Int)==0)&&(v.keys.length:Int)==0)&&zo v.text)&&v.text !=[116,114,117,101])&&v.text !=[102,97,108,115,101])&&v.text !=[110,117,108,108])
 else if (v.kind==5)=true then ((v.int==0&&v.text==[])&&(v.keys.length:Int)==0)
 else if (v.kind==6)=true then (((v.int==0&&v.text==[])&&(v.keys.length:Int)==(v.items.length:Int))&&!twS [] v.keys)
 else if (v.kind==7)=true then ((((lit&&v.int==0)&&(v.items.length:Int)==0)&&(v.keys.length:Int)==0)&&zo v.text)
 else false
theorem z93 (H:QW P) (v:Val) (hv:v.Ok) (lit:Bool):z5 P 184 [v.v,.t (.bool lit)] ⟨[],0⟩ {v:= .t (.bool (z2V v lit))}:=by
 have hkl:=hv.kl;have htl:=hv.tl;generalize hT:z2V v lit=tot;unfold z2V at hT;refine z5.run H.i184 H.mixed Z Z ?_;refine fR Z ?_;refine Run.cond Z Z (fun h0=>?_) (fun h0=>?_)
 ·rw [w0e h0] at hT;refine fR Z ?_;refine lMG Z Z Z Z ?_;refine fM Z ?_;refine lMG Z Z Z Z ?_;refine fM Z ?_;refine Run.fin Z (z3.go ?_);exact .t (by rw [←hT])
 ·rw [w0g (by rw [h0];simp)] at hT;refine fR Z ?_;refine Run.cond Z Z (fun h1=>?_) (fun h1=>?_)
  ·rw [w0e h1] at hT;refine fR Z ?_;refine lMG Z Z Z Z ?_;refine fM Z ?_;refine lMG Z Z Z Z ?_;refine fM Z ?_;refine Run.fin Z (z3.go ?_);exact .t (by rw [←hT])
  ·rw [w0g (by rw [h1];simp)] at hT;refine fR Z ?_;refine Run.cond Z Z (fun h2=>?_) (fun h2=>?_)
   ·rw [w0e h2] at hT;refine fR Z ?_;refine lMG Z Z Z Z ?_;refine fM Z ?_;refine lMG Z Z Z Z ?_;refine fM Z ?_;refine Run.fin Z (z3.go ?_);exact .t (by rw [←hT])
   ·rw [w0g (by rw [h2];simp)] at hT;refine fR Z ?_;refine Run.cond Z Z (fun h3=>?_) (fun h3=>?_)
    ·rw [w0e h3] at hT;refine fR Z ?_;refine lMG Z Z Z Z ?_;refine fM Z ?_;refine lMG Z Z Z Z ?_;refine fM Z ?_;refine Run.fin Z (z3.go ?_);exact .t (by rw [←hT])
    ·rw [w0g (by rw [h3];simp)] at hT;refine fR Z ?_;refine Run.cond Z Z (fun h4=>?_) (fun h4=>?_)
     ·rw [w0e h4] at hT;refine fR Z ?_;refine lMG Z Z Z Z ?_;refine fM Z ?_;refine lMG Z Z Z Z ?_;refine fM Z ?_;refine caG Z Z (fun hg=>⟨_,rfl,QH H.toPr v.text htl,rfl⟩) Z Z ?_;refine fM Z ?_;refine Run.fin Z (z3.go ?_);exact .t (by rw [←hT];rfl)
     ·rw [w0g (by rw [h4];simp)] at hT;refine fR Z ?_;refine Run.cond Z Z (fun h5=>?_) (fun h5=>?_)
      ·rw [w0e h5] at hT;refine fR Z ?_;refine lMG Z Z Z Z ?_;refine fM Z ?_;refine Run.fin Z (z3.go ?_);exact .t (by rw [←hT])
      ·rw [w0g (by rw [h5];simp)] at hT;refine fR Z ?_;refine Run.cond Z Z (fun h6=>?_) (fun h6=>?_)
       ·rw [w0e h6] at hT;refine fR Z ?_;refine lMG Z Z Z Z ?_;refine fM Z ?_;refine lMG Z Z Z Z ?_;refine fM Z ?_;refine caG Z Z (fun hg=>⟨_,rfl,z7l H v.keys (by omega),rfl⟩) Z Z ?_;refine fM Z ?_;refine Run.fin Z (z3.go ?_);exact .t (by rw [←hT])
       ·rw [w0g (by rw [h6];simp)] at hT;refine fR Z ?_;refine Run.cond Z Z (fun h7=>?_) (fun h7=>?_)
        ·rw [w0e h7] at hT;refine fR Z ?_;refine lMG Z Z Z Z ?_;refine fM Z ?_;refine lMG Z Z Z Z ?_;refine fM Z ?_;refine caG Z Z (fun hg=>⟨_,rfl,QH H.toPr v.text htl,rfl⟩) Z Z ?_;refine fM Z ?_;refine Run.fin Z (z3.go ?_);exact .t (by rw [←hT])
        ·rw [w0g (by rw [h7];simp)] at hT;refine fR Z ?_;refine Run.fin Z (z3.go ?_);exact .t (by rw [←hT])
def z3E (lit:Bool) (v:Val):Bool:=z2V v lit&&(v.keys.all (fun k=>!(lit&&!zo k))&&v.items.attach.all (fun x=>z3E lit x.1))
termination_by SizeOf.sizeOf v
decreasing_by exact Val.yd v x.2
theorem zcU (lit:Bool) (v:Val):z3E lit v=(z2V v lit&&(v.keys.all (fun k=>!(lit&&!zo k))&&v.items.all (z3E lit))):=by
 rw [z3E];congr 2;rw [w1n];simp [w0i]
def WhC (P:Program) (lit:Bool) (v:Val):Prop:=z5 P 173 [v.v,.t (.bool lit)] ⟨[],0⟩ {v:= .t (.bool (z3E lit v))}
theorem z5D (H:QW P) (lit:Bool) (v:Val) (hv:v.Ok) (ih:∀x,x∈v.items->WhC P lit x):WhC P lit v:=by
 have hil:=hv.il;have hkl:=hv.kl;unfold WhC;rw [zcU];refine z5.run H.i173 H.mixed Z Z ?_;refine fR Z ?_;refine Mid.call (z93 H v hv lit) Z Z Z Z ?_;refine fM Z ?_;refine Run.cond Z Z (fun h0=>?_) (fun h0=>?_)
 ·have h0':z2V v lit=false:=by simpa using h0
  refine fR Z ?_;refine Run.fin Z (z3.go ?_);exact .t (by rw [h0'];rfl)
 ·have h0':z2V v lit=true:=by simpa using h0
  rw [h0',w1b];refine fR Z ?_;refine zn v.keys (fun i (_:Unit)=>{env:=[(1,.t (.bool lit)),(2,.ptr 0 0),(5,.t (.int .i64 i))],s:=⟨[(0,(VCo v))],1⟩}) (fun r i _=>v.keys.all (fun k=>!(lit&&!zo k))=r.all (fun k=>!(lit&&!zo k))) 1 () Z Z Z Z Z ?_ ?_
  ·intro _ hk
   have hk':v.keys.all (fun k=>!(lit&&!zo k))=true:=by rw [hk];rfl
   rw [hk',w1b];refine fR Z ?_;refine lM Z Z Z ?_;refine fM Z ?_;refine Run.z9 Z Z (by simp) ?_;refine fR Z ?_;refine zn v.items (fun i (_:Unit)=>{env:=[(1,.t (.bool lit)),(2,.ptr 0 0),(6,.t (.int .i64 i))],s:=⟨[(0,(VCo v))],1⟩}) (fun r i _=>v.items.all (z3E lit)=r.all (z3E lit)) 1 () Z Z Z Z Z ?_ ?_
   ·intro _ hinv;refine fR Z ?_;refine lM Z Z Z ?_;refine fM Z ?_;refine Run.z9 Z Z (by simp) ?_;refine fR Z ?_;refine Run.fin Z (z3.go ?_);exact .t (by rw [hinv];rfl)
   ·intro i x r _ h1 hi hd hinv ihl;have hcall:=ih x (zMG h1);unfold WhC at hcall;refine fR Z ?_;refine lM Z Z Z ?_;refine fM Z ?_;refine Run.zb Z Z (by simp;omega) ?_;refine fR Z ?_;refine Mid.YI (Val.w4 x) Z Z Z h1 Z Z ?_;refine fM Z ?_;refine Mid.call (hcall) Z Z Z Z ?_;refine fM Z ?_;refine Run.cond Z Z (fun hc=>?_) (fun hc=>?_)
    ·have hc':z3E lit x=false:=by simpa using hc
     refine fR Z ?_;refine Run.fin Z (z3.go ?_);exact .t (by rw [hinv,List.all_cons,hc'];rfl)
    ·have hc':z3E lit x=true:=by simpa using hc
     refine fR Z ?_;refine aL Z Z Z Z Z ?_;refine fM Z ?_;exact zd 1 Z (ihl () (by rw [hinv,List.all_cons,hc'];rfl)) Z Z Z
  ·intro i x r _ h1 hi hd hinv ihl;have hxl:=hv.kt x (zMG h1);refine fR Z ?_;refine lM Z Z Z ?_;refine fM Z ?_;refine Run.zb Z Z (by simp;omega) ?_;refine fR Z ?_;refine elG Z Z Z Z h1 Z Z ?_;refine fM Z ?_;refine caG Z Z (fun hg=>⟨_,rfl,QH H.toPr x hxl,rfl⟩) Z Z ?_;refine fM Z ?_;refine Run.cond Z Z (fun hc=>?_) (fun hc=>?_)
   ·refine fR Z ?_;refine Run.fin Z (z3.go ?_);exact .t (by rw [hinv,List.all_cons,hc];rfl)
   ·refine fR Z ?_;refine aL Z Z Z Z Z ?_;refine fM Z ?_;exact zd 1 Z (ihl () (by rw [hinv,List.all_cons,hc];rfl)) Z Z Z
theorem z3d (H:QW P) (lit:Bool):∀(v:Val),v.Ok->WhC P lit v
 |v,hv=>z5D H lit v hv fun x hx=>z3d H lit x (hv.it x hx)
termination_by v=>SizeOf.sizeOf v
decreasing_by exact Val.yd v hx
def z1m (v:Val):Bool:=(decide (szV v<=4096)&&decide (dpV v<=24))&&z3E true v
theorem z7w (H:QW P) (v:Val) (hv:v.Ok):z5 P 151 [v.v] ⟨[],0⟩ {v:= .t (.bool (z1m v))}:=by
 have h1:=z4r H v hv;have h2:=z3x H v hv;have h3:=z3d H true v hv;unfold SzC at h1;unfold DpC at h2;unfold WhC at h3;refine z5.run H.i151 H.mixed Z Z ?_;refine fR Z ?_;refine Mid.call (h1) Z Z Z Z ?_;refine fM Z ?_;refine caG Z Z (fun hg=>⟨_,rfl,h2,rfl⟩) Z Z ?_;refine fM Z ?_;refine caG Z Z (fun hg=>⟨_,rfl,h3,rfl⟩) Z Z ?_;refine fM Z ?_;refine Run.fin Z (z3.go ?_);exact .t Z
end Go.GB.C11
namespace Go.GB.C11
open Go.GB
variable {P:Program}
theorem Wa (a b:Ref):wL a b=wL b a:=by
 unfold wL;rw [w1n];simp;exact ⟨fun h=>⟨h.1.symm,h.2.symm⟩,fun h=>⟨h.1.symm,h.2.symm⟩⟩
theorem Wr (H:QW P) (a b:Ref) (ha:a.Ok) (hb:b.Ok):z5 P 53 [a.v,b.v] ⟨[],0⟩ {v:= .t (.bool (wL a b))}:=by
 have h1:=ha.l;have h2:=hb.l;refine z5.run H.i53 H.mixed Z Z ?_;refine fR Z ?_;refine caG Z Z (fun hg=>⟨_,rfl,z8R H.toPr a.z8 b.z8 (by omega) (by omega),rfl⟩) Z Z ?_;refine fM Z ?_;refine Run.fin Z (z3.go ?_);exact .t Z
theorem z4S (H:QW P) (ds:List Def) (hD:Z2 ds) (n:Str) (k:Int) (hk:k≠0):z5 P 117 [yY ds,.t (.str n),.t (.int .i64 k)] ⟨[],0⟩ {v:= .t (.int .i64 (yl ds n k))}:=by
 refine z5.run H.i117 H.mixed Z Z ?_;refine fR Z ?_;refine Mid.call (yn H.toPr ds hD.l n) Z Z Z Z ?_;refine fM Z ?_;refine caG Z Z (fun hg=>⟨_,rfl,W9 H.toPr n,rfl⟩) Z Z ?_;refine fM Z ?_;refine Run.cond Z Z (fun h1=>?_) (fun h1=>?_)
 ·refine fR Z ?_;refine Run.fin Z (z3.go ?_);exact .t (by unfold yl;rw [w0e h1])
 ·have h1':¬ (!(ze n ds).isSome&&!(Qe n))=true:=by
   rw [show (!(ze n ds).isSome&&!(Qe n))=false from h1];simp
  refine fR Z ?_;refine Run.cond Z Z (fun h2=>?_) (fun h2=>?_)
  ·have h2':(!(ze n ds).isSome||((ze n ds).getD Def.zero).kind !=k)=true:=by
    have:(((ze n ds).getD Def.zero).kind !=k)=true:=h2;rw [this];simp
   refine fR Z ?_;refine Run.fin Z (z3.go ?_);exact .t (by unfold yl;rw [w0g h1',w0e h2'])
  ·have h2':¬ (!(ze n ds).isSome||((ze n ds).getD Def.zero).kind !=k)=true:=by
    have:(((ze n ds).getD Def.zero).kind !=k)=false:=h2;rw [this]
    cases hf:ze n ds with
    |none=>rw [hf] at this;exact absurd (by simpa [Def.zero] using this) hk.symm
    |some d=>simp
   refine fR Z ?_;refine Run.fin Z (z3.go ?_);exact .t (by unfold yl;rw [w0g h1',w0g h2'])
theorem z9U (H:QW P) (ds:List Def) (hD:Z2 ds) (t:Def) (ht:t.Ok) (x:Field) (hx:x.Ok) (hl:(z6X ds t x).length<=4398046511104):z5 P 119 [yY ds,t.v,x.v] ⟨[],0⟩ {v:= .t (.lst ((z6X ds t x).map z4.enc))}:=by
 have hxn:=hx.nm;have htn:=ht.nm;have hxa:=hx.al
 have hatl:List.length (atF t x)<=281474976710657:=by unfold atF;simp;omega
 generalize hT:z6X ds t x=tot at hl;unfold z6X at hT;generalize hAt:atF t x=at_ at hT hatl;have hAt':t.name++[46]++x.name=at_:=hAt;refine z5.run H.i119 H.mixed Z Z ?_;refine fR Z ?_;refine pu Z ?_;refine fM Z ?_;refine pu Z ?_;refine fM Z ?_;rw [hAt'];refine Mid.call (yL H.toPr t ht.fl x.name) Z Z Z Z ?_;refine fM Z ?_
 cases hy:zu x.name t.fields with
 |none=>
  rw [hy] at hT;refine Run.zb Z Z Z ?_;refine fR Z ?_;refine Run.fin Z (z3.go ?_)
  first
  |exact .t (by rw [←hT];rfl)
  |exact .own (by rw [←hT];rfl)
 |some y=>
  rw [hy] at hT;simp only at hT;have hyo:=ht.f y (WI hy);have hya:=hyo.al;refine Run.z9 Z Z Z ?_;refine fR Z ?_;refine Mid.call (zap H.toPr ds hD y.ty x.ty hyo.t hx.t) Z Z Z Z ?_;refine fM Z ?_
  have tail:∀B0:List z4,B0++(Qb y at_ x.args++qW x at_ y.args)=tot->Run P n119 (⟨[],0⟩:S).nxt (z3 ⟨[],0⟩ {v:= .t (.lst (tot.map z4.enc))} r119 Ys.ret)
    [It.c c119_20,It.blk 0,It.c c119_11] {env:=[(5,.ptr 2 0),(7,.t (.str at_)),(8,.ptr 3 0),(10,.own 4 2 (List.map z4.enc (B0))),(11,.t (.int .i64 0))],s:=⟨[(2,.cells [.t (.str x.name),.t (.lst (x.args.map Input.enc)),.t (.str x.ty.name),.t (.lst (x.ty.z8.map nE)),.t (.lst (x.zg.map Dir.enc))]),(3,.cells [.t (.str y.name),.t (.lst (y.args.map Input.enc)),.t (.str y.ty.name),.t (.lst (y.ty.z8.map nE)),.t (.lst (y.zg.map Dir.enc))]),(4,.arr (B0).length)],5⟩}:=by
   intro B0 hB0;refine zn x.args (fun i (B:List z4)=>{env:=[(5,.ptr 2 0),(7,.t (.str at_)),(8,.ptr 3 0),(10,.own 4 2 (List.map z4.enc (B))),(11,.t (.int .i64 i))],s:=⟨[(2,.cells [.t (.str x.name),.t (.lst (x.args.map Input.enc)),.t (.str x.ty.name),.t (.lst (x.ty.z8.map nE)),.t (.lst (x.zg.map Dir.enc))]),(3,.cells [.t (.str y.name),.t (.lst (y.args.map Input.enc)),.t (.str y.ty.name),.t (.lst (y.ty.z8.map nE)),.t (.lst (y.zg.map Dir.enc))]),(4,.arr (B).length)],5⟩}) (fun r i B=>B++(Qb y at_ r++qW x at_ y.args)=tot) 5 B0 Z hB0 Z Z Z ?_ ?_
   ·rintro B hB;simp only [Qb,w0u] at hB;refine fR Z ?_;refine lM Z Z Z ?_;refine fM Z ?_;refine Run.z9 Z Z (by simp) ?_;refine fR Z ?_;refine zn y.args (fun i (B:List z4)=>{env:=[(5,.ptr 2 0),(7,.t (.str at_)),(8,.ptr 3 0),(10,.own 4 2 (List.map z4.enc (B))),(14,.t (.int .i64 i))],s:=⟨[(2,.cells [.t (.str x.name),.t (.lst (x.args.map Input.enc)),.t (.str x.ty.name),.t (.lst (x.ty.z8.map nE)),.t (.lst (x.zg.map Dir.enc))]),(3,.cells [.t (.str y.name),.t (.lst (y.args.map Input.enc)),.t (.str y.ty.name),.t (.lst (y.ty.z8.map nE)),.t (.lst (y.zg.map Dir.enc))]),(4,.arr (B).length)],5⟩}) (fun r i B=>B++qW x at_ r=tot) 5 B Z hB Z Z Z ?_ ?_
    ·rintro C hC
     obtain rfl:C=tot:=by rw [←hC];simp [qW]
     refine fR Z ?_;refine lM Z Z Z ?_;refine fM Z ?_;refine Run.z9 Z Z (by simp) ?_;refine fR Z ?_;refine Run.fin Z (z3.go ?_);exact .own Z
    ·rintro i b r C h1 hi hd hC ih;have hb:=hyo.a b (zMG h1);have hbn:=hb.nm;have hlen:=congrArg List.length hC;simp only [w03] at hlen;refine fR Z ?_;refine lM Z Z Z ?_;refine fM Z ?_;refine Run.zb Z Z (by simp;omega) ?_;refine fR Z ?_;refine Mid.z6 Z Z Z h1 Z Z ?_;refine fM Z ?_;refine Mid.call (yP H.toPr x.args hxa b.name) Z Z Z Z ?_;refine fM Z ?_;refine elG Z Z Z Z h1 Z Z ?_;refine fM Z ?_;refine caG Z Z (fun hg=>⟨_,rfl,Qq H.toPr b.ty hb.t,rfl⟩) Z Z ?_;refine fM Z ?_;refine elG Z Z Z Z h1 Z Z ?_;refine fM Z ?_;refine Run.cond Z Z (fun hc=>?_) (fun hc=>?_)
     ·have hc':zdg x b=true:=hc;simp only [qW] at hC hlen;rw [w0e hc'] at hC hlen;simp only [w0d] at hlen;refine fR Z ?_;refine pu Z ?_;refine fM Z ?_;refine Mid.z6 Z Z Z h1 Z Z ?_;refine fM Z ?_;refine pu Z ?_;refine pu Z ?_;refine fM Z ?_;refine apM z4.enc C [(⟨22,at_++[40]++b.name++[41]⟩:z4)] Z Z Z Z Z ?_ (h1:=by first |omega|(simp;omega)|(simp;done)) (h2:=by first |omega|(simp;omega)|(simp;done));refine fM rfl ?_;refine aL rfl rfl rfl rfl rfl ?_;refine fM rfl ?_;exact zd 5 rfl (ih (C++[⟨22,at_++[40]++b.name++[41]⟩]) (by rw [←hC];simp)) rfl rfl rfl
     ·have hc':¬ zdg x b=true:=by rw [show zdg x b=false from hc];simp
      simp only [qW] at hC;rw [w0g hc'] at hC;refine fR Z ?_;refine aL Z Z Z Z Z ?_;refine fM Z ?_;exact zd 5 Z (ih C hC) Z Z Z
   ·rintro i a r B h1 hi hd hB ih;have ha:=hx.a a (zMG h1);have han:=ha.nm;have hlen:=congrArg List.length hB;simp only [w03] at hlen;have hio:=zer hyo.a a.name;refine fR Z ?_;refine lM Z Z Z ?_;refine fM Z ?_;refine Run.zb Z Z (by simp;omega) ?_;refine fR Z ?_;refine Mid.z6 Z Z Z h1 Z Z ?_;refine fM Z ?_;refine Mid.call (yP H.toPr y.args hya a.name) Z Z Z Z ?_;refine fM Z ?_;refine elG Z Z Z Z h1 Z Z ?_;refine fM Z ?_;refine caG Z Z (fun hg=>⟨_,rfl,Wr H ((zw a.name y.args).getD Input.zero).ty a.ty hio.t ha.t,rfl⟩) Z Z ?_;refine fM Z ?_;refine Run.cond Z Z (fun hc=>?_) (fun hc=>?_)
    ·have hc':zd8 y a=true:=by
      have h:=hc;rw [Wa] at h;exact h
     simp only [Qb] at hB hlen;rw [w0e hc'] at hB hlen;simp only [w0d,w1y] at hB hlen;refine fR Z ?_;refine pu Z ?_;refine fM Z ?_;refine Mid.z6 Z Z Z h1 Z Z ?_;refine fM Z ?_;refine pu Z ?_;refine pu Z ?_;refine fM Z ?_;refine apM z4.enc B [(⟨22,at_++[40]++a.name++[41]⟩:z4)] Z Z Z Z Z ?_ (h1:=by first |omega|(simp;omega)|(simp;done)) (h2:=by first |omega|(simp;omega)|(simp;done));refine fM rfl ?_;refine aL rfl rfl rfl rfl rfl ?_;refine fM rfl ?_;exact zd 5 rfl (ih (B++[⟨22,at_++[40]++a.name++[41]⟩]) (by rw [←hB];simp)) rfl rfl rfl
    ·have hc':¬ zd8 y a=true:=by
      have h:=hc;rw [Wa] at h;rw [show zd8 y a=false from h];simp
     simp only [Qb] at hB;rw [w0g hc'] at hB;refine fR Z ?_;refine aL Z Z Z Z Z ?_;refine fM Z ?_;exact zd 5 Z (ih B hB) Z Z Z
  refine Run.cond Z Z (fun hs=>?_) (fun hs=>?_)
  ·have hs':¬ z8v ds y.ty x.ty=true:=by simpa using hs
   rw [w0g hs'] at hT;refine fR Z ?_;refine apN z4.enc [(⟨10,at_⟩:z4)] Z Z Z ?_ (h1:=by first |omega|(simp;omega)|(simp;done)) (h2:=by first |omega|(simp;omega)|(simp;done));refine fM rfl ?_;refine ZD 5 rfl (tail [⟨10,at_⟩] hT) rfl rfl rfl
  ·have hs':z8v ds y.ty x.ty=true:=by simpa using hs
   rw [w0e hs'] at hT;refine fR Z ?_;refine ZD 4 Z (tail [] hT) Z Z Z
theorem z7m (H:QW P) (ds:List Def) (hD:Z2 ds) (t:Def) (ht:t.Ok) (hl:(za5 ds t).length<=4398046511104):z5 P 66 [yY ds,t.v] ⟨[],0⟩ {v:= .t (.lst ((za5 ds t).map z4.enc))}:=by
 have hil:=ht.il;unfold za5 at hl⊢;generalize hT:z5B ds t [] t.implements=tot at hl;refine z5.run H.i66 H.mixed Z Z ?_;refine fR Z ?_;refine zn t.implements (fun i (B:List z4)=>{env:=[(2,.ptr 0 0),(3,.ptr 1 0),(5,.own 2 2 (List.map z4.enc (B))),(6,.t (.int .i64 i))],s:=⟨[(0,.cells [.t (.lst (ds.map Def.enc))]),(1,(TCo t)),(2,.arr (B).length)],3⟩}) (fun r i B=>B++z5B ds t (t.implements.take i) r=tot) 2 [] Z (by simpa using hT) Z Z Z ?_ ?_
 ·rintro B hB
  obtain rfl:B=tot:=by rw [←hB];simp [z5B]
  refine fR Z ?_;refine lM Z Z Z ?_;refine fM Z ?_;refine Run.z9 Z Z (by simp) ?_;refine fR Z ?_;refine Run.fin Z (z3.go ?_);exact .own Z
 ·rintro i n r B h1 hi hd hB ih
  have htk:t.implements.take i++[n]=t.implements.take (i+1):=by rw [w1f,h1];rfl
  have hB':B++((if z3N ds (t.implements.take i) n=0 then qT ds t ((ze n ds).getD Def.zero).fields else [(⟨z3N ds (t.implements.take i) n,t.name⟩:z4)])++z5B ds t (t.implements.take (i+1)) r)=tot:=by rw [←htk];exact hB
  have hlen:B.length+(if z3N ds (t.implements.take i) n=0 then qT ds t ((ze n ds).getD Def.zero).fields else [(⟨z3N ds (t.implements.take i) n,t.name⟩:z4)]).length<=4398046511104:=by
   have:=congrArg List.length hB';simp only [w03] at this;omega
  have htkl:(t.implements.take i).length<=140737488355328:=by simp;omega
  have hF:=z0K hD n;refine fR Z ?_;refine lM Z Z Z ?_;refine fM Z ?_;refine Run.zb Z Z (by simp;omega) ?_;refine fR Z ?_;refine Mid.z6 Z Z Z h1 Z Z ?_;refine fM Z ?_;refine Mid.call (z4S H ds hD n 2 (by decide)) Z Z Z Z ?_;refine fM Z ?_;refine zf2 Z Z Z Z Z ?_;refine fM Z ?_;refine elG Z Z Z Z h1 Z Z ?_;refine fM Z ?_;refine caG Z Z (fun hg=>⟨_,rfl,z5A H.toPr (t.implements.take i) htkl n,rfl⟩) Z Z ?_;refine fM Z ?_;refine Run.cond Z Z (fun h7=>?_) (fun h7=>?_)
  ·have e7:z3N ds (t.implements.take i) n=7:=by unfold z3N;rw [w0e h7]
   rw [e7] at hB' hlen;simp at hB' hlen;refine fR Z ?_;refine Run.zb Z Z Z ?_;refine fR Z ?_;refine apM z4.enc B [(⟨7,t.name⟩:z4)] Z Z Z Z Z ?_ (h1:=by first |omega|(simp;omega)|(simp;done)) (h2:=by first |omega|(simp;omega)|(simp;done));refine fM rfl ?_;refine aL rfl rfl rfl rfl rfl ?_;refine fM rfl ?_;exact zd 3 rfl (ih (B++[⟨7,t.name⟩]) (by rw [←hB'];simp)) rfl rfl rfl
  ·have e7:z3N ds (t.implements.take i) n=yl ds n 2:=by unfold z3N;rw [w0g (by rw [show (yl ds n 2==0&&decide (n∈t.implements.take i))=false from h7];simp)]
   rw [e7] at hB' hlen;refine fR Z ?_;refine Run.cond Z Z (fun he=>?_) (fun he=>?_)
   ·have he':¬ yl ds n 2=0:=by simpa using he
    rw [w0g he'] at hB' hlen;simp at hB' hlen;refine fR Z ?_;refine apM z4.enc B [(⟨yl ds n 2,t.name⟩:z4)] Z Z Z Z Z ?_ (h1:=by first |omega|(simp;omega)|(simp;done)) (h2:=by first |omega|(simp;omega)|(simp;done));refine fM rfl ?_;refine aL rfl rfl rfl rfl rfl ?_;refine fM rfl ?_;exact zd 3 rfl (ih (B++[⟨yl ds n 2,t.name⟩]) (by rw [←hB'];simp)) rfl rfl rfl
   ·have he':yl ds n 2=0:=by simpa using he
    rw [w0e he'] at hB' hlen;refine fR Z ?_;refine Mid.z6 Z Z Z h1 Z Z ?_;refine fM Z ?_;refine Mid.call (yn H.toPr ds hD.l n) Z Z Z Z ?_;refine fM Z ?_;generalize hf:(ze n ds).getD Def.zero=f at hF hB' hlen;have hff:=hF.fl;generalize hG:qT ds t f.fields=G at hB' hlen;refine zn f.fields (fun j (C:List z4)=>{env:=[(2,.ptr 0 0),(3,.ptr 1 0),(5,.own 2 2 (List.map z4.enc C)),(6,.t (.int .i64 i)),(8,.ptr 3 0),(10,.t (.int .i64 j))],s:=⟨[(0,.cells [.t (.lst (ds.map Def.enc))]),(1,(TCo t)),(2,.arr C.length),(3,(TCo f))],4⟩}) (fun r2 j C=>C++qT ds t r2=B++G) 4 B Z (by rw [←hG]) Z Z Z ?_ ?_
    ·rintro C hC;simp only [qT,w1j] at hC;subst hC;refine fR Z ?_;refine lM Z Z Z ?_;refine fM Z ?_;refine Run.z9 Z Z (by simp) ?_;refine fR Z ?_;refine aL Z Z Z Z Z ?_;refine fM Z ?_;exact zd 3 Z (ih (B++G) (by rw [←hB'];simp)) Z Z Z
    ·rintro j x r2 C g1 gi gd hC ih2;have hx:=hF.f x (zMG g1);have hln2:=congrArg List.length hC;simp only [qT,w03] at hln2;have hcall:=z9U H ds hD t ht x hx (by omega);simp only [qT] at hC;generalize z6X ds t x=N at hC hln2 hcall;refine fR Z ?_;refine lM Z Z Z ?_;refine fM Z ?_;refine Run.zb Z Z (by simp;omega) ?_;refine fR Z ?_;refine Mid.z6 Z Z Z g1 Z Z ?_;refine fM Z ?_;refine Mid.call (hcall) Z Z Z Z ?_;skip;refine apM z4.enc C N Z Z Z Z Z ?_ (h1:=by first |omega|(simp;omega)|(simp;done)) (h2:=by first |omega|(simp;omega)|(simp;done));refine fM rfl ?_;refine aL rfl rfl rfl rfl rfl ?_;refine fM rfl ?_;exact zd 4 rfl (ih2 (C++N) (by rw [←hC];simp)) rfl rfl rfl
theorem z9V (H:QW P) (ds:List Def) (hD:Z2 ds) (t:Def) (ht:t.Ok) (hl:(unL ds t [] t.members).length<=4398046511104):z5 P 67 [yY ds,t.v] ⟨[],0⟩ {v:= .t (.lst ((unL ds t [] t.members).map z4.enc))}:=by
 have hml:=ht.ml;have htn:=ht.nm;generalize hT:unL ds t [] t.members=tot at hl;refine z5.run H.i67 H.mixed Z Z ?_;refine fR Z ?_;refine zn t.members (fun i (B:List z4)=>{env:=[(2,.ptr 0 0),(3,.ptr 1 0),(5,.own 2 2 (List.map z4.enc (B))),(6,.t (.int .i64 i))],s:=⟨[(0,.cells [.t (.lst (ds.map Def.enc))]),(1,(TCo t)),(2,.arr (B).length)],3⟩}) (fun r i B=>B++unL ds t (t.members.take i) r=tot) 2 [] Z (by simpa using hT) Z Z Z ?_ ?_
 ·rintro B hB
  obtain rfl:B=tot:=by rw [←hB];simp [unL]
  refine fR Z ?_;refine lM Z Z Z ?_;refine fM Z ?_;refine Run.z9 Z Z (by simp) ?_;refine fR Z ?_;refine Run.fin Z (z3.go ?_);exact .own Z
 ·rintro i m r B h1 hi hd hB ih;have hm:=ht.m m (zMG h1);have hmn:=hm.nm
  have htk:t.members.take i++[m]=t.members.take (i+1):=by rw [w1f,h1];rfl
  simp only [unL,htk] at hB;have hlen:=congrArg List.length hB;simp only [w03] at hlen
  have htkl:(t.members.take i).length<=140737488355328:=by simp;omega
  refine fR Z ?_;refine lM Z Z Z ?_;refine fM Z ?_;refine Run.zb Z Z (by simp;omega) ?_;refine fR Z ?_;refine Mid.z6 Z Z Z h1 Z Z ?_;refine fM Z ?_;refine Mid.call (z4S H ds hD m.name 1 (by decide)) Z Z Z Z ?_;refine fM Z ?_;refine zf2 Z Z Z Z Z ?_;refine fM Z ?_;refine caG Z Z (fun hg=>⟨_,rfl,z4u H.toPr ⟨0,[],[],[],[],t.members.take i,[]⟩ htkl m.name,rfl⟩) Z Z ?_;refine fM Z ?_;refine Run.cond Z Z (fun h7=>?_) (fun h7=>?_)
  ·have e7:unE ds (t.members.take i) m=7:=by unfold unE;rw [w0e h7]
   rw [e7] at hB hlen;simp at hB hlen;refine fR Z ?_;refine Run.zb Z Z Z ?_;refine fR Z ?_;refine pu Z ?_;refine fM Z ?_;refine pu Z ?_;refine fM Z ?_;refine apM z4.enc B [(⟨7,t.name++[46]++m.name⟩:z4)] Z Z Z Z Z ?_ (h1:=by first |omega|(simp;omega)|(simp;done)) (h2:=by first |omega|(simp;omega)|(simp;done));refine fM rfl ?_;refine aL rfl rfl rfl rfl rfl ?_;refine fM rfl ?_;exact zd 3 rfl (ih (B++[⟨7,t.name++[46]++m.name⟩]) (by rw [←hB];simp)) rfl rfl rfl
  ·have e7:unE ds (t.members.take i) m=yl ds m.name 1:=by unfold unE;rw [w0g (by rw [show (yl ds m.name 1==0&&Wl (t.members.take i) m.name)=false from h7];simp)]
   rw [e7] at hB hlen;refine fR Z ?_;refine Run.cond Z Z (fun he=>?_) (fun he=>?_)
   ·have he':¬ yl ds m.name 1=0:=by simpa using he
    rw [w0g he'] at hB hlen;simp at hB hlen;refine fR Z ?_;refine pu Z ?_;refine fM Z ?_;refine pu Z ?_;refine fM Z ?_;refine apM z4.enc B [(⟨yl ds m.name 1,t.name++[46]++m.name⟩:z4)] Z Z Z Z Z ?_ (h1:=by first |omega|(simp;omega)|(simp;done)) (h2:=by first |omega|(simp;omega)|(simp;done));refine fM rfl ?_;refine aL rfl rfl rfl rfl rfl ?_;refine fM rfl ?_;exact zd 3 rfl (ih (B++[⟨yl ds m.name 1,t.name++[46]++m.name⟩]) (by rw [←hB];simp)) rfl rfl rfl
   ·have he':yl ds m.name 1=0:=by simpa using he
    rw [w0e he'] at hB hlen;refine fR Z ?_;refine aL Z Z Z Z Z ?_;refine fM Z ?_;exact zd 3 Z (ih B (by rw [←hB];simp)) Z Z Z
theorem z9M (H:QW P) (ds:List Def) (hD:Z2 ds) (hl:(Zq ds).length<=4398046511104):z5 P 25 [yY ds] ⟨[],0⟩ {v:= .t (.lst ((Zq ds).map z4.enc))}:=by
 have hdl:=hD.l;unfold Zq at hl⊢;generalize hT:WA ds ds=tot at hl;refine z5.run H.i25 H.mixed Z Z ?_;refine fR Z ?_;refine zn ds (fun i (B:List z4)=>{env:=[(1,.ptr 0 0),(3,.own 1 2 (List.map z4.enc B)),(4,.t (.int .i64 i))],s:=⟨[(0,.cells [.t (.lst (ds.map Def.enc))]),(1,.arr B.length)],2⟩}) (fun r i B=>B++WA ds r=tot) 1 [] Z (by simpa using hT) Z Z Z ?_ ?_
 ·rintro B hB
  obtain rfl:B=tot:=by rw [←hB];simp [WA]
  refine fR Z ?_;refine lM Z Z Z ?_;refine fM Z ?_;refine Run.z9 Z Z (by simp) ?_;refine fR Z ?_;refine Run.fin Z (z3.go ?_);exact .own Z
 ·rintro i t r B h1 hi hd hB ih;have ht:=hD.d t (zMG h1);have hlen:=congrArg List.length hB;simp only [w03] at hlen;refine fR Z ?_;refine lM Z Z Z ?_;refine fM Z ?_;refine Run.zb Z Z (by simp;omega) ?_;refine fR Z ?_;refine Mid.z6 Z Z Z h1 Z Z ?_;refine fM Z ?_;refine Run.cond Z Z (fun hk=>?_) (fun hk=>?_)
  ·have hk':t.kind=1:=by simpa using hk
   simp only [WA] at hB hlen;rw [w0e hk'] at hB hlen;simp only [w03] at hlen;have hcall:=z7m H ds hD t ht (by omega);generalize za5 ds t=N at hB hlen hcall;refine fR Z ?_;refine Mid.z6 Z Z Z h1 Z Z ?_;refine fM Z ?_;refine Mid.call (hcall) Z Z Z Z ?_;skip;refine apM z4.enc B N Z Z Z Z Z ?_ (h1:=by first |omega|(simp;omega)|(simp;done)) (h2:=by first |omega|(simp;omega)|(simp;done));refine fM rfl ?_;refine aL rfl rfl rfl rfl rfl ?_;refine fM rfl ?_;exact zd 2 rfl (ih (B++N) (by rw [←hB];simp)) rfl rfl rfl
  ·have hk':¬ t.kind=1:=by simpa using hk
   simp only [WA] at hB hlen;rw [w0g hk'] at hB hlen;simp only [w03] at hlen;refine fR Z ?_;refine Run.cond Z Z (fun hk3=>?_) (fun hk3=>?_)
   ·have hk3':t.kind=3:=by simpa using hk3
    rw [w0e hk3'] at hB hlen;have hcall:=z9V H ds hD t ht (by omega);generalize unL ds t [] t.members=N at hB hlen hcall;refine fR Z ?_;refine Mid.z6 Z Z Z h1 Z Z ?_;refine fM Z ?_;refine Mid.call (hcall) Z Z Z Z ?_;skip;refine apM z4.enc B N Z Z Z Z Z ?_ (h1:=by first |omega|(simp;omega)|(simp;done)) (h2:=by first |omega|(simp;omega)|(simp;done));refine fM rfl ?_;refine aL rfl rfl rfl rfl rfl ?_;refine fM rfl ?_;exact zd 2 rfl (ih (B++N) (by rw [←hB];simp)) rfl rfl rfl
   ·have hk3':¬ t.kind=3:=by simpa using hk3
    rw [w0g hk3'] at hB;refine fR Z ?_;refine aL Z Z Z Z Z ?_;refine fM Z ?_;exact zd 2 Z (ih B (by rw [←hB];simp)) Z Z Z
end Go.GB.C11
namespace Go.GB.C24
open Go.GB Go.GB.C11
structure zG (P:Program):Prop where
 p13:QW P
 p35:C35.Pr P
 pR:C29.PrR P
 mixed:P.follows .mixedOrders=true
 i3:z7 P 3=some (n3,c3.bare,r3)
 i4:z7 P 4=some (n4,c4.bare,r4)
 i5:z7 P 5=some (n5,c5.bare,r5)
 i6:z7 P 6=some (n6,c6.bare,r6)
 i8:z7 P 8=some (n8,c8.bare,r8)
 i9:z7 P 9=some (n9,c9.bare,r9)
 i10:z7 P 10=some (n10,c10.bare,r10)
 i11:z7 P 11=some (n11,c11.bare,r11)
 i15:z7 P 15=some (n15,c15.bare,r15)
 i16:z7 P 16=some (n16,c16.bare,r16)
 i17:z7 P 17=some (n17,c17.bare,r17)
 i19:z7 P 19=some (n19,c19.bare,r19)
 i20:z7 P 20=some (n20,c20.bare,r20)
 i26:z7 P 26=some (n26,c26.bare,r26)
 i27:z7 P 27=some (n27,c27.bare,r27)
 i29:z7 P 29=some (n29,c29.bare,r29)
 i30:z7 P 30=some (n30,c30.bare,r30)
 i31:z7 P 31=some (n31,c31.bare,r31)
 i34:z7 P 34=some (n34,c34.bare,r34)
 i35:z7 P 35=some (n35,c35.bare,r35)
 i37:z7 P 37=some (n37,c37.bare,r37)
 i38:z7 P 38=some (n38,c38.bare,r38)
 i39:z7 P 39=some (n39,c39.bare,r39)
 i40:z7 P 40=some (n40,c40.bare,r40)
 i41:z7 P 41=some (n41,c41.bare,r41)
 i42:z7 P 42=some (n42,c42.bare,r42)
 i43:z7 P 43=some (n43,c43.bare,r43)
 i44:z7 P 44=some (n44,c44.bare,r44)
 i45:z7 P 45=some (n45,c45.bare,r45)
 i46:z7 P 46=some (n46,c46.bare,r46)
 i47:z7 P 47=some (n47,c47.bare,r47)
 i48:z7 P 48=some (n48,c48.bare,r48)
 i49:z7 P 49=some (n49,c49.bare,r49)
 i50:z7 P 50=some (n50,c50.bare,r50)
 i52:z7 P 52=some (n52,c52.bare,r52)
 i54:z7 P 54=some (n54,c54.bare,r54)
 i55:z7 P 55=some (n55,c55.bare,r55)
 i56:z7 P 56=some (n56,c56.bare,r56)
 i57:z7 P 57=some (n57,c57.bare,r57)
 i58:z7 P 58=some (n58,c58.bare,r58)
 i59:z7 P 59=some (n59,c59.bare,r59)
 i68:z7 P 68=some (n68,c68.bare,r68)
 i69:z7 P 69=some (n69,c69.bare,r69)
 i71:z7 P 71=some (n71,c71.bare,r71)
 i72:z7 P 72=some (n72,c72.bare,r72)
 i73:z7 P 73=some (n73,c73.bare,r73)
 i74:z7 P 74=some (n74,c74.bare,r74)
 i75:z7 P 75=some (n75,c75.bare,r75)
 i81:z7 P 81=some (n81,c81.bare,r81)
 i82:z7 P 82=some (n82,c82.bare,r82)
 i83:z7 P 83=some (n83,c83.bare,r83)
 i86:z7 P 86=some (n86,c86.bare,r86)
 i87:z7 P 87=some (n87,c87.bare,r87)
 i89:z7 P 89=some (n89,c89.bare,r89)
 i90:z7 P 90=some (n90,c90.bare,r90)
 i91:z7 P 91=some (n91,c91.bare,r91)
 i92:z7 P 92=some (n92,c92.bare,r92)
 i93:z7 P 93=some (n93,c93.bare,r93)
 i94:z7 P 94=some (n94,c94.bare,r94)
 i96:z7 P 96=some (n96,c96.bare,r96)
 i98:z7 P 98=some (n98,c98.bare,r98)
 i100:z7 P 100=some (n100,c100.bare,r100)
 i101:z7 P 101=some (n101,c101.bare,r101)
 i103:z7 P 103=some (n103,c103.bare,r103)
 i104:z7 P 104=some (n104,c104.bare,r104)
 i121:z7 P 121=some (n121,c121.bare,r121)
 i122:z7 P 122=some (n122,c122.bare,r122)
 i123:z7 P 123=some (n123,c123.bare,r123)
 i124:z7 P 124=some (n124,c124.bare,r124)
 i126:z7 P 126=some (n126,c126.bare,r126)
 i127:z7 P 127=some (n127,c127.bare,r127)
 i128:z7 P 128=some (n128,c128.bare,r128)
 i129:z7 P 129=some (n129,c129.bare,r129)
 i130:z7 P 130=some (n130,c130.bare,r130)
 i131:z7 P 131=some (n131,c131.bare,r131)
 i132:z7 P 132=some (n132,c132.bare,r132)
 i133:z7 P 133=some (n133,c133.bare,r133)
 i134:z7 P 134=some (n134,c134.bare,r134)
 i138:z7 P 138=some (n138,c138.bare,r138)
 i139:z7 P 139=some (n139,c139.bare,r139)
 i142:z7 P 142=some (n142,c142.bare,r142)
 i147:z7 P 147=some (n147,c147.bare,r147)
 i160:z7 P 160=some (n160,c160.bare,r160)
 i161:z7 P 161=some (n161,c161.bare,r161)
 i162:z7 P 162=some (n162,c162.bare,r162)
 i163:z7 P 163=some (n163,c163.bare,r163)
 i164:z7 P 164=some (n164,c164.bare,r164)
 i165:z7 P 165=some (n165,c165.bare,r165)
 i166:z7 P 166=some (n166,c166.bare,r166)
 i167:z7 P 167=some (n167,c167.bare,r167)
 i168:z7 P 168=some (n168,c168.bare,r168)
 i177:z7 P 177=some (n177,c177.bare,r177)
variable {P:Program}
def qK (n:Str):Bool:=n==[107,101,121]||n==[101,120,116,101,114,110,97,108]||n==[115,104,97,114,101,97,98,108,101]||n==[114,101,113,117,105,114,101,115]||n==[112,114,111,118,105,100,101,115]
theorem zef (H:zG P) (n:Str):z5 P 142 [.t (.str n)] ⟨[],0⟩ {v:= .t (.bool (qK n))}:=by
 refine z5.run H.i142 H.mixed Z Z ?_;refine fR Z ?_;refine Run.fin Z (z3.go ?_);exact .t (by simp [qK])
theorem Zo (H:zG P) (e:Int) (a:Str):z5 P 41 [.t (.int .i64 e),.t (.str a)] ⟨[],0⟩ {v:= .agg [.t (.int .i64 e),.t (.str a)]}:=by
 refine z5.run H.i41 H.mixed Z Z ?_;refine fR Z ?_;refine Run.fin Z (z3.go ?_);exact .agg (.cons (.t Z) (.cons (.t Z) .nil))
def ZE {α:Type} (p:α->α->Bool):List α->List α->Bool
 |[],[]=>true
 |a::r,b::s=>p a b&&ZE p r s
 |_,_=>false
theorem z6z {α:Type} {p:α->α->Bool}:∀{a b:List α},ZE p a b=true->a.length=b.length
 |[],[],_=>rfl
 |a::r,b::s,h=>by
  simp only [ZE,w07] at h;simp [z6z h.2]
 |[],b::s,h=>by simp [ZE] at h
 |a::r,[],h=>by simp [ZE] at h
theorem z0Y {α:Type} {p:α->α->Bool} {a b:List α} (h:¬ a.length=b.length):ZE p a b=false:=by
 cases e:ZE p a b
 ·rfl
 ·exact absurd (z6z e) h
def eqA (a b:Arg):Bool:=a.name==b.name&&C35.z1H a.val b.val
def eqD (a b:Dir):Bool:=a.name==b.name&&ZE eqA a.args b.args
def eqM (a b:zh):Bool:=a.name==b.name&&ZE eqD a.zg b.zg
def alike (a b:Input):Bool:=wL a.ty b.ty&&a.has==b.has&&C35.z1H a.YJ b.YJ
def eqI (a b:Input):Bool:=a.name==b.name&&alike a b&&ZE eqD a.zg b.zg
theorem z29 (H:zG P) (a b:List Arg) (ha:a.length<=140737488355328) (hb:b.length<=140737488355328) (hao:∀x,x∈a->x.Ok) (hbo:∀x,x∈b->x.Ok):z5 P 101 [.t (.lst (a.map Arg.enc)),.t (.lst (b.map Arg.enc))] ⟨[],0⟩ {v:= .t (.bool (ZE eqA a b))}:=by
 refine z5.run H.i101 H.mixed Z Z ?_;refine fR Z ?_;refine lM Z Z Z ?_;refine fM Z ?_;refine lM Z Z Z ?_;refine fM Z ?_;refine Run.cond Z Z (fun h=>?_) (fun h=>?_)
 ·have h':¬ a.length=b.length:=by simp at h;omega
  refine fR Z ?_;refine Run.fin Z (z3.go ?_);exact .t (by rw [z0Y h'])
 ·have h':a.length=b.length:=by simp at h;omega
  refine fR Z ?_;refine zn a (fun i (_:Unit)=>{env:=[(0,.t (.lst (a.map Arg.enc))),(1,.t (.lst (b.map Arg.enc))),(5,.t (.int .i64 i))],s:=⟨[],0⟩}) (fun r i _=>ZE eqA a b=ZE eqA r (b.drop i)) 0 () Z (by simp) Z Z Z ?_ ?_
  ·intro _ hinv;refine fR Z ?_;refine lM Z Z Z ?_;refine fM Z ?_;refine Run.z9 Z Z (by simp) ?_;refine fR Z ?_;refine Run.fin Z (z3.go ?_);exact .t (by rw [hinv,w1m (by omega)];rfl)
  ·intro i x r _ h1 hi hd hinv ih;obtain ⟨y,hy⟩:=yV h' hi;have hxo:=hao x (zMG h1);have hyo:=hbo y (zMG hy);have hinv':ZE eqA a b=ZE eqA (x::r) (b.drop i):=hinv;rw [C11.y9 hy] at hinv';have hinv':ZE eqA a b=(eqA x y&&ZE eqA r (b.drop (i+1))):=hinv';have hs0:=C35.z6W H.p35 x.val y.val hxo hyo;refine fR Z ?_;refine lM Z Z Z ?_;refine fM Z ?_;refine Run.zb Z Z (by simp;omega) ?_;refine fR Z ?_;refine Mid.z6 Z Z Z h1 Z Z ?_;refine fM Z ?_;refine Mid.z6 Z Z Z hy Z Z ?_;refine fM Z ?_;refine elG Z Z Z Z h1 Z Z ?_;refine fM Z ?_;refine elG Z Z Z Z hy Z Z ?_;refine fM Z ?_;refine caG Z Z (fun hg=>⟨_,rfl,hs0,rfl⟩) Z Z ?_;refine fM Z ?_;refine Run.cond Z Z (fun hc=>?_) (fun hc=>?_)
   ·have hc':eqA x y=false:=Bool.eq_false_iff.2 fun e=>by simp only [eqA,w07,beq_iff_eq] at e;simp [e] at hc
    refine fR Z ?_;refine Run.fin Z (z3.go ?_);exact .t (by rw [hinv',hc'];rfl)
   ·have hc':eqA x y=true:=by simp only [eqA];simpa using hc
    refine fR Z ?_;refine aL Z Z Z Z Z ?_;refine fM Z ?_;exact zd 0 Z (ih () (by rw [hinv',hc'];rfl)) Z Z Z
theorem Qw (H:zG P) (a b:List Dir) (ha:a.length<=140737488355328) (hb:b.length<=140737488355328) (hao:∀x,x∈a->x.Ok) (hbo:∀x,x∈b->x.Ok):z5 P 52 [.t (.lst (a.map Dir.enc)),.t (.lst (b.map Dir.enc))] ⟨[],0⟩ {v:= .t (.bool (ZE eqD a b))}:=by
 refine z5.run H.i52 H.mixed Z Z ?_;refine fR Z ?_;refine lM Z Z Z ?_;refine fM Z ?_;refine lM Z Z Z ?_;refine fM Z ?_;refine Run.cond Z Z (fun h=>?_) (fun h=>?_)
 ·have h':¬ a.length=b.length:=by simp at h;omega
  refine fR Z ?_;refine Run.fin Z (z3.go ?_);exact .t (by rw [z0Y h'])
 ·have h':a.length=b.length:=by simp at h;omega
  refine fR Z ?_;refine zn a (fun i (_:Unit)=>{env:=[(0,.t (.lst (a.map Dir.enc))),(1,.t (.lst (b.map Dir.enc))),(5,.t (.int .i64 i))],s:=⟨[],0⟩}) (fun r i _=>ZE eqD a b=ZE eqD r (b.drop i)) 0 () Z (by simp) Z Z Z ?_ ?_
  ·intro _ hinv;refine fR Z ?_;refine lM Z Z Z ?_;refine fM Z ?_;refine Run.z9 Z Z (by simp) ?_;refine fR Z ?_;refine Run.fin Z (z3.go ?_);exact .t (by rw [hinv,w1m (by omega)];rfl)
  ·intro i x r _ h1 hi hd hinv ih;obtain ⟨y,hy⟩:=yV h' hi;have hxo:=hao x (zMG h1);have hyo:=hbo y (zMG hy);have hinv':ZE eqD a b=ZE eqD (x::r) (b.drop i):=hinv;rw [C11.y9 hy] at hinv';have hinv':ZE eqD a b=(eqD x y&&ZE eqD r (b.drop (i+1))):=hinv';have hs0:=z29 H x.args y.args hxo.l hyo.l hxo.a hyo.a;refine fR Z ?_;refine lM Z Z Z ?_;refine fM Z ?_;refine Run.zb Z Z (by simp;omega) ?_;refine fR Z ?_;refine Mid.z6 Z Z Z h1 Z Z ?_;refine fM Z ?_;refine Mid.z6 Z Z Z hy Z Z ?_;refine fM Z ?_;refine elG Z Z Z Z h1 Z Z ?_;refine fM Z ?_;refine elG Z Z Z Z hy Z Z ?_;refine fM Z ?_;refine caG Z Z (fun hg=>⟨_,rfl,hs0,rfl⟩) Z Z ?_;refine fM Z ?_;refine Run.cond Z Z (fun hc=>?_) (fun hc=>?_)
   ·have hc':eqD x y=false:=Bool.eq_false_iff.2 fun e=>by simp only [eqD,w07,beq_iff_eq] at e;simp [e] at hc
    refine fR Z ?_;refine Run.fin Z (z3.go ?_);exact .t (by rw [hinv',hc'];rfl)
   ·have hc':eqD x y=true:=by simp only [eqD];simpa using hc
    refine fR Z ?_;refine aL Z Z Z Z Z ?_;refine fM Z ?_;exact zd 0 Z (ih () (by rw [hinv',hc'];rfl)) Z Z Z
theorem z2N (H:zG P) (a b:List zh) (ha:a.length<=140737488355328) (hb:b.length<=140737488355328) (hao:∀x,x∈a->x.Ok) (hbo:∀x,x∈b->x.Ok):z5 P 55 [.t (.lst (a.map zh.enc)),.t (.lst (b.map zh.enc))] ⟨[],0⟩ {v:= .t (.bool (ZE eqM a b))}:=by
 refine z5.run H.i55 H.mixed Z Z ?_;refine fR Z ?_;refine lM Z Z Z ?_;refine fM Z ?_;refine lM Z Z Z ?_;refine fM Z ?_;refine Run.cond Z Z (fun h=>?_) (fun h=>?_)
 ·have h':¬ a.length=b.length:=by simp at h;omega
  refine fR Z ?_;refine Run.fin Z (z3.go ?_);exact .t (by rw [z0Y h'])
 ·have h':a.length=b.length:=by simp at h;omega
  refine fR Z ?_;refine zn a (fun i (_:Unit)=>{env:=[(0,.t (.lst (a.map zh.enc))),(1,.t (.lst (b.map zh.enc))),(5,.t (.int .i64 i))],s:=⟨[],0⟩}) (fun r i _=>ZE eqM a b=ZE eqM r (b.drop i)) 0 () Z (by simp) Z Z Z ?_ ?_
  ·intro _ hinv;refine fR Z ?_;refine lM Z Z Z ?_;refine fM Z ?_;refine Run.z9 Z Z (by simp) ?_;refine fR Z ?_;refine Run.fin Z (z3.go ?_);exact .t (by rw [hinv,w1m (by omega)];rfl)
  ·intro i x r _ h1 hi hd hinv ih;obtain ⟨y,hy⟩:=yV h' hi;have hxo:=hao x (zMG h1);have hyo:=hbo y (zMG hy);have hinv':ZE eqM a b=ZE eqM (x::r) (b.drop i):=hinv;rw [C11.y9 hy] at hinv';have hinv':ZE eqM a b=(eqM x y&&ZE eqM r (b.drop (i+1))):=hinv';have hs0:=Qw H x.zg y.zg hxo.l hyo.l hxo.d hyo.d;refine fR Z ?_;refine lM Z Z Z ?_;refine fM Z ?_;refine Run.zb Z Z (by simp;omega) ?_;refine fR Z ?_;refine Mid.z6 Z Z Z h1 Z Z ?_;refine fM Z ?_;refine Mid.z6 Z Z Z hy Z Z ?_;refine fM Z ?_;refine elG Z Z Z Z h1 Z Z ?_;refine fM Z ?_;refine elG Z Z Z Z hy Z Z ?_;refine fM Z ?_;refine caG Z Z (fun hg=>⟨_,rfl,hs0,rfl⟩) Z Z ?_;refine fM Z ?_;refine Run.cond Z Z (fun hc=>?_) (fun hc=>?_)
   ·have hc':eqM x y=false:=Bool.eq_false_iff.2 fun e=>by simp only [eqM,w07,beq_iff_eq] at e;simp [e] at hc
    refine fR Z ?_;refine Run.fin Z (z3.go ?_);exact .t (by rw [hinv',hc'];rfl)
   ·have hc':eqM x y=true:=by simp only [eqM];simpa using hc
    refine fR Z ?_;refine aL Z Z Z Z Z ?_;refine fM Z ?_;exact zd 0 Z (ih () (by rw [hinv',hc'];rfl)) Z Z Z
theorem z3C (H:zG P) (a b:Input) (ha:a.Ok) (hb:b.Ok):z5 P 93 [Input.v a,Input.v b] ⟨[],0⟩ {v:= .t (.bool (alike a b))}:=by
 have h1:=Wr H.p13 a.ty b.ty ha.t hb.t;have h2:=C35.z6W H.p35 a.YJ b.YJ ha.v hb.v;refine z5.run H.i93 H.mixed Z Z ?_;refine fR Z ?_;refine Mid.call (h1) Z Z Z Z ?_;refine fM Z ?_;refine caG Z Z (fun hg=>⟨_,rfl,h2,rfl⟩) Z Z ?_;refine fM Z ?_;refine Run.fin Z (z3.go ?_);exact .t (by simp [alike])
theorem z3L (H:zG P) (a b:List Input) (ha:a.length<=140737488355328) (hb:b.length<=140737488355328) (hao:∀x,x∈a->x.Ok) (hbo:∀x,x∈b->x.Ok):z5 P 54 [.t (.lst (a.map Input.enc)),.t (.lst (b.map Input.enc))] ⟨[],0⟩ {v:= .t (.bool (ZE eqI a b))}:=by
 refine z5.run H.i54 H.mixed Z Z ?_;refine fR Z ?_;refine lM Z Z Z ?_;refine fM Z ?_;refine lM Z Z Z ?_;refine fM Z ?_;refine Run.cond Z Z (fun h=>?_) (fun h=>?_)
 ·have h':¬ a.length=b.length:=by simp at h;omega
  refine fR Z ?_;refine Run.fin Z (z3.go ?_);exact .t (by rw [z0Y h'])
 ·have h':a.length=b.length:=by simp at h;omega
  refine fR Z ?_;refine zn a (fun i (_:Unit)=>{env:=[(0,.t (.lst (a.map Input.enc))),(1,.t (.lst (b.map Input.enc))),(5,.t (.int .i64 i))],s:=⟨[],0⟩}) (fun r i _=>ZE eqI a b=ZE eqI r (b.drop i)) 0 () Z (by simp) Z Z Z ?_ ?_
  ·intro _ hinv;refine fR Z ?_;refine lM Z Z Z ?_;refine fM Z ?_;refine Run.z9 Z Z (by simp) ?_;refine fR Z ?_;refine Run.fin Z (z3.go ?_);exact .t (by rw [hinv,w1m (by omega)];rfl)
  ·intro i x r _ h1 hi hd hinv ih;obtain ⟨y,hy⟩:=yV h' hi;have hxo:=hao x (zMG h1);have hyo:=hbo y (zMG hy);have hinv':ZE eqI a b=ZE eqI (x::r) (b.drop i):=hinv;rw [C11.y9 hy] at hinv';have hinv':ZE eqI a b=(eqI x y&&ZE eqI r (b.drop (i+1))):=hinv';have hs0:=z3C H x y hxo hyo;have hs1:=Qw H x.zg y.zg hxo.l hyo.l hxo.d hyo.d;refine fR Z ?_;refine lM Z Z Z ?_;refine fM Z ?_;refine Run.zb Z Z (by simp;omega) ?_;refine fR Z ?_;refine Mid.z6 Z Z Z h1 Z Z ?_;refine fM Z ?_;refine Mid.z6 Z Z Z hy Z Z ?_;refine fM Z ?_;refine elG Z Z Z Z h1 Z Z ?_;refine fM Z ?_;refine elG Z Z Z Z hy Z Z ?_;refine fM Z ?_;refine caG Z Z (fun hg=>⟨_,rfl,hs0,rfl⟩) Z Z ?_;refine fM Z ?_;refine elG Z Z Z Z h1 Z Z ?_;refine fM Z ?_;refine elG Z Z Z Z hy Z Z ?_;refine fM Z ?_;refine caG Z Z (fun hg=>⟨_,rfl,hs1,rfl⟩) Z Z ?_;refine fM Z ?_;refine Run.cond Z Z (fun hc=>?_) (fun hc=>?_)
   ·have hc':eqI x y=false:=Bool.eq_false_iff.2 fun e=>by simp only [eqI,w07,beq_iff_eq] at e;simp [e] at hc
    refine fR Z ?_;refine Run.fin Z (z3.go ?_);exact .t (by rw [hinv',hc'];rfl)
   ·have hc':eqI x y=true:=by simp only [eqI];simpa using hc
    refine fR Z ?_;refine aL Z Z Z Z Z ?_;refine fM Z ?_;exact zd 0 Z (ih () (by rw [hinv',hc'];rfl)) Z Z Z
theorem z3y (H:zG P) (a b:Dir) (ha:a.Ok) (hb:b.Ok):z5 P 91 [a.v,b.v] ⟨[],0⟩ {v:= .t (.bool (eqD a b))}:=by
 have h1:=z29 H a.args b.args ha.l hb.l ha.a hb.a;refine z5.run H.i91 H.mixed Z Z ?_;refine fR Z ?_;refine caG Z Z (fun hg=>⟨_,rfl,h1,rfl⟩) Z Z ?_;refine fM Z ?_;refine Run.fin Z (z3.go ?_);exact .t (by simp [eqD])
end Go.GB.C24
namespace Go.GB.C24
open Go.GB Go.GB.C11
variable {P:Program}
theorem z1l (H:zG P) (l:List Str) (hl:l.length<=140737488355328) (s:Str):z5 P 103 [.t (.lst (l.map sE)),.t (.str s)] ⟨[],0⟩ {v:= .t (.bool (decide (s∈l)))}:=by
 refine z5.run H.i103 H.mixed Z Z ?_;refine fR Z ?_;refine zn l (fun i (_:Unit)=>{env:=[(0,.t (.lst (l.map sE))),(1,.t (.str s)),(5,.t (.int .i64 i))],s:=⟨[],0⟩}) (fun r i _=>decide (s∈l)=decide (s∈r)) 0 () Z Z Z Z Z ?_ ?_
 ·intro _ hinv;refine fR Z ?_;refine lM Z Z Z ?_;refine fM Z ?_;refine Run.z9 Z Z (by simp) ?_;refine fR Z ?_;refine Run.fin Z (z3.go ?_);exact .t (by rw [hinv];simp)
 ·intro i x r _ h1 hi hd hinv ih;refine fR Z ?_;refine lM Z Z Z ?_;refine fM Z ?_;refine Run.zb Z Z (by simp;omega) ?_;refine fR Z ?_;refine Mid.z6 Z Z Z h1 Z Z ?_;refine fM Z ?_;refine Run.cond Z Z (fun h=>?_) (fun h=>?_)
  ·have h':x=s:=by simpa using h
   refine fR Z ?_;refine Run.fin Z (z3.go ?_);exact .t (by rw [hinv];simp [h'])
  ·have h':¬ x=s:=by simpa using h
   have h2:¬ s=x:=fun e=>h' e.symm;refine fR Z ?_;refine aL Z Z Z Z Z ?_;refine fM Z ?_;exact zd 0 Z (ih () (by rw [hinv];simp [h2])) Z Z Z
def ZO (n:Str):List Dir->Int->Int
 |[],_=>-1
 |x::r,i=>if (x.name==n)=true then i else ZO n r (i+1)
theorem z2P (H:zG P) (l:List Dir) (hl:l.length<=140737488355328) (n:Str):z5 P 90 [.t (.lst (l.map Dir.enc)),.t (.str n)] ⟨[],0⟩ {v:= .t (.int .i64 (ZO n l 0))}:=by
 refine z5.run H.i90 H.mixed Z Z ?_;refine fR Z ?_;refine zn l (fun i (_:Unit)=>{env:=[(0,.t (.lst (l.map Dir.enc))),(1,.t (.str n)),(5,.t (.int .i64 i))],s:=⟨[],0⟩}) (fun r i _=>ZO n l 0=ZO n r i) 0 () Z Z Z Z Z ?_ ?_
 ·intro _ hinv;refine fR Z ?_;refine lM Z Z Z ?_;refine fM Z ?_;refine Run.z9 Z Z (by simp) ?_;refine fR Z ?_;refine Run.fin Z (z3.go ?_);exact .t (by rw [hinv];simp [ZO])
 ·intro i x r _ h1 hi hd hinv ih;refine fR Z ?_;refine lM Z Z Z ?_;refine fM Z ?_;refine Run.zb Z Z (by simp;omega) ?_;refine fR Z ?_;refine Mid.z6 Z Z Z h1 Z Z ?_;refine fM Z ?_;refine Run.cond Z Z (fun h=>?_) (fun h=>?_)
  ·refine fR Z ?_;refine Run.fin Z (z3.go ?_);exact .t (by rw [hinv];simp only [ZO];rw [w0e h])
  ·have h':¬ (x.name==n)=true:=by rw [h];simp
   refine fR Z ?_;refine aL Z Z Z Z Z ?_;refine fM Z ?_;exact zd 0 Z (ih () (by rw [hinv];simp only [ZO];rw [w0g h'];rfl)) Z Z Z
def zh.v (x:zh):V:= .agg [.t (.str x.name),.t (.lst (x.zg.map Dir.enc))]
def zh.zero:zh:=⟨[],[]⟩
theorem zh.Yp:zh.zero.Ok:=⟨by decide,by simp [zh.zero],by decide⟩
def zK (n:Str):List zh->Option zh
 |[]=>none
 |d::r=>if (d.name==n)=true then some d else zK n r
theorem Ym {n:Str}:∀{l:List zh} {d:zh},zK n l=some d->d∈l
 |[],d,h=>by simp [zK] at h
 |x::r,d,h=>by
  simp only [zK] at h;split at h
  ·simp at h;simp [h]
  ·exact w0k _ (Ym h)
theorem z05 (H:zG P) (l:List zh) (hl:l.length<=140737488355328) (n:Str):z5 P 50 [.t (.lst (l.map zh.enc)),.t (.str n)] ⟨[],0⟩ {v:= .tup [zh.v ((zK n l).getD zh.zero),.t (.bool (zK n l).isSome)]}:=by
 refine z5.run H.i50 H.mixed Z Z ?_;refine fR Z ?_;refine zn l (fun i (_:Unit)=>{env:=[(0,.t (.lst (l.map zh.enc))),(1,.t (.str n)),(4,.ptr 0 0),(6,.t (.int .i64 i))],s:=⟨[(0,.cells [.t (.str []),.zp])],1⟩}) (fun r i _=>zK n l=zK n r) 1 () Z Z Z Z Z ?_ ?_
 ·intro _ hinv;refine fR Z ?_;refine lM Z Z Z ?_;refine fM Z ?_;refine Run.z9 Z Z (by simp) ?_;refine fR Z ?_
  have e:zK n l=none:=by rw [hinv];rfl
  rw [e];refine Run.fin Z (z3.go ?_);exact .ZG (.agg (.cons (.t Z) (.cons (.nil Z) .nil))) (.t Z)
 ·intro i x r _ h1 hi hd hinv ih;refine fR Z ?_;refine lM Z Z Z ?_;refine fM Z ?_;refine Run.zb Z Z (by simp;omega) ?_;refine fR Z ?_;refine Mid.z6 Z Z Z h1 Z Z ?_;refine fM Z ?_;refine Run.cond Z Z (fun h=>?_) (fun h=>?_)
  ·refine fR Z ?_;refine Mid.z6 Z Z Z h1 Z Z ?_;refine fM Z ?_
   have e:zK n l=some x:=by rw [hinv];simp only [zK];rw [w0e h]
   rw [e];refine Run.fin Z (z3.go ?_);exact .ZG (.le (.same Z)) (.t Z)
  ·refine fR Z ?_;refine aL Z Z Z Z Z ?_;refine fM Z ?_
   have h':¬ (x.name==n)=true:=by rw [h];simp
   exact zd 1 Z (ih () (by rw [hinv];simp only [zK];rw [w0g h'])) Z Z Z
theorem zca (H:zG P) (n:Str):z5 P 96 [.t (.str n)] ⟨[],0⟩ {v:=(⟨n,[]⟩:Ref).v}:=by
 refine z5.run H.i96 H.mixed Z Z ?_;refine fR Z ?_;refine Run.fin Z (z3.go ?_);exact .agg (.cons (.t Z) (.cons (.nil Z) .nil))
theorem z8f (H:zG P) (w:Int) (t:Ref) (ht:t.z8.length*8<=140737488355320):z5 P 147 [.t (.int .i64 w),t.v] ⟨[],0⟩ {v:=(⟨t.name,w::t.z8⟩:Ref).v}:=by
 obtain ⟨n,l⟩:=t;refine z5.run H.i147 H.mixed Z Z ?_;refine fR Z ?_;have ht':l.length*8<=140737488355320:=ht;refine apM nE [w] l Z Z Z Z Z ?_ (h1:=by first |omega|(simp;omega)|(simp;done)) (h2:=by first |omega|(simp;omega)|(simp;done));refine fM rfl ?_;refine Run.fin rfl (z3.go ?_);exact .agg (.cons (.t rfl) (.cons (.own rfl) .nil))
theorem z9p (H:zG P) (t:Ref) (ht:t.z8.length*8<=140737488355320):z5 P 98 [t.v] ⟨[],0⟩ {v:=(⟨t.name,2::t.z8⟩:Ref).v}:=by
 refine z5.run H.i98 H.mixed Z Z ?_;refine fR Z ?_;refine Mid.call (z8f H 2 t ht) Z Z Z Z ?_;refine fM Z ?_;refine Run.fin Z (z3.go ?_);exact .agg (.cons (.t Z) (.cons (.t Z) .nil))
theorem qq (H:zG P) (t:Ref) (ht:t.z8.length*8<=140737488355320) (hn:t.name.length<=140737488355328) (h:nnF t.z8=false):z5 P 100 [t.v] ⟨[],0⟩ {v:=(⟨t.name,1::t.z8⟩:Ref).v}:=by
 have hh:=Qq H.p13.toPr t ⟨by omega,hn⟩
 rw [h] at hh;refine z5.run H.i100 H.mixed Z Z ?_;refine fR Z ?_;refine Mid.call (hh) Z Z Z Z ?_;refine fM Z ?_;refine Run.z9 Z Z Z ?_;refine fR Z ?_;refine Mid.call (z8f H 1 t ht) Z Z Z Z ?_;refine fM Z ?_;refine Run.fin Z (z3.go ?_);exact .agg (.cons (.t Z) (.cons (.t Z) .nil))
end Go.GB.C24
namespace Go.GB.C24
open Go.GB Go.GB.C11
variable {P:Program}
def ZU:Nat->List Int->List Int->List Int
 |0,_,_=>[]
 |k+1,u,v=>(if (nnF u&&nnF v)=true then [1] else [])++(if (ZR u&&ZR v)=true then 2::ZU k (zD u).tail (zD v).tail else [])
theorem z2g {w:List Int} (h:nnF w=true):∃r,w=1::r:=by
 cases w with
 |nil=>cases h
 |cons a r=>simp [nnF] at h;subst h;exact ⟨r,rfl⟩
theorem z2F (w:List Int):loose (zD w)=loose w:=by
 by_cases h:nnF w=true
 ·obtain ⟨r,rfl⟩:=z2g h;rw [qh h];simp [loose]
 ·rw [z2s h]
theorem yu {w:List Int} (h:ZR w=true):(zD w).tail.length+1+(if nnF w=true then 1 else 0)<=w.length:=by
 obtain ⟨r,hr⟩:=WN h;by_cases hn:nnF w=true
 ·obtain ⟨q,hq⟩:=z2g hn;have h1:=qh hn;rw [hr,hq] at h1;simp only [List.tail_cons] at h1;rw [hr,w0e hn,hq,←h1];simp
 ·have h1:=z2s hn;rw [w0g hn,←h1,hr];simp [zD,hr]
theorem z1j:∀(k:Nat) (u v:List Int),(ZU k u v).length<=u.length
 |0,_,_=>by simp [ZU]
 |k+1,u,v=>by
  have ih:=z1j k (zD u).tail (zD v).tail
  have hn:∀{w:List Int},nnF w=true->1<=w.length:=fun {w} h=>by obtain ⟨r,rfl⟩:=z2g h;simp
  simp only [ZU,w03]
  have g1:(if (nnF u&&nnF v)=true then [(1:Int)] else []).length<=if nnF u=true then 1 else 0:=by
   cases nnF u<;>cases nnF v<;>simp
  have g2:(if (ZR u&&ZR v)=true then 2::ZU k (zD u).tail (zD v).tail else []).length<=if ZR u=true then (ZU k (zD u).tail (zD v).tail).length+1 else 0:=by
   cases ZR u<;>cases ZR v<;>simp
  have h0:(if nnF u=true then 1 else 0)<=u.length:=by
   split
   ·rename_i h;exact hn h
   ·omega
  by_cases hl:ZR u=true
  ·have h2:=yu hl;rw [w0e hl] at g2;omega
  ·rw [w0g hl] at g2;omega
theorem z7p {a b:Ref} (h:Zj a b=true) (ha:ZR a.z8=true) (hb:ZR b.z8=true):Zj ⟨a.name,(zD a.z8).tail⟩ ⟨b.name,(zD b.z8).tail⟩=true:=by
 obtain ⟨r,hr⟩:=WN ha;obtain ⟨q,hq⟩:=WN hb;simp only [Zj,w07,w0j] at h⊢;refine ⟨h.1,?_⟩;have h2:=h.2;rw [←z2F a.z8,←z2F b.z8,hr,hq] at h2;rw [hr,hq];simpa [loose] using h2
def yQ (a b:Ref):Ref:=if Zj a b=true then ⟨a.name,ZU (a.z8.length+1) a.z8 b.z8⟩ else ⟨[],[]⟩
theorem qB:∀(k j:Nat) (u v:List Int),u.length<k->u.length<j->ZU k u v=ZU j u v
 |0,_,_,_,h,_=>by omega
 |_,0,_,_,_,h=>by omega
 |k+1,j+1,u,v,h,h'=>by
  simp only [ZU];by_cases hl:ZR u=true
  ·have:=yu hl;rw [qB k j (zD u).tail (zD v).tail (by omega) (by omega)]
  ·have hl':ZR u=false:=by simpa using hl
   simp [hl']
theorem z33 (H:zG P):∀(k:Nat) (a b:Ref),a.Ok->b.Ok->a.z8.length<k->z5 P 48 [a.v,b.v] ⟨[],0⟩ {v:= .tup [(yQ a b).v,.t (.bool (Zj a b))]}
 |0,_,_,_,_,h=>by omega
 |k+1,a,b,ha,hb,h=>by
  have hs:=z6M H.p13.toPr a b ha hb;have hal:=ha.l;have hna:=Qq H.p13.toPr a ha;have hnb:=Qq H.p13.toPr b hb
  cases hsh:Zj a b with
  |false=>
   rw [hsh] at hs
   have e:yQ a b=⟨[],[]⟩:=by unfold yQ;rw [hsh];rfl
   rw [e];refine z5.run H.i48 H.mixed Z Z ?_;refine fR Z ?_;refine Mid.call (hs) Z Z Z Z ?_;refine fM Z ?_;refine Run.zb Z Z Z ?_;refine fR Z ?_;refine Run.fin Z (z3.go ?_);exact .ZG (.agg (.cons (.t Z) (.cons (.nil Z) .nil))) (.t Z)
  |true=>
   rw [hsh] at hs
   have e:yQ a b=⟨a.name,ZU (a.z8.length+1) a.z8 b.z8⟩:=by unfold yQ;rw [hsh];rfl
   rw [e];have hk:ZU (a.z8.length+1) a.z8 b.z8=(if (nnF a.z8&&nnF b.z8)=true then [1] else [])++(if (ZR a.z8&&ZR b.z8)=true then 2::ZU a.z8.length (zD a.z8).tail (zD b.z8).tail else []):=rfl;refine z5.run H.i48 H.mixed Z Z ?_;refine fR Z ?_;refine Mid.call (hs) Z Z Z Z ?_;refine fM Z ?_;refine Run.z9 Z Z Z ?_;refine fR Z ?_;refine Mid.call (zca H a.name) Z Z Z Z ?_;refine fM Z ?_
   cases hla:ZR a.z8 with
   |false=>
    refine Mid.call (w6 H.p13.toPr a ha hla) Z Z Z Z ?_;refine fM Z ?_
    cases hlb:ZR b.z8 with
    |false=>
     refine Mid.call (w6 H.p13.toPr b hb hlb) Z Z Z Z ?_;refine fM Z ?_
     have hW:ZU (a.z8.length+1) a.z8 b.z8=(if (nnF a.z8&&nnF b.z8)=true then [1] else [])++[]:=by rw [hk,hla,hlb];rfl
     refine Run.z9 Z Z Z ?_;refine fR Z ?_;refine Mid.call (hna) Z Z Z Z ?_;refine fM Z ?_;refine caG Z Z (fun hg=>⟨_,rfl,hnb,rfl⟩) Z Z ?_;refine fM Z ?_;refine Run.cond Z Z (fun hc=>?_) (fun hc=>?_)
     ·have hc':(nnF a.z8&&nnF b.z8)=true:=by simpa using hc
      refine fR Z ?_;refine Mid.call (qq H ⟨a.name,[]⟩ (by simp) ha.nm Z) Z Z Z Z ?_;refine fM Z ?_;refine Run.fin Z (z3.go ?_);exact .ZG (.agg (.cons (.t Z) (.cons (.t (by rw [hW,w0e hc'];rfl)) .nil))) (.t Z)
     ·have hc':¬ (nnF a.z8&&nnF b.z8)=true:=by simpa using hc
      refine fR Z ?_;refine Run.fin Z (z3.go ?_);exact .ZG (.agg (.cons (.t Z) (.cons (.t (by rw [hW,w0g hc'];rfl)) .nil))) (.t Z)
    |true=>
     refine Mid.call (w8 H.p13.toPr b hb hlb) Z Z Z Z ?_;refine fM Z ?_
     have hW:ZU (a.z8.length+1) a.z8 b.z8=(if (nnF a.z8&&nnF b.z8)=true then [1] else [])++[]:=by rw [hk,hla,hlb];rfl
     refine Run.z9 Z Z Z ?_;refine fR Z ?_;refine Mid.call (hna) Z Z Z Z ?_;refine fM Z ?_;refine caG Z Z (fun hg=>⟨_,rfl,hnb,rfl⟩) Z Z ?_;refine fM Z ?_;refine Run.cond Z Z (fun hc=>?_) (fun hc=>?_)
     ·have hc':(nnF a.z8&&nnF b.z8)=true:=by simpa using hc
      refine fR Z ?_;refine Mid.call (qq H ⟨a.name,[]⟩ (by simp) ha.nm Z) Z Z Z Z ?_;refine fM Z ?_;refine Run.fin Z (z3.go ?_);exact .ZG (.agg (.cons (.t Z) (.cons (.t (by rw [hW,w0e hc'];rfl)) .nil))) (.t Z)
     ·have hc':¬ (nnF a.z8&&nnF b.z8)=true:=by simpa using hc
      refine fR Z ?_;refine Run.fin Z (z3.go ?_);exact .ZG (.agg (.cons (.t Z) (.cons (.t (by rw [hW,w0g hc'];rfl)) .nil))) (.t Z)
   |true=>
    refine Mid.call (w8 H.p13.toPr a ha hla) Z Z Z Z ?_;refine fM Z ?_
    cases hlb:ZR b.z8 with
    |false=>
     refine Mid.call (w6 H.p13.toPr b hb hlb) Z Z Z Z ?_;refine fM Z ?_
     have hW:ZU (a.z8.length+1) a.z8 b.z8=(if (nnF a.z8&&nnF b.z8)=true then [1] else [])++[]:=by rw [hk,hla,hlb];rfl
     refine Run.z9 Z Z Z ?_;refine fR Z ?_;refine Mid.call (hna) Z Z Z Z ?_;refine fM Z ?_;refine caG Z Z (fun hg=>⟨_,rfl,hnb,rfl⟩) Z Z ?_;refine fM Z ?_;refine Run.cond Z Z (fun hc=>?_) (fun hc=>?_)
     ·have hc':(nnF a.z8&&nnF b.z8)=true:=by simpa using hc
      refine fR Z ?_;refine Mid.call (qq H ⟨a.name,[]⟩ (by simp) ha.nm Z) Z Z Z Z ?_;refine fM Z ?_;refine Run.fin Z (z3.go ?_);exact .ZG (.agg (.cons (.t Z) (.cons (.t (by rw [hW,w0e hc'];rfl)) .nil))) (.t Z)
     ·have hc':¬ (nnF a.z8&&nnF b.z8)=true:=by simpa using hc
      refine fR Z ?_;refine Run.fin Z (z3.go ?_);exact .ZG (.agg (.cons (.t Z) (.cons (.t (by rw [hW,w0g hc'];rfl)) .nil))) (.t Z)
    |true=>
     refine Mid.call (w8 H.p13.toPr b hb hlb) Z Z Z Z ?_;refine fM Z ?_;have hlt:=yu hla;have hr:=z33 H k ⟨a.name,(zD a.z8).tail⟩ ⟨b.name,(zD b.z8).tail⟩ (z5k ha) (z5k hb) (by show (zD a.z8).tail.length<k;omega)
     have hw:yQ ⟨a.name,(zD a.z8).tail⟩ ⟨b.name,(zD b.z8).tail⟩=⟨a.name,ZU a.z8.length (zD a.z8).tail (zD b.z8).tail⟩:=by
      unfold yQ;rw [z7p hsh hla hlb,w0e rfl];simp only;rw [qB _ a.z8.length _ _ (Nat.lt_succ_self _) (by omega)]
     have hlen:=z1j a.z8.length (zD a.z8).tail (zD b.z8).tail;rw [hw] at hr;rw [hla,hlb,Bool.and_self,w0e rfl] at hk;generalize ZU a.z8.length (zD a.z8).tail (zD b.z8).tail=W at*;have hW:=hk;refine Run.zb Z Z Z ?_;refine fR Z ?_;refine Mid.call (hr) Z Z Z Z ?_;refine fM Z ?_;refine Mid.call (z9p H ⟨a.name,W⟩ (by simp;omega)) Z Z Z Z ?_;refine fM Z ?_;refine Mid.call (hna) Z Z Z Z ?_;refine fM Z ?_;refine caG Z Z (fun hg=>⟨_,rfl,hnb,rfl⟩) Z Z ?_;refine fM Z ?_;refine Run.cond Z Z (fun hc=>?_) (fun hc=>?_)
     ·have hc':(nnF a.z8&&nnF b.z8)=true:=by simpa using hc
      refine fR Z ?_;rw [w0e (Bool.and_eq_true_iff.1 hc').1] at hlt;refine Mid.call (qq H ⟨a.name,2::W⟩ (by simp;omega) ha.nm Z) Z Z Z Z ?_;refine fM Z ?_;refine Run.fin Z (z3.go ?_);exact .ZG (.agg (.cons (.t Z) (.cons (.t (by rw [hW,w0e hc'];rfl)) .nil))) (.t Z)
     ·have hc':¬ (nnF a.z8&&nnF b.z8)=true:=by simpa using hc
      refine fR Z ?_;refine Run.fin Z (z3.go ?_);exact .ZG (.agg (.cons (.t Z) (.cons (.t (by rw [hW,w0g hc'];rfl)) .nil))) (.t Z)
end Go.GB.C24
namespace Go.GB
section
variable {P:Program} {n m:Nat} {R:St->Prop}
variable {draw:Bool} {all:List AO} {after:List (List Nat)} {live:List Nat} {k:List It} {b:Nat} {fl:List (Bool×Bool)} {ops:List AO} {st st':St} {d:Option Nat} {b':Nat}
theorem Mid.z7N {sz q ver off len:Nat} {z:List V} {x:Ar} {cs cs':List V} (hx:x.u st= .gsl q ver off len sz) (hq:zj st.s.sto q=some (.gro ver cs)) (ho:off+len*sz<=cs.length) (hcs:setAt cs off (List.replicate len z).flatten=cs')
  (hst:wb b st d {v:= .top,ob:=[(q,.gro ver cs')],rd:=true} (fun b' st'=>some (b',st'))=some (b',st'))
  (h':Mid P n m R draw all after live k b' ((true,true)::fl) ops st'):Mid P n m R draw all after live k b fl (⟨d,none,.nw (.zbv sz z x)⟩::ops) st:=by
 subst hcs;simp only [yo,w00,w05] at hst;obtain ⟨rfl,rfl⟩:=hst;exact Mid.opY Z (.z7N hx hq Z ho) h'
end
theorem zC.app {m m':Nat} {a b c d:List V} (h:zC m m' a b) (k:zC m m' c d):zC m m' (a++c) (b++d):=by
 induction h with
 |nil=>exact k
 |cons h _ ih=>exact .cons h ih
theorem z2u:∀(vs cs:List V) (off:Nat),off+vs.length=cs.length->setAt cs off vs=cs.take off++vs
 |[],cs,off,h=>by simp at h;simp [setAt,h]
 |v::r,cs,off,h=>by
  simp only [setAt];simp only [w0d] at h;rw [z2u r (cs.set off v) (off+1) (by simp;omega)];apply w22;intro i;by_cases h1:i<off
  ·rw [w0a (by simp;omega),w0a (by simp;omega),w0p,w0p,w0e (by omega),w0e h1,w1q,w0g (by omega)]
  ·by_cases h2:i=off
   ·subst h2;rw [w0a (by simp;omega),w0b (by simp;omega),w0p,w0e (by omega),w1q,w0e rfl,w0e (by omega)];simp [Nat.min_eq_left (show i<=cs.length by omega)]
   ·rw [w0b (by simp;omega),w0b (by simp;omega)];simp only [w26,List.length_set];rw [Nat.min_eq_left (by omega),Nat.min_eq_left (by omega)]
    have:i - off=(i - (off+1))+1:=by omega
    rw [this];simp
theorem zcQ {α:Type} {f:α->List V} {sz:Nat} (h:∀x,(f x).length=sz) (l:List α) (j:Nat):(gE f l).take (j*sz)=gE f (l.take j):=by
 by_cases hj:j<=l.length
 ·have e:gE f l=gE f (l.take j)++gE f (l.drop j):=by rw [←z1n,List.take_append_drop]
  have hl:(gE f (l.take j)).length=j*sz:=by rw [YY h];simp [Nat.min_eq_left hj]
  rw [e,←hl,List.take_left]
 ·rw [w1l (by rw [YY h];exact w0s _ (by omega)),w1l (by omega)]
end Go.GB
namespace Go.GB.C24
open Go.GB Go.GB.C11
variable {P:Program}
theorem Yz:∀l:List Int,loose l=l.filter fun x=>!(x==1)
 |[]=>rfl
 |x::r=>by
  simp only [loose,List.filter_cons,Yz r,bne]
theorem z6O (H:zG P) (x:Int):z5 P 167 [.t (.int .i64 x)] ⟨[],0⟩ {v:= .t (.bool (x==1))}:=by
 refine z5.run H.i167 H.mixed Z Z ?_;refine fR Z ?_;refine Run.fin Z (z3.go ?_);exact .t Z
def z4F (l:List Int):Int:=match l.findIdx? (fun x=>x==1) with|some i=>i|none=>-1
theorem gB (m:Nat) (A:List Int):V.bds m (gE (gT nE) A)=true:=V.z7q (fun x=>by simp [gT,nE,V.bds,V.bd]) A
theorem zdH (A:List Int):zZ 1 [(0,.gro 1 (gE (gT nE) A))]=true:=by simp [zZ,zf.bd,gB]
theorem z9a (H:zG P) (l:List Int) (hl:l.length<=140737488355328):z5 P 177 [.gsl 0 1 0 l.length 1,.t (.fn 167)] ⟨[(0,.gro 1 (gE (gT nE) l))],1⟩ {v:= .t (.int .i64 (z4F l)),rd:=true}:=by
 have hb:=zdH l;refine z5.run H.i177 H.mixed Z Z ?_;refine fR Z ?_;refine pu Z ?_;refine fM Z ?_;refine zn l (fun i (_:Unit)=>{env:=[(0,.gsl 0 1 0 l.length 1),(1,.t (.fn 167)),(7,.t (.int .i64 l.length)),(8,.t (.int .i64 i))],s:=⟨[(0,.gro 1 (gE (gT nE) l))],1⟩}) (fun r i _=>l.findIdx? (fun x=>x==1)=((l.drop i).findIdx? (fun x=>x==1)).map (· +i)) 1 () Z (by simp) Z Z Z ?_ ?_
 ·intro _ hinv;rw [List.drop_length] at hinv;simp only [List.findIdx?_nil,Option.map_none] at hinv
  have e:z4F l=-1:=by simp only [z4F,hinv]
  rw [e];refine fR Z ?_;refine Run.z9 Z Z (by simp) ?_;refine fR Z ?_;refine Run.fin Z (z3.YU Z Z Z hb (.t Z))
 ·intro i x r _ h1 hi hd hinv ih;have hdr:l.drop i=x::l.drop (i+1):=C11.y9 h1;rw [hdr,List.findIdx?_cons] at hinv;refine fR Z ?_;refine Run.zb Z Z (by simp;omega) ?_;refine fR Z ?_;refine pu Z ?_;refine Mid.ldG (i) 0 (sz:=1) Z Z (by omega) (by omega) (qg (fun _=>rfl)) (h1) Z Z ?_;skip;refine Mid.z0g Z (z6O H x) Z Z Z Z ?_;refine fM Z ?_;by_cases hc:(x==1)=true
  ·rw [w0e hc] at hinv
   have e:z4F l=i:=by simp [z4F,hinv]
   rw [e];refine Run.zb Z Z hc ?_;refine fR Z ?_;refine Run.fin Z (z3.YU Z Z Z hb (.t Z))
  ·rw [w0g hc] at hinv;refine Run.z9 Z Z (by simpa using hc) ?_;refine fR Z ?_;refine aL Z Z Z Z Z ?_;refine fM Z ?_;exact zd 1 Z (ih () (by rw [hinv,Option.map_map];congr 1;funext y;simp;omega)) Z Z Z
theorem z4A {m m':Nat}:∀k:Nat,zC m m' (List.replicate k [V.t (.int .i64 0)]).flatten (gE (gT nE) (List.replicate k 0))
 |0=> .nil
 |k+1=>by
  have ih:=z4A (m:=m) (m':=m') k;simp only [List.replicate_succ,w1r,gE,w0n] at ih⊢;exact .cons .t ih
structure z6E (l:List Int) (i:Nat) (A:List Int) (j:Nat):Prop where
 len:A.length=l.length
 tk:A.take j=loose (l.take i)
 dr:A.drop i=l.drop i
 ji:j<i
 jl:j=(loose (l.take i)).length
theorem z0n (a:List Int) (x:Int):loose (a++[x])=loose a++(if (x==1)=true then [] else [x]):=by
 rw [Yz,Yz,List.filter_append];congr 1
 by_cases h:(x==1)=true<;>simp_all
theorem z6E.skip {l A:List Int} {i j:Nat} {x:Int} (h:z6E l i A j) (hx:l[i]?=some x) (hb:(x==1)=true):z6E l (i+1) A j:=by
 have e:loose (l.take (i+1))=loose (l.take i):=by
  rw [w1f,hx];show loose (l.take i++[x])=_;rw [z0n,w0e hb,w1j]
 refine ⟨h.len,by rw [e,h.tk],?_,by have:=h.ji;omega,by rw [e];exact h.jl⟩
 have:=congrArg (List.drop 1) h.dr;simpa [w2c] using this
theorem z6E.ZQ {l A:List Int} {i j:Nat} {x:Int} (h:z6E l i A j) (hx:l[i]?=some x) (hb:¬ (x==1)=true):z6E l (i+1) (A.set j x) (j+1):=by
 have hil:=(w02.1 hx).1;have hji:=h.ji;have hAl:=h.len
 have e:loose (l.take (i+1))=loose (l.take i)++[x]:=by
  rw [w1f,hx];show loose (l.take i++[x])=_;rw [z0n,w0g hb]
 refine ⟨by simp [h.len],?_,?_,by omega,by rw [e,w03,←h.jl];rfl⟩
 ·rw [e,←h.tk,w1f,List.take_set_of_le (w09 _),List.getElem?_set_self (by omega)];rfl
 ·rw [List.drop_set_of_lt (by omega)];have:=congrArg (List.drop 1) h.dr;simpa [w2c] using this
theorem z9l (H:zG P) (l:List Int) (hl:l.length<=17592186044416):z5 P 166 [.gsl 0 1 0 l.length 1,.t (.fn 167)] ⟨[(0,.gro 1 (gE (gT nE) l))],1⟩ {v:= .gsl 0 1 0 (loose l).length 1,ob:=[(0,.gro 1 (gE (gT nE) (loose l++List.replicate (l.length - (loose l).length) 0)))],n:=0,rd:=true}:=by
 have hb:=zdH l;have hgl:=qo l;have hi:=z9a H l (by omega);unfold z4F at hi
 cases hx:l.findIdx? (fun x=>x==1) with
 |none=>
  rw [hx] at hi
  have e:loose l=l:=by
   rw [Yz];refine List.filter_eq_self.2 fun y hy=>?_;have:=List.findIdx?_eq_none_iff.1 hx y hy;simp at this⊢;exact this
  rw [e,Nat.sub_self];refine z5.run H.i166 H.mixed Z Z ?_;refine fR Z ?_;refine Mid.z66 (hi) Z Z hb Z ?_;refine fM Z ?_;refine Run.zb Z Z Z ?_;refine fR Z ?_;refine Run.fin Z (z3.chg Z Z ?_ ?_)
  ·exact .le (.same Z)
  ·exact ⟨.inl ⟨w11 Z,_,rfl,.gro (.gE (by simp) fun _=>rfl)⟩,trivial⟩
 |some k=>
  rw [hx] at hi;obtain ⟨hk,hk2,hk3⟩:=List.findIdx?_eq_some_iff_getElem.1 hx;have hx0:l[k]?=some l[k]:=w0f hk
  have g0:loose (l.take k)=l.take k:=by
   rw [Yz];refine List.filter_eq_self.2 fun y hy=>?_;obtain ⟨j,hj1,hj2⟩:=List.getElem_of_mem hy;rw [w26] at hj1;have:=hk3 j (by omega);rw [List.getElem_take] at hj2;rw [hj2] at this;simpa using this
  have hD0:z6E l (k+1) l k:=by
   have e:loose (l.take (k+1))=l.take k:=by
    rw [w1f,hx0];show loose (l.take k++[l[k]])=_;rw [z0n,g0,w0e hk2,w1j]
   exact ⟨rfl,e.symm,rfl,by omega,by rw [e];simp;omega⟩
  refine z5.run H.i166 H.mixed Z Z ?_;refine fR Z ?_;refine Mid.z66 (hi) Z Z hb Z ?_;refine fM Z ?_;refine Run.z9 Z Z (by simp) ?_;refine fR Z ?_;refine aL Z Z Z Z Z ?_;refine fM Z ?_;refine zn (l.drop (k+1)) (fun i (B:List Int×Nat)=>{env:=[(0,.gsl 0 1 0 l.length 1),(1,.t (.fn 167)),(5,.t (.int .i64 B.2)),(6,.t (.int .i64 (k+1+i:Nat)))],s:=⟨[(0,.gro 1 (gE (gT nE) B.1))],1⟩}) (fun r i B=>z6E l (k+1+i) B.1 B.2) 1 (l,k) Z hD0 Z Z Z ?_ ?_
  ·rintro ⟨A,j⟩ hinv;dsimp only at hinv;dsimp only
   have hlen:k+1+(l.drop (k+1)).length=l.length:=by simp;omega
   have hdl:(l.drop (k+1)).length=l.length - (k+1):=by simp
   rw [hlen] at hinv;have hji:=hinv.ji;have hAl:=hinv.len;have htk:=hinv.tk;have hjl:=hinv.jl;rw [List.take_length] at htk hjl;have hz:∀x:Int,(gT nE x).length=1:=qg (fun _=>rfl);refine fR Z ?_;refine pu Z ?_;refine fM Z ?_;refine Run.z9 Z Z (by simp;omega) ?_;refine fR Z ?_;refine pu Z ?_;refine Mid.z7N (cs':=gE (gT nE) (A.take j)++(List.replicate (l.length - j) [V.t (.int .i64 0)]).flatten) Z Z ?_ ?_ Z ?_
   ·rw [YY hz];simp;omega
   ·simp only [Int.toNat_natCast,w0y];rw [z2u _ _ _ (by rw [YY hz];simp;omega),zcQ hz]
   refine fM Z ?_;refine pu Z ?_;refine fM Z ?_;refine Run.fin Z (z3.chg Z Z ?_ ?_)
   ·exact .le (.z0M Z (by simp) (by simp [hjl]) (w11 Z))
   ·exact ⟨.inl ⟨w11 Z,_,rfl,.gro (by rw [z1n,htk,←hjl];exact .app (.gE rfl fun _=>rfl) (z4A _))⟩,trivial⟩
  ·rintro i x r ⟨A,j⟩ h1 hi' hd hinv ih;dsimp only at hinv;dsimp only;rw [w0z] at h1;have hlt:=(w02.1 h1).1;have hji:=hinv.ji;have hAl:=hinv.len
   have hA1:A[k+1+i]?=some x:=by
    have:=congrArg (fun z=>z[0]?) hinv.dr;simpa [h1] using this
   have hAj:A[j]?=some A[j]:=w0f (by omega);refine fR Z ?_;refine pu Z ?_;refine fM Z ?_;refine Run.zb Z Z (by simp;omega) ?_;refine fR Z ?_;refine pu Z ?_;refine Mid.ldG ((k+1+i)) 0 (sz:=1) Z Z (by omega) (by omega) (qg (fun _=>rfl)) (hA1) Z Z ?_;refine fM Z ?_;refine Mid.z0g Z (z6O H x) Z Z Z Z ?_;refine fM Z ?_;by_cases hbx:(x==1)=true
   ·refine Run.z9 Z Z (by simpa using hbx) ?_;refine fR Z ?_;refine aL Z Z Z Z Z ?_;refine fM Z ?_;exact zd 1 Z (ih (A,j) (hinv.skip h1 hbx)) Z Z Z
   ·refine Run.zb Z Z (by simpa using hbx) ?_;refine fR Z ?_;refine pu Z ?_;refine Mid.stG (x) (j) 0 (sz:=1) Z Z Z Z Z (by omega) (qg (fun _=>rfl)) (hAj) (by decide) Z Z ?_;refine fM Z ?_;refine aL Z Z Z Z Z ?_;refine fM Z ?_;refine aL Z Z Z Z Z ?_;refine fM Z ?_;exact zd 1 Z (ih (A.set j x,j+1) (hinv.ZQ h1 hbx)) Z Z Z
end Go.GB.C24
namespace Go.GB.C24
open Go.GB Go.GB.C11
variable {P:Program}
theorem z9D (H:zG P):z5 P 177 [.t (.lst (([]:List Int).map nE)),.t (.fn 167)] ⟨[],0⟩ {v:= .t (.int .i64 (-1))}:=by
 refine z5.run H.i177 H.mixed Z Z ?_;refine fR Z ?_;refine lM Z Z Z ?_;refine fM Z ?_;refine zn ([]:List Int) (fun i (_:Unit)=>{env:=[(0,.t (.lst (([]:List Int).map nE))),(1,.t (.fn 167)),(7,.t (.int .i64 0)),(8,.t (.int .i64 i))],s:=⟨[],0⟩}) (fun r i _=>True) 0 () Z trivial Z Z Z ?_ ?_
 ·intro _ _;refine fR Z ?_;refine Run.z9 Z Z (by simp) ?_;refine fR Z ?_;refine Run.fin Z (z3.go ?_);exact .t Z
 ·intro i x r _ h1 hi hd hinv ih;simp at hi
theorem z7G (H:zG P):z5 P 166 [.t (.lst (([]:List Int).map nE)),.t (.fn 167)] ⟨[],0⟩ {v:= .t (.lst (([]:List Int).map nE))}:=by
 refine z5.run H.i166 H.mixed Z Z ?_;refine fR Z ?_;refine Mid.call (z9D H) Z Z Z Z ?_;refine fM Z ?_;refine Run.zb Z Z Z ?_;refine fR Z ?_;refine Run.fin Z (z3.go ?_);exact .t Z
theorem z9S (H:zG P) (a:Int) (r:List Int) (hl:(a::r).length*8<=140737488355328):z5 P 79 [.t (.lst ((a::r).map nE))] ⟨[],0⟩ {v:= .gsl 0 1 0 (a::r).length 1,ob:=[(0,.gro 1 (gE (gT nE) (a::r)))],n:=1,rd:=true}:=by
 have hl2:(a::r).length<=17592186044416:=by omega
 refine z5.run H.p13.i79 H.mixed Z Z ?_;refine fR Z ?_;refine p0 Z ?_;refine fM Z ?_;refine Run.z2S Z Z (fun h=>?_) (fun _=>?_)
 ·have:=h (nE a) (by simp);simp [nE] at this
 ·refine fR Z ?_;refine Mid.zf0 (gT nE) (a::r) Z (zen Z (fun _=>rfl)) (z92 _) (by first |omega|(simp;omega)|(simp;done)) (by first |omega|(simp;omega)|(simp;done)) Z ?_;refine fM Z ?_;refine Run.fin Z (z3.chg Z Z ?_ ?_)
  ·exact .le (.same Z)
  ·exact ⟨.inl ⟨w11 Z,_,rfl,.gro (.gE Z fun _=>rfl)⟩,trivial⟩
theorem z6N (H:zG P) (l:List Int) (hl:l.length*8<=140737488355328):z5 P 134 [.t (.lst (l.map nE))] ⟨[],0⟩ {v:= .t (.lst ((loose l).map nE))}:=by
 cases l with
 |nil=>
  refine z5.run H.i134 H.mixed Z Z ?_;refine fR Z ?_;refine Mid.call (q7 H.p13.toPr [] (by simp)) Z Z Z Z ?_;skip;refine Mid.call (z7G H) Z Z Z Z ?_;refine fM Z ?_;refine Run.fin Z (z3.go ?_);exact .t Z
 |cons a r=>
  have h1:=z9S H a r hl;generalize a::r=l at*;refine z5.run H.i134 H.mixed Z Z ?_;refine fR Z ?_
  refine Mid.yp [] (h1) Z Z Z Z Z (by repeat' (first |exact trivial|exact rfl|refine And.intro ?_ ?_|exact (congrArg some (zf.ren_mE _ _ _ _ _ _)).symm|exact (congrArg some (zf.ren_cE _ _ _)).symm|(refine (congrArg some (zf.zY ?_ _ _)).symm;intro _;rfl))) Z Z (ob':=[(0,.gro 1 (gE (gT nE) l))]) ((by simp only [z1Z,zf.zY (f:=gT nE) (f':=gT nE) (fun _=>rfl)];rfl)) Z Z ?_
  skip
  refine Mid.yp [0] (z9l H l (by omega)) Z Z Z Z (zdH l) (by repeat' (first |exact trivial|exact rfl|refine And.intro ?_ ?_|exact (congrArg some (zf.ren_mE _ _ _ _ _ _)).symm|exact (congrArg some (zf.ren_cE _ _ _)).symm|(refine (congrArg some (zf.zY ?_ _ _)).symm;intro _;rfl))) Z Z (ob':=[(0,.gro 1 (gE (gT nE) (loose l++List.replicate (l.length - (loose l).length) 0)))]) ((by simp only [z1Z,zf.zY (f:=gT nE) (f':=gT nE) (fun _=>rfl)];rfl)) Z Z ?_
  refine fM Z ?_;refine Run.fin Z (z3.go ?_);exact LeZ.gE nE (loose l) (w11 Z) Z (by simp) (by simp) (fun _=>rfl)
theorem zaa (H:zG P) (a b:Ref) (ha:a.Ok) (hb:b.Ok):z5 P 75 [a.v,b.v] ⟨[],0⟩ {v:= .t (.bool (Zj a b))}:=by
 have h1:=qo a.z8;have h2:=qo b.z8;have h3:=ha.l;have h4:=hb.l;refine z5.run H.i75 H.mixed Z Z ?_;refine fR Z ?_;refine caG Z Z (fun hg=>⟨_,rfl,z6N H a.z8 h3,rfl⟩) Z Z ?_;refine fM Z ?_;refine caG Z Z (fun hg=>⟨_,rfl,z6N H b.z8 h4,rfl⟩) Z Z ?_;skip;refine caG Z Z (fun hg=>⟨_,rfl,z4C H.p13.toPr (loose a.z8) (loose b.z8) (by omega) (by omega),rfl⟩) Z Z ?_;refine fM Z ?_;refine Run.fin Z (z3.go ?_);exact .t Z
theorem z7S (H:zG P) (a b:Ref) (ha:a.Ok) (hb:b.Ok):z5 P 31 [a.v,b.v] ⟨[],0⟩ {v:= .tup [(yQ a b).v,.t (.bool (Zj a b))]}:=by
 have hs:=zaa H a b ha hb;have hal:=ha.l;have hbl:=hb.l
 cases hsh:Zj a b with
 |false=>
  rw [hsh] at hs
  have e:yQ a b=⟨[],[]⟩:=by unfold yQ;rw [hsh];rfl
  rw [e];refine z5.run H.i31 H.mixed Z Z ?_;refine fR Z ?_;refine Mid.call (hs) Z Z Z Z ?_;refine fM Z ?_;refine Run.zb Z Z Z ?_;refine fR Z ?_;refine Run.fin Z (z3.go ?_);exact .ZG (.agg (.cons (.t Z) (.cons (.nil Z) .nil))) (.t Z)
 |true=>
  rw [hsh] at hs
  have e:yQ a b=⟨a.name,ZU (a.z8.length+1) a.z8 b.z8⟩:=by unfold yQ;rw [hsh];rfl
  rw [e];refine z5.run H.i31 H.mixed Z Z ?_;refine fR Z ?_;refine Mid.call (hs) Z Z Z Z ?_;refine fM Z ?_;refine Run.z9 Z Z Z ?_;refine fR Z ?_
  refine z7T (β:=List Int×List Int×List Int) (fun q=>{env:=[(2,.ptr 0 0),(3,.ptr 1 0),(4,.ptr 2 0),(6,.ptr 3 0)],s:=⟨[(0,.cells [.t (.str a.name),.t (.lst (q.1.map nE))]),(1,.cells [.t (.str b.name),.t (.lst (q.2.1.map nE))]),(2,.cells [.t (.str []),.zp]),(3,.cells [.t (.str a.name),.own 4 1 (q.2.2.map nE)]),(4,.arr q.2.2.length)],5⟩})
   (fun q=>ZU (a.z8.length+1) a.z8 b.z8=q.2.2++ZU (q.1.length+1) q.1 q.2.1/\q.2.2.length+q.1.length<=a.z8.length/\q.2.1.length<=b.z8.length) (fun q=>q.1.length) 4 (a.z8,b.z8,[]) rfl ⟨by simp,by simp,by simp⟩ rfl rfl rfl ?_
  rintro ⟨u,v,B⟩ ⟨hR,hBl,hvl⟩ ih;dsimp only at hR hBl hvl⊢
  have hu:(⟨a.name,u⟩:Ref).Ok:=⟨by show u.length*8<=_;omega,ha.nm⟩
  have hv:(⟨b.name,v⟩:Ref).Ok:=⟨by show v.length*8<=_;omega,hb.nm⟩
  have hna:=zb2 H.p13.toPr _ hu;have hnb:=zb2 H.p13.toPr _ hv;have hk:ZU (u.length+1) u v=(if (nnF u&&nnF v)=true then [1] else [])++(if (ZR u&&ZR v)=true then 2::ZU u.length (zD u).tail (zD v).tail else []):=rfl
  have hu1:nnF u=true->1<=u.length:=fun h=>by obtain ⟨r,rfl⟩:=z2g h;simp
  refine fR Z ?_;refine Mid.call (hna) Z Z Z Z ?_;refine fM Z ?_;refine caG Z Z (fun hg=>⟨_,rfl,hnb,rfl⟩) Z Z ?_;refine fM Z ?_;refine Run.cond Z Z (fun hc=>?_) (fun hc=>?_)
  ·have hc':(nnF u&&nnF v)=true:=by simpa using hc
   rw [w0e hc'] at hk;refine fR Z ?_;have hu2:=hu1 (Bool.and_eq_true_iff.1 hc').1;refine apM nE B [(1:Int)] Z Z Z Z Z ?_ (h1:=by first |omega|(simp;omega)|(simp;done)) (h2:=by first |omega|(simp;omega)|(simp;done));refine fM rfl ?_
   cases hla:ZR u with
   |false=>
    refine Mid.call (W3 H.p13.toPr _ hu hla) Z Z Z Z ?_;refine fM Z ?_
    cases hlb:ZR v with
    |false=>
     refine Mid.call (W3 H.p13.toPr _ hv hlb) Z Z Z Z ?_;refine fM Z ?_
     have hW:ZU (a.z8.length+1) a.z8 b.z8=B++[1]:=by rw [hR,hk,hla,hlb];simp
     refine Run.zb Z Z Z ?_;refine fR Z ?_;refine Run.fin Z (z3.go ?_);exact .ZG (.agg (.cons (.t Z) (.cons (.own (by rw [hW])) .nil))) (.t Z)
    |true=>
     refine Mid.call (wR H.p13.toPr _ hv hlb) Z Z Z Z ?_;refine fM Z ?_
     have hW:ZU (a.z8.length+1) a.z8 b.z8=B++[1]:=by rw [hR,hk,hla,hlb];simp
     refine Run.zb Z Z Z ?_;refine fR Z ?_;refine Run.fin Z (z3.go ?_);exact .ZG (.agg (.cons (.t Z) (.cons (.own (by rw [hW])) .nil))) (.t Z)
   |true=>
    refine Mid.call (wR H.p13.toPr _ hu hla) Z Z Z Z ?_;refine fM Z ?_
    cases hlb:ZR v with
    |false=>
     refine Mid.call (W3 H.p13.toPr _ hv hlb) Z Z Z Z ?_;refine fM Z ?_
     have hW:ZU (a.z8.length+1) a.z8 b.z8=B++[1]:=by rw [hR,hk,hla,hlb];simp
     refine Run.zb Z Z Z ?_;refine fR Z ?_;refine Run.fin Z (z3.go ?_);exact .ZG (.agg (.cons (.t Z) (.cons (.own (by rw [hW])) .nil))) (.t Z)
    |true=>
     refine Mid.call (wR H.p13.toPr _ hv hlb) Z Z Z Z ?_;refine fM Z ?_;have hlt:=yu hla;have hlv:=yu hlb;rw [hla,hlb,Bool.and_self,w0e rfl,qB u.length ((zD u).tail.length+1) (zD u).tail (zD v).tail (by omega) (by omega)] at hk;rw [w0e (Bool.and_eq_true_iff.1 hc').1] at hlt;refine Run.z9 Z Z Z ?_;refine fR Z ?_;refine apM nE (B++[1]) [(2:Int)] Z Z Z Z Z ?_ (h1:=by first |omega|(simp;omega)|(simp;done)) (h2:=by first |omega|(simp;omega)|(simp;done));refine fM rfl ?_;exact zd 5 rfl (ih ((zD u).tail,(zD v).tail,B++[1]++[2]) (by show (zD u).tail.length<u.length;omega) ⟨by show _=(B++[1]++[2])++_;rw [hR,hk];simp,by show (B++[1]++[2]).length+(zD u).tail.length<=_;simp only [w03,List.length_singleton];omega,by show (zD v).tail.length<=_;omega⟩) rfl rfl rfl
  ·have hc':¬ (nnF u&&nnF v)=true:=by simpa using hc
   rw [w0g hc'] at hk;refine fR Z ?_
   cases hla:ZR u with
   |false=>
    refine Mid.call (W3 H.p13.toPr _ hu hla) Z Z Z Z ?_;refine fM Z ?_
    cases hlb:ZR v with
    |false=>
     refine Mid.call (W3 H.p13.toPr _ hv hlb) Z Z Z Z ?_;refine fM Z ?_
     have hW:ZU (a.z8.length+1) a.z8 b.z8=B:=by rw [hR,hk,hla,hlb];simp
     refine Run.zb Z Z Z ?_;refine fR Z ?_;refine Run.fin Z (z3.go ?_);exact .ZG (.agg (.cons (.t Z) (.cons (.own (by rw [hW])) .nil))) (.t Z)
    |true=>
     refine Mid.call (wR H.p13.toPr _ hv hlb) Z Z Z Z ?_;refine fM Z ?_
     have hW:ZU (a.z8.length+1) a.z8 b.z8=B:=by rw [hR,hk,hla,hlb];simp
     refine Run.zb Z Z Z ?_;refine fR Z ?_;refine Run.fin Z (z3.go ?_);exact .ZG (.agg (.cons (.t Z) (.cons (.own (by rw [hW])) .nil))) (.t Z)
   |true=>
    refine Mid.call (wR H.p13.toPr _ hu hla) Z Z Z Z ?_;refine fM Z ?_
    cases hlb:ZR v with
    |false=>
     refine Mid.call (W3 H.p13.toPr _ hv hlb) Z Z Z Z ?_;refine fM Z ?_
     have hW:ZU (a.z8.length+1) a.z8 b.z8=B:=by rw [hR,hk,hla,hlb];simp
     refine Run.zb Z Z Z ?_;refine fR Z ?_;refine Run.fin Z (z3.go ?_);exact .ZG (.agg (.cons (.t Z) (.cons (.own (by rw [hW])) .nil))) (.t Z)
    |true=>
     refine Mid.call (wR H.p13.toPr _ hv hlb) Z Z Z Z ?_;refine fM Z ?_;have hlt:=yu hla;have hlv:=yu hlb;rw [hla,hlb,Bool.and_self,w0e rfl,qB u.length ((zD u).tail.length+1) (zD u).tail (zD v).tail (by omega) (by omega)] at hk;refine Run.z9 Z Z Z ?_;refine fR Z ?_;refine apM nE (B) [(2:Int)] Z Z Z Z Z ?_ (h1:=by first |omega|(simp;omega)|(simp;done)) (h2:=by first |omega|(simp;omega)|(simp;done));refine fM rfl ?_;exact zd 5 rfl (ih ((zD u).tail,(zD v).tail,B++[2]) (by show (zD u).tail.length<u.length;omega) ⟨by show _=(B++[2])++_;rw [hR,hk];simp,by show (B++[2]).length+(zD u).tail.length<=_;simp only [w03,List.length_singleton];omega,by show (zD v).tail.length<=_;omega⟩) rfl rfl rfl
theorem QM {a b:Ref}:wL a b=true↔a=b:=by
 cases a;cases b;simp [wL]
theorem zaU {a b:Ref} (ha:a.Ok):(yQ a b).Ok:=by
 have h1:=z1j (a.z8.length+1) a.z8 b.z8;have h2:=ha.l;unfold yQ;split
 ·exact ⟨by show (ZU (a.z8.length+1) a.z8 b.z8).length*8<=_;omega,ha.nm⟩
 ·exact ⟨by simp,by simp⟩
end Go.GB.C24
namespace Go.GB.C24
open Go.GB Go.GB.C11
variable {P:Program}
section
variable {n m:Nat} {R:St->Prop} {draw:Bool} {all:List AO} {after:List (List Nat)} {live:List Nat} {k:List It} {b:Nat} {fl:List (Bool×Bool)} {ops:List AO} {st st':St} {d:Option Nat}
theorem _root_.Go.GB.Mid.z4R {α:Type} {f:α->List T} {l:List α} {sz:Nat} {z:Int} {s:Nat} {want gc:Bool} {x i:Ar} {v:V} {kd:IntKind} {p1 p2:List Bool} (hg:yr want (look st.env s)=some gc) (hf:gc=false) (hx:rd gc st x=(v,p1)) (hv:v.zx=some (.lst (l.map f))) (hi:rd gc st i=(.t (.int kd z),p2)) (hc:l[z.toNat]?=none)
  (hs:zU st d (.gd false .top) some=some st') (h':Mid P n m R draw all after live k b ((false,false)::fl) ops st'):Mid P n m R draw all after live k b fl (⟨d,some (s,want),.ia sz x i⟩::ops) st:=by
 refine Mid.YQ hg hf ?_ (by simp only [Z0];exact yU hx hv) hs h';simp only [zk,hx,hi]
 have hn:(l.map f)[z.toNat]?=none:=by rw [w0c,hc];rfl
 cases v<;>simp_all [V.zx]
theorem _root_.Go.GB.Mid.z4y {α:Type} {f:α->List T} {l:List α} {e:α} {sz:Nat} {z:Int} {s:Nat} {want gc:Bool} {x i:Ar} {v:V} {kd:IntKind} {p1 p2:List Bool} (hg:yr want (look st.env s)=some gc) (hx:rd gc st x=(v,p1)) (hv:v.zx=some (.lst (l.map f))) (hi:rd gc st i=(.t (.int kd z),p2)) (hc:l[z.toNat]?=some e) (hz:gc=true->0<=z) (hl:(Nat.beq (f e).length sz&&!(Nat.beq sz 0))=true)
  (hp1:Zc (p1.map fun p=>!gc||p)) (hp2:Zc (p2.map fun p=>!gc||p)) (hs:zU st d (.gd gc (.t (.ptr (f e)))) some=some st') (h':Mid P n m R draw all after live k b ((false,false)::fl) ops st'):Mid P n m R draw all after live k b fl (⟨d,some (s,want),.ia sz x i⟩::ops) st:=by
 have hl1:(f e).length=sz/\sz≠0:=by
  simp only [w07] at hl;refine ⟨w10 hl.1,?_⟩;rintro rfl;simp at hl
 have hn:(l.map f)[z.toNat]?=some (f e):=by rw [w0c,hc];rfl
 have hev:zk gc st (.ia sz x i)=some (.t (.ptr (f e)),p1++(p2++[decide (0<=z)])):=by
  simp only [zk,hx,hi]
  cases v<;>simp_all [V.zx]
 refine Mid.za9 hg hev (by simp only [Z0];exact yU hx hv) ?_ hs h';simp only [w24,WS];refine ⟨hp1,hp2,?_⟩
 cases gc with
 |false=>simp [Zc]
 |true=>simp [Zc,hz rfl]
end
structure DL (l:List Dir):Prop where
 n:l.length<=1000000
 d:∀y,y∈l->y.Ok
def ZY:List Dir->List Dir->List Dir
 |out,[]=>out
 |out,x::r=>if (qK x.name||out.any fun y=>eqD y x)=true then ZY out r else ZY (out++[x]) r
def zT (l:List Dir):List Dir:=ZY [] l
def Zn (a b:List Dir):List Dir:=ZY (zT a) b
theorem ya:∀(l out:List Dir) {x:Dir},x∈ZY out l->x∈out∨x∈l
 |[],out,x,h=> .inl h
 |y::r,out,x,h=>by
  simp only [ZY] at h;split at h
  ·rcases ya r out h with h|h
   ·exact .inl h
   ·exact .inr (w0k _ h)
  ·rcases ya r _ h with h|h
   ·rcases w14.1 h with h|h
    ·exact .inl h
    ·exact .inr (by rw [w1i.1 h];simp)
   ·exact .inr (w0k _ h)
theorem qL:∀(l out:List Dir),(ZY out l).length<=out.length+l.length
 |[],out=>by simp [ZY]
 |y::r,out=>by
  simp only [ZY];split
  ·have:=qL r out;simp;omega
  ·have:=qL r (out++[y]);simp at this⊢;omega
theorem wS {l:List Dir}:(zT l).length<=l.length:=by
 have:=qL l [];unfold zT;simpa using this
theorem q5 {l:List Dir} (h:DL l):DL (zT l):=⟨w0o wS h.n,fun y hy=>h.d y (by simpa using ya l [] hy)⟩
theorem zaq {a b:List Dir}:(Zn a b).length<=a.length+b.length:=by
 have h1:=qL b (zT a);have h2:=wS (l:=a);unfold Zn;omega
theorem z5b {a b:List Dir} (ha:∀y,y∈a->y.Ok) (hb:∀y,y∈b->y.Ok):∀y,y∈Zn a b->y.Ok:=fun y hy=>by
 rcases ya b _ hy with h|h
 ·exact ha y (by simpa using ya a [] h)
 ·exact hb y h
theorem z6L (H:zG P) (out l:List Dir) (ho:∀y,y∈(out:List Dir)->y.Ok) (hd:∀y,y∈l->y.Ok) (hl:out.length+l.length<=3000000):z5 P 94 [.own 0 2 (out.map Dir.enc),.t (.lst (l.map Dir.enc))] ⟨[(0,.arr out.length)],1⟩ {v:= .own 0 2 ((ZY out l).map Dir.enc),ob:=[(0,.arr (ZY out l).length)],n:=0,rd:=true}:=by
 have hR:∀R,ZY out l=R->z5 P 94 [.own 0 2 (out.map Dir.enc),.t (.lst (l.map Dir.enc))] ⟨[(0,.arr out.length)],1⟩ {v:= .own 0 2 (R.map Dir.enc),ob:=[(0,.arr R.length)],n:=0,rd:=true}:=by
  intro R hR;refine z5.run H.i94 H.mixed Z Z ?_;refine fR Z ?_
  refine zn l (fun i (B:List Dir)=>{env:=[(0,.own 0 2 (B.map Dir.enc)),(1,.t (.lst (l.map Dir.enc))),(5,.t (.int .i64 i))],s:=⟨[(0,.arr B.length)],1⟩}) (fun r i B=>B.length+r.length<=3000000/\(∀y,y∈B->y.Ok)/\ZY B r=R) 1 out Z ⟨by simpa using hl,ho,hR⟩ rfl rfl rfl ?_ ?_
  ·rintro B ⟨_,_,hB⟩;have hB':B=R:=hB;subst hB';refine fR Z ?_;refine lM Z Z Z ?_;refine fM Z ?_;refine Run.z9 Z Z (by simp) ?_;refine fR Z ?_;refine Run.fin Z (z3.chg Z Z ?_ ?_)
   ·exact .le (.same Z)
   ·exact leSA
  ·rintro i x r B h1 hi hdr ⟨hBl,hBo,hB⟩ ih;simp only [w0d] at hBl;have hxo:=hd x (zMG h1);simp only [ZY] at hB;refine fR Z ?_;refine lM Z Z Z ?_;refine fM Z ?_;refine Run.zb Z Z (by simp;omega) ?_;refine fR Z ?_;refine Mid.z6 Z Z Z h1 Z Z ?_;refine fM Z ?_;refine Mid.call (zef H x.name) Z Z Z Z ?_;refine fM Z ?_;refine zn B (fun j (F:Bool)=>{env:=[(0,.own 0 2 (B.map Dir.enc)),(1,.t (.lst (l.map Dir.enc))),(5,.t (.int .i64 i)),(6,.t (.bool F)),(7,.t (.int .i64 j))],s:=⟨[(0,.arr B.length)],1⟩}) (fun q j F=>(F||q.any fun y=>eqD y x)=(qK x.name||B.any fun y=>eqD y x)) 1 (qK x.name) Z Z Z Z Z ?_ ?_
   ·intro F hF
    have hF':F=(qK x.name||B.any fun y=>eqD y x):=by rw [←hF];simp
    refine fR Z ?_;refine lM Z Z Z ?_;refine fM Z ?_;refine Run.z9 Z Z (by simp) ?_;refine fR Z ?_;refine Run.cond Z Z (fun hc=>?_) (fun hc=>?_)
    ·have e:¬ (qK x.name||B.any fun y=>eqD y x)=true:=by rw [←hF'];simpa using hc
     rw [w0g e] at hB;refine fR Z ?_;refine Mid.z6 Z Z Z h1 Z Z ?_;refine fM Z ?_;refine apM Dir.enc B [x] Z Z Z Z Z ?_ (h1:=by first |omega|(simp;omega)|(simp;done)) (h2:=by first |omega|(simp;omega)|(simp;done));refine fM rfl ?_;refine aL rfl rfl rfl rfl rfl ?_;refine fM rfl ?_
     exact zd 1 Z (ih (B++[x]) ⟨by simp;omega,fun y hy=>by rcases w14.1 hy with hy|hy;exact hBo y hy;rw [w1i.1 hy];exact hxo,hB⟩) rfl rfl rfl
    ·have e:(qK x.name||B.any fun y=>eqD y x)=true:=by rw [←hF'];simpa using hc
     rw [w0e e] at hB;refine fR Z ?_;refine aL Z Z Z Z Z ?_;refine fM Z ?_;exact zd 1 Z (ih B ⟨by omega,hBo,hB⟩) rfl rfl rfl
   ·intro j y q F h2 hj hdq hF ih2;have hyo:=hBo y (zMG h2);refine fR Z ?_;refine lM Z Z Z ?_;refine fM Z ?_;refine Run.zb Z Z (by simp;omega) ?_;refine fR Z ?_;refine elG Z Z Z Z h2 Z Z ?_;refine fM Z ?_;refine elG Z Z Z Z h1 Z Z ?_;refine fM Z ?_;refine caG Z Z (fun hg=>⟨_,rfl,z3y H y x hyo hxo,rfl⟩) Z Z ?_;refine fM Z ?_;refine aL Z Z Z Z Z ?_;refine fM Z ?_;exact zd 1 Z (ih2 (F||eqD y x) (by rw [←hF];simp [Bool.or_assoc])) Z Z Z
 exact hR _ Z
theorem z4s (H:zG P) (l:List Dir) (hd:∀y,y∈l->y.Ok) (hl:l.length<=3000000):z5 P 94 [.zp,.t (.lst (l.map Dir.enc))] ⟨[],0⟩ {v:= .own 0 2 ((zT l).map Dir.enc),ob:=[(0,.arr (zT l).length)],n:=1,rd:=true}:=
 z5.wk (z6L H [] l (by simp) hd (by simpa using hl)) (Nat.zero_le _) (.cons (.Z7 (Nat.zero_le _) (by decide)) (.cons .t .nil)) ⟨.inr ⟨Nat.zero_le _,by decide,rfl⟩,trivial⟩ rfl rfl rfl
theorem zcK (H:zG P) (l:List Dir) (hd:∀y,y∈l->y.Ok) (hl:l.length<=3000000):z5 P 49 [.t (.lst (l.map Dir.enc))] ⟨[],0⟩ {v:= .own 0 2 ((zT l).map Dir.enc),ob:=[(0,.arr (zT l).length)],n:=1,rd:=true}:=by
 have h0:=z4s H l hd hl;refine z5.run H.i49 H.mixed Z Z ?_;refine fR Z ?_
 refine Mid.z4o [] (h0) Z Z Z Z Z (by repeat' (first |exact trivial|exact rfl|refine And.intro ?_ ?_|exact (congrArg some (zf.ren_mE _ _ _ _ _ _)).symm|exact (congrArg some (zf.ren_cE _ _ _)).symm|(refine (congrArg some (zf.zY ?_ _ _)).symm;intro _;rfl))) Z Z (ob':=[(0,.arr (zT l).length)]) (rfl) Z Z ?_
 refine fM Z ?_;refine Run.fin Z (z3.chg Z Z ?_ ?_)
 ·exact .le (.same Z)
 ·exact leSA
theorem qi (H:zG P) (l:List Dir) (hd:∀y,y∈l->y.Ok) (hl:l.length<=3000000):z5 P 49 [.t (.lst (l.map Dir.enc))] ⟨[],0⟩ {v:= .t (.lst ((zT l).map Dir.enc))}:=by
 have h0:=z4s H l hd hl;refine z5.run H.i49 H.mixed Z Z ?_;refine fR Z ?_
 refine Mid.z4o [] (h0) Z Z Z Z Z (by repeat' (first |exact trivial|exact rfl|refine And.intro ?_ ?_|exact (congrArg some (zf.ren_mE _ _ _ _ _ _)).symm|exact (congrArg some (zf.ren_cE _ _ _)).symm|(refine (congrArg some (zf.zY ?_ _ _)).symm;intro _;rfl))) Z Z (ob':=[(0,.arr (zT l).length)]) (rfl) Z Z ?_
 refine fM Z ?_;refine Run.fin Z (z3.go ?_);exact .own Z
theorem z1r (H:zG P) (a b:List Dir) (ha:DL a) (hb:DL b):z5 P 47 [.t (.lst (a.map Dir.enc)),.t (.lst (b.map Dir.enc))] ⟨[],0⟩ {v:= .t (.lst ((Zn a b).map Dir.enc))}:=by
 have h1:=zcK H a ha.d (by have:=ha.n;omega);have h2:=z6L H (zT a) b (q5 ha).d hb.d (by have:=(q5 ha).n;have:=hb.n;omega);refine z5.run H.i47 H.mixed Z Z ?_;refine fR Z ?_
 refine Mid.yp [] (h1) Z Z Z Z Z (by repeat' (first |exact trivial|exact rfl|refine And.intro ?_ ?_|exact (congrArg some (zf.ren_mE _ _ _ _ _ _)).symm|exact (congrArg some (zf.ren_cE _ _ _)).symm|(refine (congrArg some (zf.zY ?_ _ _)).symm;intro _;rfl))) Z Z (ob':=[(0,.arr (zT a).length)]) (rfl) Z Z ?_
 refine fM Z ?_
 refine Mid.z4o [0] (h2) Z Z Z Z Z (by repeat' (first |exact trivial|exact rfl|refine And.intro ?_ ?_|exact (congrArg some (zf.ren_mE _ _ _ _ _ _)).symm|exact (congrArg some (zf.ren_cE _ _ _)).symm|(refine (congrArg some (zf.zY ?_ _ _)).symm;intro _;rfl))) Z Z (ob':=[(0,.arr (Zn a b).length)]) (rfl) Z Z ?_
 refine fM Z ?_;refine Run.fin Z (z3.go ?_);exact .own Z
def Q8 (n:Str):List Dir->Option Dir
 |[]=>none
 |x::r=>if (x.name==n)=true then some x else Q8 n r
theorem WV (n:Str):∀(l:List Dir) (i:Nat),(ZO n l i=-1/\Q8 n l=none)∨∃j x,ZO n l i=((i+j:Nat):Int)/\l[j]?=some x/\Q8 n l=some x
 |[],i=> .inl ⟨rfl,rfl⟩
 |y::r,i=>by
  simp only [ZO,Q8];by_cases h:(y.name==n)=true
  ·rw [w0e h,w0e h];exact .inr ⟨0,y,rfl,rfl,rfl⟩
  ·rw [w0g h,w0g h]
   rcases WV n r (i+1) with ⟨h1,h2⟩|⟨j,x,h1,h2,h3⟩
   ·exact .inl ⟨h1,h2⟩
   ·exact .inr ⟨j+1,x,by rw [show ((i:Int)+1)=((i+1:Nat):Int) from rfl,h1];congr 1;omega,h2,h3⟩
theorem z1p {n:Str}:∀{l:List Dir} {x:Dir},Q8 n l=some x->x.name=n/\x∈l
 |[],x,h=>by simp [Q8] at h
 |y::r,x,h=>by
  simp only [Q8] at h;split at h
  ·rename_i e;simp at h;subst h
   exact ⟨by simpa using e,by simp⟩
  ·exact ⟨(z1p h).1,w0k _ (z1p h).2⟩
theorem z1k {n:Str}:∀{l:List Dir} {x:Dir},x∈l->x.name=n->∃y,Q8 n l=some y
 |y::r,x,h,e=>by
  simp only [Q8];by_cases h2:(y.name==n)=true
  ·exact ⟨y,by rw [w0e h2]⟩
  ·rw [w0g h2]
   rcases w0t.1 h with h|h
   ·subst h;exact absurd (by simp [e]) h2
   ·exact z1k h e
def z2f:Str:=[116,97,103]
def cfl (x y:List Dir) (d:Dir):Bool:=
 d.name !=z2f&&(match Q8 d.name y,Q8 d.name x with|some v,some u=>!eqD u v|_,_=>false)
def zO (a b:List Dir):Bool:=(zT a).any (cfl (zT a) (zT b))
theorem Q4 (H:zG P) (a b:List Dir) (ha:DL a) (hb:DL b):z5 P 42 [.t (.lst (a.map Dir.enc)),.t (.lst (b.map Dir.enc))] ⟨[],0⟩ {v:= .t (.bool (zO a b))}:=by
 have g1:=qi H a ha.d (by have:=ha.n;omega);have g2:=qi H b hb.d (by have:=hb.n;omega);have hX:=q5 ha;have hY:=q5 hb;have e0:zO a b=(zT a).any (cfl (zT a) (zT b)):=rfl;generalize hx:zT a=X at*;generalize hy:zT b=Y at*;have hXl:=hX.n;have hYl:=hY.n;refine z5.run H.i42 H.mixed Z Z ?_;refine fR Z ?_;refine Mid.call (g1) Z Z Z Z ?_;refine fM Z ?_;refine Mid.call (g2) Z Z Z Z ?_;refine fM Z ?_;refine zn X (fun i (_:Unit)=>{env:=[(5,.t (.lst (X.map Dir.enc))),(6,.t (.lst (Y.map Dir.enc))),(7,.t (.int .i64 i))],s:=⟨[],0⟩}) (fun r i _=>zO a b=r.any (cfl X Y)) 0 () Z e0 Z Z Z ?_ ?_
 ·intro _ hinv;refine fR Z ?_;refine lM Z Z Z ?_;refine fM Z ?_;refine Run.z9 Z Z (by simp) ?_;refine fR Z ?_;refine Run.fin Z (z3.go ?_);exact .t (by rw [hinv];rfl)
 ·intro i d r _ h1 hi hdr hinv ih
  have hinv:zO a b=(cfl X Y d||r.any (cfl X Y)):=by rw [hinv,w1d]
  obtain ⟨u,hu⟩:=z1k (zMG h1) (rfl:d.name=d.name)
  rcases WV d.name X 0 with ⟨_,h⟩|⟨k,u',hk,hk2,hk3⟩
  ·rw [hu] at h;cases h
  have:u=u':=by rw [hu] at hk3;exact Option.some.inj hk3
  subst this;have hkX:=z2P H X (by omega) d.name;have hkY:=z2P H Y (by omega) d.name
  rw [show ZO d.name X 0=(k:Int) by rw [show (0:Int)=((0:Nat):Int) from rfl,hk];simp] at hkX
  refine fR Z ?_;refine lM Z Z Z ?_;refine fM Z ?_;refine Run.zb Z Z (by simp;omega) ?_;refine fR Z ?_;refine Mid.z6 Z Z Z h1 Z Z ?_;refine fM Z ?_
  rcases WV d.name Y 0 with ⟨h5,h6⟩|⟨j,v,h5,h6,h7⟩
  ·rw [show ZO d.name Y 0=(-1:Int) from h5] at hkY
   have e:cfl X Y d=false:=by simp [cfl,h6]
   refine Mid.call (hkY) Z Z Z Z ?_;refine fM Z ?_;refine Mid.z6 Z Z Z h1 Z Z ?_;refine fM Z ?_;refine elG Z Z Z Z h1 Z Z ?_;refine fM Z ?_;refine caG Z Z (fun hg=>⟨_,rfl,hkX,rfl⟩) Z Z ?_;skip;refine elG Z Z Z Z hk2 Z Z ?_;refine fM Z ?_
   cases hY0:Y[(-1:Int).toNat]? with
   |none=>
    refine Mid.z4R Z (by simp) Z Z Z hY0 Z ?_;refine Mid.YQ Z (by first |rfl|(simp;done)) Z Z Z ?_;refine Mid.YQ Z (by first |rfl|(simp;done)) Z Z Z ?_;refine Mid.YQ Z (by first |rfl|(simp;done)) Z Z Z ?_;refine fM Z ?_;refine Run.z9 Z Z Z ?_;refine fR Z ?_;refine aL Z Z Z Z Z ?_;refine fM Z ?_;exact zd 0 Z (ih () (by rw [hinv,e];rfl)) Z Z Z
   |some w=>
    have hq:=z3y H u w (hX.d u (zMG hk2)) (hY.d w (zMG hY0))
    refine Mid.z4y Z Z Z Z hY0 (fun hg=>by simp at hg) rfl (by (repeat' (first |exact trivial|exact w12 _|exact WR _|exact qd _|exact grd3 _ _|exact q6 _ _|refine And.intro ?_ ?_|exact rfl|(simp;done)|(simp<;>omega)));done) (by (repeat' (first |exact trivial|exact w12 _|exact WR _|exact qd _|exact grd3 _ _|exact q6 _ _|refine And.intro ?_ ?_|exact rfl|(simp;done)|(simp<;>omega)));done) rfl ?_
    refine fM Z ?_;refine caG Z Z (fun hg=>⟨_,rfl,hq,rfl⟩) Z Z ?_;refine fM Z ?_;refine Run.z9 Z Z (by simp) ?_;refine fR Z ?_;refine aL Z Z Z Z Z ?_;refine fM Z ?_;exact zd 0 Z (ih () (by rw [hinv,e];rfl)) Z Z Z
  ·rw [show ZO d.name Y 0=(j:Int) by rw [show (0:Int)=((0:Nat):Int) from rfl,h5];simp] at hkY
   have hq:=z3y H u v (hX.d u (zMG hk2)) (hY.d v (zMG h6))
   have e:cfl X Y d=(d.name !=z2f&&!eqD u v):=by simp [cfl,h7,hu]
   refine Mid.call (hkY) Z Z Z Z ?_;refine fM Z ?_;refine Mid.z6 Z Z Z h1 Z Z ?_;refine fM Z ?_;refine elG Z Z Z Z h1 Z Z ?_;refine fM Z ?_;refine caG Z Z (fun hg=>⟨_,rfl,hkX,rfl⟩) Z Z ?_;skip;refine elG Z Z Z Z hk2 Z Z ?_;refine fM Z ?_;refine elG Z Z Z Z h6 Z Z ?_;refine fM Z ?_;refine caG Z Z (fun hg=>⟨_,rfl,hq,rfl⟩) Z Z ?_;refine fM Z ?_;refine Run.cond Z Z (fun hc=>?_) (fun hc=>?_)
   ·refine fR Z ?_;refine Run.fin Z (z3.go ?_);exact .t (by rw [hinv,e,show (d.name !=z2f&&!eqD u v)=true by simpa [z2f] using hc];rfl)
   ·refine fR Z ?_;refine aL Z Z Z Z Z ?_;refine fM Z ?_;exact zd 0 Z (ih () (by rw [hinv,e,show (d.name !=z2f&&!eqD u v)=false by rw [←hc];simp [z2f,bne]];rfl)) Z Z Z
end Go.GB.C24
namespace Go.GB
section
variable {P:Program} {n m:Nat} {R:St->Prop}
theorem Run.z6Z {β:Type} (stf:β->St) (Good:β->Prop) {k k' k'':List It} {z:Ar} {a b c:zJ} {st:St} {t:Bool} (hk:ZS 200 k= .c (.cond z a b)::k') (hk2:ZS 200 k'= .c c::k'') (hz:z.v st= .t (.bool t))
  (hj:∀x,Good x->Run P n m R (.c c::k'') (stf x)) (h1:t=true->(∀x,Good x->Run P n m R (.c c::k'') (stf x))->Run P n m R (.c a::k') st)
  (h2:t=false->(∀x,Good x->Run P n m R (.c c::k'') (stf x))->Run P n m R (.c b::k') st):Run P n m R k st:=
 Run.cond hk hz (fun h=>h1 h hj) (fun h=>h2 h hj)
end
end Go.GB
namespace Go.GB.C24
open Go.GB Go.GB.C11
variable {P:Program}
structure FB (n:Nat) (f:Field):Prop where
 ok:f.Ok
 al:f.args.length<=1000
 dl:f.zg.length<=n
structure DB (n:Nat) (d:Def):Prop where
 ok:d.Ok
 il:d.implements.length<=n
 dl:d.zg.length<=n
 fl:d.fields.length<=n
 f:∀y,y∈d.fields->FB n y
 ml:d.members.length<=1000
 m:∀y,y∈d.members->y.zg.length<=n
 nl:d.zi.length<=1000
theorem FB.d {n:Nat} {f:Field} (h:FB n f) (hn:n<=1000000):DL f.zg:=⟨w0o h.dl hn,h.ok.d⟩
theorem FB.mono {n k:Nat} {f:Field} (h:FB n f) (hn:n<=k):FB k f:=⟨h.ok,h.al,w0o h.dl hn⟩
theorem DB.d {n:Nat} {d:Def} (h:DB n d) (hn:n<=1000000):DL d.zg:=⟨w0o h.dl hn,h.ok.d⟩
theorem DB.md {n:Nat} {d:Def} (h:DB n d) (hn:n<=1000000) {x:zh} (hx:x∈d.members):DL x.zg:=⟨w0o (h.m x hx) hn,(h.ok.m x hx).d⟩
theorem wY {n:Str}:∀{l:List Field} {d:Field},zu n l=some d->d∈l
 |[],d,h=>by simp [zu] at h
 |x::r,d,h=>by
  simp only [zu] at h;split at h
  ·cases h;exact w1x ..
  ·exact w0k _ (wY h)
theorem z7J {n:Nat} {l:List Field} (h:∀y,y∈l->FB n y) (s:Str):FB n ((zu s l).getD Field.zero):=by
 cases e:zu s l with
 |none=>exact ⟨Field.Yp,by simp [Field.zero],by simp [Field.zero]⟩
 |some x=>exact h x (wY e)
theorem z8m {l:List zh} (h:∀y,y∈l->y.Ok) (s:Str):((zK s l).getD zh.zero).Ok:=by
 cases e:zK s l with
 |none=>exact zh.Yp
 |some x=>exact h x (Ym e)
def one (c:Bool) (f:z4):List z4:=if c=true then [f] else []
theorem Wv (c:Bool) (f:z4):(one c f).length<=1:=by unfold one;split<;>simp
theorem Y5 (f:z4):one true f=[f]:=rfl
theorem Yl (f:z4):one false f=[]:=rfl
def zm {α:Type} (c:α->Bool) (f:α->z4):List α->List z4
 |[]=>[]
 |x::r=>one (c x) (f x)++zm c f r
theorem Zp {α:Type} (c:α->Bool) (f:α->z4):∀l:List α,(zm c f l).length<=l.length
 |[]=>by simp [zm]
 |x::r=>by
  have h1:=Wv (c x) (f x);have h2:=Zp c f r;simp only [zm,w03,w0d];omega
def ye (l:List Input) (x:Input):Bool:=!(zw x.name l).isSome||!alike ((zw x.name l).getD Input.zero) x
def y3 (l:List Input) (x:Input):Bool:=!(zw x.name l).isSome
def Z9 (at_:Str) (e:Int) (x:Input):z4:=⟨e,at_++[40]++x.name++[41]⟩
def WC (a b:Field) (at_:Str):List z4:=
 one (!Zj a.ty b.ty) ⟨10,at_⟩++(zm (ye b.args) (Z9 at_ 22) a.args++(zm (y3 a.args) (Z9 at_ 22) b.args++one (zO a.zg b.zg) ⟨29,at_⟩))
theorem z35 (a b:Field) (at_:Str):(WC a b at_).length<=2+a.args.length+b.args.length:=by
 have h1:=Wv (!Zj a.ty b.ty) ⟨10,at_⟩;have h2:=Zp (ye b.args) (Z9 at_ 22) a.args;have h3:=Zp (y3 a.args) (Z9 at_ 22) b.args;have h4:=Wv (zO a.zg b.zg) ⟨29,at_⟩;simp only [WC,w03];omega
theorem zbt (H:zG P) {n:Nat} (hn:n<=1000000) (a b:Field) (ha:FB n a) (hb:FB n b) (at_:Str) (hat:at_.length<=1125899906842624):z5 P 92 [a.v,b.v,.t (.str at_)] ⟨[],0⟩ {v:= .t (.lst ((WC a b at_).map z4.enc))}:=by
 have hal:=ha.al;have hbl:=hb.al;have hao:=ha.ok.a;have hbo:=hb.ok.a;have e0:WC a b at_=one (!Zj a.ty b.ty) ⟨10,at_⟩++(zm (ye b.args) (Z9 at_ 22) a.args++(zm (y3 a.args) (Z9 at_ 22) b.args++one (zO a.zg b.zg) ⟨29,at_⟩)):=rfl;have hlen:=z35 a b at_;generalize WC a b at_=tot at e0 hlen⊢;have hs:=z6M H.p13.toPr a.ty b.ty ha.ok.t hb.ok.t;have hcf:=Q4 H a.zg b.zg (ha.d hn) (hb.d hn);refine z5.run H.i92 H.mixed Z Z ?_;refine fR Z ?_;refine Mid.call (hs) Z Z Z Z ?_;refine fM Z ?_;refine ZD 2 Z (st':={env:=[(2,.t (.str at_)),(3,.ptr 0 0),(4,.ptr 1 0),(7,.own 2 2 (([]:List z4).map z4.enc)),(19,.t (.bool (!Zj a.ty b.ty)))],s:=⟨[(0,.cells [.t (.str a.name),.t (.lst (a.args.map Input.enc)),.t (.str a.ty.name),.t (.lst (a.ty.z8.map nE)),.t (.lst (a.zg.map Dir.enc))]),(1,.cells [.t (.str b.name),.t (.lst (b.args.map Input.enc)),.t (.str b.ty.name),.t (.lst (b.ty.z8.map nE)),.t (.lst (b.zg.map Dir.enc))]),(2,.arr 0)],3⟩}) ?_ Z Z Z;refine Run.z6Z (fun B:List z4=>{env:=[(2,.t (.str at_)),(3,.ptr 0 0),(4,.ptr 1 0),(7,.own 2 2 (B.map z4.enc))],s:=⟨[(0,.cells [.t (.str a.name),.t (.lst (a.args.map Input.enc)),.t (.str a.ty.name),.t (.lst (a.ty.z8.map nE)),.t (.lst (a.zg.map Dir.enc))]),(1,.cells [.t (.str b.name),.t (.lst (b.args.map Input.enc)),.t (.str b.ty.name),.t (.lst (b.ty.z8.map nE)),.t (.lst (b.zg.map Dir.enc))]),(2,.arr B.length)],3⟩}) (fun B=>B++(zm (ye b.args) (Z9 at_ 22) a.args++(zm (y3 a.args) (Z9 at_ 22) b.args++one (zO a.zg b.zg) ⟨29,at_⟩))=tot) Z Z Z ?_ ?_ ?_
 ·intro B hB;refine fR Z ?_;refine zn a.args (fun i (C:List z4)=>{env:=[(2,.t (.str at_)),(3,.ptr 0 0),(4,.ptr 1 0),(7,.own 2 2 (C.map z4.enc)),(8,.t (.int .i64 i))],s:=⟨[(0,.cells [.t (.str a.name),.t (.lst (a.args.map Input.enc)),.t (.str a.ty.name),.t (.lst (a.ty.z8.map nE)),.t (.lst (a.zg.map Dir.enc))]),(1,.cells [.t (.str b.name),.t (.lst (b.args.map Input.enc)),.t (.str b.ty.name),.t (.lst (b.ty.z8.map nE)),.t (.lst (b.zg.map Dir.enc))]),(2,.arr C.length)],3⟩}) (fun r i C=>C++(zm (ye b.args) (Z9 at_ 22) r++(zm (y3 a.args) (Z9 at_ 22) b.args++one (zO a.zg b.zg) ⟨29,at_⟩))=tot) 3 B Z hB Z Z Z ?_ ?_
  ·intro C hC;refine fR Z ?_;refine lM Z Z Z ?_;refine fM Z ?_;refine Run.z9 Z Z (by simp) ?_;refine fR Z ?_;refine zn b.args (fun i (D:List z4)=>{env:=[(2,.t (.str at_)),(3,.ptr 0 0),(4,.ptr 1 0),(7,.own 2 2 (D.map z4.enc)),(11,.t (.int .i64 i))],s:=⟨[(0,.cells [.t (.str a.name),.t (.lst (a.args.map Input.enc)),.t (.str a.ty.name),.t (.lst (a.ty.z8.map nE)),.t (.lst (a.zg.map Dir.enc))]),(1,.cells [.t (.str b.name),.t (.lst (b.args.map Input.enc)),.t (.str b.ty.name),.t (.lst (b.ty.z8.map nE)),.t (.lst (b.zg.map Dir.enc))]),(2,.arr D.length)],3⟩}) (fun r i D=>D++(zm (y3 a.args) (Z9 at_ 22) r++one (zO a.zg b.zg) ⟨29,at_⟩)=tot) 3 C Z (by simpa [zm] using hC) Z Z Z ?_ ?_
   ·intro D hD;refine fR Z ?_;refine lM Z Z Z ?_;refine fM Z ?_;refine Run.z9 Z Z (by simp) ?_;refine fR Z ?_;refine Mid.call (hcf) Z Z Z Z ?_;refine fM Z ?_
    have hD2:D++one (zO a.zg b.zg) ⟨29,at_⟩=tot:=by simpa [zm] using hD
    have hDl:D.length<=2002:=by have:=congrArg List.length hD2;simp only [w03] at this;omega
    refine Run.cond Z Z (fun hc=>?_) (fun hc=>?_)
    ·rw [hc,Y5] at hD2;refine fR Z ?_;refine Mid.call (Zo H 29 at_) Z Z Z Z ?_;refine fM Z ?_;refine apM z4.enc D [(⟨29,at_⟩:z4)] Z Z Z Z Z ?_ (h1:=by first |omega|(simp;omega)|(simp;done)) (h2:=by first |omega|(simp;omega)|(simp;done));refine fM rfl ?_;refine Run.fin rfl (z3.go ?_);exact .own (by rw [hD2])
    ·rw [hc,Yl,w1j] at hD2;refine fR Z ?_;refine Run.fin Z (z3.go ?_);exact .own (by rw [hD2])
   ·intro i x r D h1 hi hdr hD ih
    have hD:D++(one (y3 a.args x) (Z9 at_ 22 x)++(zm (y3 a.args) (Z9 at_ 22) r++one (zO a.zg b.zg) ⟨29,at_⟩))=tot:=by rw [←hD];simp [zm]
    have hDl:D.length<=2002:=by have:=congrArg List.length hD;simp only [w03] at this;omega
    have hxn:=(hbo x (zMG h1)).nm;refine fR Z ?_;refine lM Z Z Z ?_;refine fM Z ?_;refine Run.zb Z Z (by simp;omega) ?_;refine fR Z ?_;refine Mid.z6 Z Z Z h1 Z Z ?_;refine fM Z ?_;refine Mid.call (yP H.p13.toPr a.args (by omega) x.name) Z Z Z Z ?_;refine fM Z ?_;refine Run.cond Z Z (fun hc=>?_) (fun hc=>?_)
    ·rw [show y3 a.args x=true from hc,Y5] at hD;refine fR Z ?_;refine pu Z ?_;refine fM Z ?_;refine Mid.z6 Z Z Z h1 Z Z ?_;refine fM Z ?_;refine pu Z ?_;refine pu Z ?_;refine Mid.call (Zo H 22 (at_++[40]++x.name++[41])) Z Z Z Z ?_;refine fM Z ?_;refine apM z4.enc D [Z9 at_ 22 x] Z Z Z Z Z ?_ (h1:=by first |omega|(simp;omega)|(simp;done)) (h2:=by first |omega|(simp;omega)|(simp;done));refine fM rfl ?_;refine aL rfl rfl rfl rfl rfl ?_;refine fM rfl ?_;exact zd 3 rfl (ih (D++[Z9 at_ 22 x]) (by rw [←hD];simp)) rfl rfl rfl
    ·rw [show y3 a.args x=false from hc,Yl,w0u] at hD;refine fR Z ?_;refine aL Z Z Z Z Z ?_;refine fM Z ?_;exact zd 3 Z (ih D hD) Z Z Z
  ·intro i x r C h1 hi hdr hC ih
   have hC:C++(one (ye b.args x) (Z9 at_ 22 x)++(zm (ye b.args) (Z9 at_ 22) r++(zm (y3 a.args) (Z9 at_ 22) b.args++one (zO a.zg b.zg) ⟨29,at_⟩)))=tot:=by rw [←hC];simp [zm]
   have hCl:C.length<=2002:=by have:=congrArg List.length hC;simp only [w03] at this;omega
   have hxo:=hao x (zMG h1);have hxn:=hxo.nm;have hal:=z3C H ((zw x.name b.args).getD Input.zero) x (zer hbo x.name) hxo;refine fR Z ?_;refine lM Z Z Z ?_;refine fM Z ?_;refine Run.zb Z Z (by simp;omega) ?_;refine fR Z ?_;refine Mid.z6 Z Z Z h1 Z Z ?_;refine fM Z ?_;refine Mid.call (yP H.p13.toPr b.args (by omega) x.name) Z Z Z Z ?_;refine fM Z ?_;refine elG Z Z Z Z h1 Z Z ?_;refine fM Z ?_;refine caG Z Z (fun hg=>⟨_,rfl,hal,rfl⟩) Z Z ?_;refine fM Z ?_;refine Run.cond Z Z (fun hc=>?_) (fun hc=>?_)
   ·rw [show ye b.args x=true from hc,Y5] at hC;refine fR Z ?_;refine pu Z ?_;refine fM Z ?_;refine Mid.z6 Z Z Z h1 Z Z ?_;refine fM Z ?_;refine pu Z ?_;refine pu Z ?_;refine Mid.call (Zo H 22 (at_++[40]++x.name++[41])) Z Z Z Z ?_;refine fM Z ?_;refine apM z4.enc C [Z9 at_ 22 x] Z Z Z Z Z ?_ (h1:=by first |omega|(simp;omega)|(simp;done)) (h2:=by first |omega|(simp;omega)|(simp;done));refine fM rfl ?_;refine aL rfl rfl rfl rfl rfl ?_;refine fM rfl ?_;exact zd 3 rfl (ih (C++[Z9 at_ 22 x]) (by rw [←hC];simp)) rfl rfl rfl
   ·rw [show ye b.args x=false from hc,Yl,w0u] at hC;refine fR Z ?_;refine aL Z Z Z Z Z ?_;refine fM Z ?_;exact zd 3 Z (ih C hC) Z Z Z
 ·intro hc ih;rw [show (!Zj a.ty b.ty)=true from hc,Y5] at e0;refine fR Z ?_;refine Mid.call (Zo H 10 at_) Z Z Z Z ?_;refine fM Z ?_;refine apM z4.enc [] [(⟨10,at_⟩:z4)] Z Z Z Z Z ?_ (h1:=by first |omega|(simp;omega)|(simp;done)) (h2:=by first |omega|(simp;omega)|(simp;done));refine Mid.Wn (f:=1) rfl trivial ?_;refine Mid.WM rfl ?_;exact ZD 3 rfl (ih [⟨10,at_⟩] e0.symm) rfl rfl rfl
 ·intro hc ih;rw [show (!Zj a.ty b.ty)=false from hc,Yl] at e0;exact ZD 3 Z (ih [] e0.symm) Z Z Z
end Go.GB.C24
namespace Go.GB.C24
open Go.GB Go.GB.C11
variable {P:Program}
def zB (n:Str) (e:Int) (s:Str):z4:=⟨e,n++[46]++s⟩
def ZL (l:List zh) (n:Str) (x:zh):List z4:=
 if (zK x.name l).isSome=true then one (zO x.zg ((zK x.name l).getD zh.zero).zg) (zB n 29 x.name) else [zB n 45 x.name]
def Y0 (l:List zh) (x:zh):Bool:=!(zK x.name l).isSome
def Yy (a b:Def):List z4:=a.members.flatMap (ZL b.members a.name)++zm (Y0 a.members) (fun y=>zB a.name 45 y.name) b.members
def Zw (l:List Input) (n:Str) (x:Input):List z4:=
 if (zw x.name l).isSome=true then (if wL ((zw x.name l).getD Input.zero).ty x.ty=true then one (!alike ((zw x.name l).getD Input.zero) x) (zB n 22 x.name) else [zB n 10 x.name]) else [zB n 45 x.name]
def Wu (a b:Def):List z4:=a.zi.flatMap (Zw b.zi a.name)++zm (y3 a.zi) (fun y=>zB a.name 45 y.name) b.zi
def Z1 (l:List Field) (n:Str) (x:Field):List z4:=
 if (zu x.name l).isSome=true then WC x ((zu x.name l).getD Field.zero) (n++[46]++x.name) else []
def zW (l:List Field) (x:Field):Bool:=!(zu x.name l).isSome
def kF (k:Int) (l:List Field):List Field:=if k=2 then l else []
def wi (a b:Def):List z4:=
 a.fields.flatMap (Z1 b.fields a.name)++(zm (zW b.fields) (fun y=>zB a.name 45 y.name) (kF a.kind a.fields)++zm (zW a.fields) (fun y=>zB a.name 45 y.name) (kF a.kind b.fields))
theorem z34 (l:List zh) (n:Str) (x:zh):(ZL l n x).length<=1:=by
 unfold ZL;split
 ·exact Wv _ _
 ·simp
theorem z2Y (l:List Input) (n:Str) (x:Input):(Zw l n x).length<=1:=by
 unfold Zw;split
 ·split
  ·exact Wv _ _
  ·simp
 ·simp
theorem zQ {α:Type} {g:α->List z4} {k:Nat}:∀{l:List α},(∀x,x∈l->(g x).length<=k)->(l.flatMap g).length<=l.length*k
 |[],_=>by simp
 |x::r,h=>by
  have h1:=h x (by simp);have h2:=zQ (l:=r) (g:=g) (k:=k) fun y hy=>h y (by simp [hy]);simp only [List.flatMap_cons,w03,w0d,w13];omega
theorem Ql {n:Nat} {l:List Field} (hl:∀y,y∈l->FB n y) (s:Str) {x:Field} (hx:FB n x):(Z1 l s x).length<=2002:=by
 unfold Z1;split
 ·have h1:=z35 x ((zu x.name l).getD Field.zero) (s++[46]++x.name);have h2:=(z7J hl x.name).al;have h3:=hx.al;omega
 ·simp
theorem zby (k:Int) (l:List Field):(kF k l).length<=l.length:=by unfold kF;split<;>simp
theorem qF {n:Nat} {a b:Def} (ha:DB n a) (hb:DB n b):(Yy a b).length<=2000:=by
 have h1:=zQ (l:=a.members) (g:=ZL b.members a.name) fun x _=>z34 _ _ x;have h2:=Zp (Y0 a.members) (fun y=>zB a.name 45 y.name) b.members;have h3:=ha.ml;have h4:=hb.ml;simp only [Yy,w03];omega
theorem Qc {n:Nat} {a b:Def} (ha:DB n a) (hb:DB n b):(Wu a b).length<=2000:=by
 have h1:=zQ (l:=a.zi) (g:=Zw b.zi a.name) fun x _=>z2Y _ _ x;have h2:=Zp (y3 a.zi) (fun y=>zB a.name 45 y.name) b.zi;have h3:=ha.nl;have h4:=hb.nl;simp only [Wu,w03];omega
theorem Qj {n:Nat} {a b:Def} (ha:DB n a) (hb:DB n b):(wi a b).length<=2004*n:=by
 have h1:=zQ (l:=a.fields) (g:=Z1 b.fields a.name) fun x hx=>Ql hb.f _ (ha.f x hx);have h2:=Zp (zW b.fields) (fun y=>zB a.name 45 y.name) (kF a.kind a.fields);have h3:=Zp (zW a.fields) (fun y=>zB a.name 45 y.name) (kF a.kind b.fields);have h4:=zby a.kind a.fields;have h5:=zby a.kind b.fields;have h6:=ha.fl;have h7:=hb.fl;have:a.fields.length*2002<=n*2002:=w0s _ h6;simp only [wi,w03];omega
theorem wa (H:zG P) {n:Nat} (hn:n<=1000000) (a b:Def) (ha:DB n a) (hb:DB n b):z5 P 44 [a.v,b.v] ⟨[],0⟩ {v:= .t (.lst ((Yy a b).map z4.enc))}:=by
 have hal:=ha.ml;have hbl:=hb.ml;have hnm:=ha.ok.nm;have e0:Yy a b=a.members.flatMap (ZL b.members a.name)++zm (Y0 a.members) (fun y=>zB a.name 45 y.name) b.members:=rfl;have hlen:=qF ha hb;generalize Yy a b=tot at e0 hlen⊢;refine z5.run H.i44 H.mixed Z Z ?_;refine fR Z ?_;refine zn a.members (fun i (C:List z4)=>{env:=[(2,.ptr 0 0),(3,.ptr 1 0),(5,.own 2 2 (C.map z4.enc)),(6,.t (.int .i64 i))],s:=⟨[(0,(TCo a)),(1,(TCo b)),(2,.arr C.length)],3⟩}) (fun r i C=>C++(r.flatMap (ZL b.members a.name)++zm (Y0 a.members) (fun y=>zB a.name 45 y.name) b.members)=tot) 2 [] Z e0.symm Z Z Z ?_ ?_
 ·intro C hC;refine fR Z ?_;refine lM Z Z Z ?_;refine fM Z ?_;refine Run.z9 Z Z (by simp) ?_;refine fR Z ?_;refine zn b.members (fun i (D:List z4)=>{env:=[(2,.ptr 0 0),(3,.ptr 1 0),(5,.own 2 2 (D.map z4.enc)),(10,.t (.int .i64 i))],s:=⟨[(0,(TCo a)),(1,(TCo b)),(2,.arr D.length)],3⟩}) (fun r i D=>D++zm (Y0 a.members) (fun y=>zB a.name 45 y.name) r=tot) 3 C Z (by simpa using hC) Z Z Z ?_ ?_
  ·intro D hD
   have hD2:D=tot:=by simpa [zm] using hD
   refine fR Z ?_;refine lM Z Z Z ?_;refine fM Z ?_;refine Run.z9 Z Z (by simp) ?_;refine fR Z ?_;refine Run.fin Z (z3.go ?_);exact .own (by rw [hD2])
  ·intro i x r D h1 hi hdr hD ih
   have hD:D++(one (Y0 a.members x) (zB a.name 45 x.name)++zm (Y0 a.members) (fun y=>zB a.name 45 y.name) r)=tot:=by rw [←hD];simp [zm]
   have hDl:D.length<=2000:=by have:=congrArg List.length hD;simp only [w03] at this;omega
   have hxn:=(hb.ok.m x (zMG h1)).nm;refine fR Z ?_;refine lM Z Z Z ?_;refine fM Z ?_;refine Run.zb Z Z (by simp;omega) ?_;refine fR Z ?_;refine Mid.z6 Z Z Z h1 Z Z ?_;refine fM Z ?_;refine Mid.call (z05 H a.members (by omega) x.name) Z Z Z Z ?_;refine fM Z ?_;refine Run.cond Z Z (fun hc=>?_) (fun hc=>?_)
   ·rw [show Y0 a.members x=true from hc,Y5] at hD;refine fR Z ?_;refine pu Z ?_;refine fM Z ?_;refine Mid.z6 Z Z Z h1 Z Z ?_;refine fM Z ?_;refine pu Z ?_;refine Mid.call (Zo H 45 (a.name++[46]++x.name)) Z Z Z Z ?_;refine fM Z ?_;refine apM z4.enc D [zB a.name 45 x.name] Z Z Z Z Z ?_ (h1:=by first |omega|(simp;omega)|(simp;done)) (h2:=by first |omega|(simp;omega)|(simp;done));refine fM rfl ?_;refine aL rfl rfl rfl rfl rfl ?_;refine fM rfl ?_;exact zd 3 rfl (ih (D++[zB a.name 45 x.name]) (by rw [←hD];simp)) rfl rfl rfl
   ·rw [show Y0 a.members x=false from hc,Yl,w0u] at hD;refine fR Z ?_;refine aL Z Z Z Z Z ?_;refine fM Z ?_;exact zd 3 Z (ih D hD) Z Z Z
 ·intro i x r C h1 hi hdr hC ih
  have hC:C++(ZL b.members a.name x++(r.flatMap (ZL b.members a.name)++zm (Y0 a.members) (fun y=>zB a.name 45 y.name) b.members))=tot:=by rw [←hC];simp
  have hCl:C.length<=2000:=by have:=congrArg List.length hC;simp only [w03] at this;omega
  have hxm:=zMG h1;have hxo:=ha.ok.m x hxm;have hxn:=hxo.nm;refine fR Z ?_;refine lM Z Z Z ?_;refine fM Z ?_;refine Run.zb Z Z (by simp;omega) ?_;refine fR Z ?_;refine pu Z ?_;refine fM Z ?_;refine Mid.z6 Z Z Z h1 Z Z ?_;refine fM Z ?_;refine pu Z ?_;refine fM Z ?_;refine Mid.z6 Z Z Z h1 Z Z ?_;refine fM Z ?_;refine Mid.call (z05 H b.members (by omega) x.name) Z Z Z Z ?_;refine fM Z ?_
  cases hf:zK x.name b.members with
  |none=>
   have e:ZL b.members a.name x=[zB a.name 45 x.name]:=by simp [ZL,hf]
   rw [e] at hC;refine Run.zb Z Z Z ?_;refine fR Z ?_;refine Mid.call (Zo H 45 (a.name++[46]++x.name)) Z Z Z Z ?_;refine fM Z ?_;refine apM z4.enc C [zB a.name 45 x.name] Z Z Z Z Z ?_ (h1:=by first |omega|(simp;omega)|(simp;done)) (h2:=by first |omega|(simp;omega)|(simp;done));refine fM rfl ?_;refine aL rfl rfl rfl rfl rfl ?_;refine fM rfl ?_;exact zd 3 rfl (ih (C++[zB a.name 45 x.name]) (by rw [←hC];simp)) rfl rfl rfl
  |some y=>
   have e:ZL b.members a.name x=one (zO x.zg y.zg) (zB a.name 29 x.name):=by simp [ZL,hf]
   rw [e] at hC;have hcf:=Q4 H x.zg y.zg (ha.md hn hxm) (hb.md hn (Ym hf));refine Run.z9 Z Z Z ?_;refine fR Z ?_;refine Mid.z6 Z Z Z h1 Z Z ?_;refine fM Z ?_;refine Mid.call (hcf) Z Z Z Z ?_;refine fM Z ?_;refine Run.cond Z Z (fun hc=>?_) (fun hc=>?_)
   ·rw [hc,Y5] at hC;refine fR Z ?_;refine Mid.call (Zo H 29 (a.name++[46]++x.name)) Z Z Z Z ?_;refine fM Z ?_;refine apM z4.enc C [zB a.name 29 x.name] Z Z Z Z Z ?_ (h1:=by first |omega|(simp;omega)|(simp;done)) (h2:=by first |omega|(simp;omega)|(simp;done));refine fM rfl ?_;refine aL rfl rfl rfl rfl rfl ?_;refine fM rfl ?_;exact zd 3 rfl (ih (C++[zB a.name 29 x.name]) (by rw [←hC];simp)) rfl rfl rfl
   ·rw [hc,Yl,w0u] at hC;refine fR Z ?_;refine aL Z Z Z Z Z ?_;refine fM Z ?_;exact zd 3 Z (ih C hC) Z Z Z
theorem yS (H:zG P) {n:Nat} (a b:Def) (ha:DB n a) (hb:DB n b):z5 P 45 [a.v,b.v] ⟨[],0⟩ {v:= .t (.lst ((Wu a b).map z4.enc))}:=by
 have hal:=ha.nl;have hbl:=hb.nl;have hnm:=ha.ok.nm;have e0:Wu a b=a.zi.flatMap (Zw b.zi a.name)++zm (y3 a.zi) (fun y=>zB a.name 45 y.name) b.zi:=rfl;have hlen:=Qc ha hb;generalize Wu a b=tot at e0 hlen⊢;refine z5.run H.i45 H.mixed Z Z ?_;refine fR Z ?_;refine zn a.zi (fun i (C:List z4)=>{env:=[(2,.ptr 0 0),(3,.ptr 1 0),(5,.own 2 2 (C.map z4.enc)),(6,.t (.int .i64 i))],s:=⟨[(0,(TCo a)),(1,(TCo b)),(2,.arr C.length)],3⟩}) (fun r i C=>C++(r.flatMap (Zw b.zi a.name)++zm (y3 a.zi) (fun y=>zB a.name 45 y.name) b.zi)=tot) 2 [] Z e0.symm Z Z Z ?_ ?_
 ·intro C hC;refine fR Z ?_;refine lM Z Z Z ?_;refine fM Z ?_;refine Run.z9 Z Z (by simp) ?_;refine fR Z ?_;refine zn b.zi (fun i (D:List z4)=>{env:=[(2,.ptr 0 0),(3,.ptr 1 0),(5,.own 2 2 (D.map z4.enc)),(10,.t (.int .i64 i))],s:=⟨[(0,(TCo a)),(1,(TCo b)),(2,.arr D.length)],3⟩}) (fun r i D=>D++zm (y3 a.zi) (fun y=>zB a.name 45 y.name) r=tot) 3 C Z (by simpa using hC) Z Z Z ?_ ?_
  ·intro D hD
   have hD2:D=tot:=by simpa [zm] using hD
   refine fR Z ?_;refine lM Z Z Z ?_;refine fM Z ?_;refine Run.z9 Z Z (by simp) ?_;refine fR Z ?_;refine Run.fin Z (z3.go ?_);exact .own (by rw [hD2])
  ·intro i x r D h1 hi hdr hD ih
   have hD:D++(one (y3 a.zi x) (zB a.name 45 x.name)++zm (y3 a.zi) (fun y=>zB a.name 45 y.name) r)=tot:=by rw [←hD];simp [zm]
   have hDl:D.length<=2000:=by have:=congrArg List.length hD;simp only [w03] at this;omega
   have hxn:=(hb.ok.n x (zMG h1)).nm;refine fR Z ?_;refine lM Z Z Z ?_;refine fM Z ?_;refine Run.zb Z Z (by simp;omega) ?_;refine fR Z ?_;refine Mid.z6 Z Z Z h1 Z Z ?_;refine fM Z ?_;refine Mid.call (yP H.p13.toPr a.zi (by omega) x.name) Z Z Z Z ?_;refine fM Z ?_;refine Run.cond Z Z (fun hc=>?_) (fun hc=>?_)
   ·rw [show y3 a.zi x=true from hc,Y5] at hD;refine fR Z ?_;refine pu Z ?_;refine fM Z ?_;refine Mid.z6 Z Z Z h1 Z Z ?_;refine fM Z ?_;refine pu Z ?_;refine Mid.call (Zo H 45 (a.name++[46]++x.name)) Z Z Z Z ?_;refine fM Z ?_;refine apM z4.enc D [zB a.name 45 x.name] Z Z Z Z Z ?_ (h1:=by first |omega|(simp;omega)|(simp;done)) (h2:=by first |omega|(simp;omega)|(simp;done));refine fM rfl ?_;refine aL rfl rfl rfl rfl rfl ?_;refine fM rfl ?_;exact zd 3 rfl (ih (D++[zB a.name 45 x.name]) (by rw [←hD];simp)) rfl rfl rfl
   ·rw [show y3 a.zi x=false from hc,Yl,w0u] at hD;refine fR Z ?_;refine aL Z Z Z Z Z ?_;refine fM Z ?_;exact zd 3 Z (ih D hD) Z Z Z
 ·intro i x r C h1 hi hdr hC ih
  have hC:C++(Zw b.zi a.name x++(r.flatMap (Zw b.zi a.name)++zm (y3 a.zi) (fun y=>zB a.name 45 y.name) b.zi))=tot:=by rw [←hC];simp
  have hCl:C.length<=2000:=by have:=congrArg List.length hC;simp only [w03] at this;omega
  have hxm:=zMG h1;have hxo:=ha.ok.n x hxm;have hxn:=hxo.nm;refine fR Z ?_;refine lM Z Z Z ?_;refine fM Z ?_;refine Run.zb Z Z (by simp;omega) ?_;refine fR Z ?_;refine pu Z ?_;refine fM Z ?_;refine Mid.z6 Z Z Z h1 Z Z ?_;refine fM Z ?_;refine pu Z ?_;refine fM Z ?_;refine Mid.z6 Z Z Z h1 Z Z ?_;refine fM Z ?_;refine Mid.call (yP H.p13.toPr b.zi (by omega) x.name) Z Z Z Z ?_;refine fM Z ?_
  cases hf:zw x.name b.zi with
  |none=>
   have e:Zw b.zi a.name x=[zB a.name 45 x.name]:=by simp [Zw,hf]
   rw [e] at hC;refine Run.zb Z Z Z ?_;refine fR Z ?_;refine Mid.call (Zo H 45 (a.name++[46]++x.name)) Z Z Z Z ?_;refine fM Z ?_;refine apM z4.enc C [zB a.name 45 x.name] Z Z Z Z Z ?_ (h1:=by first |omega|(simp;omega)|(simp;done)) (h2:=by first |omega|(simp;omega)|(simp;done));refine fM rfl ?_;refine aL rfl rfl rfl rfl rfl ?_;refine fM rfl ?_;exact zd 3 rfl (ih (C++[zB a.name 45 x.name]) (by rw [←hC];simp)) rfl rfl rfl
  |some y=>
   have hyo:=hb.ok.n y (wm hf);have hsr:=Wr H.p13 y.ty x.ty hyo.t hxo.t;have hal:=z3C H y x hyo hxo;refine Run.z9 Z Z Z ?_;refine fR Z ?_;refine Mid.z6 Z Z Z h1 Z Z ?_;refine fM Z ?_;refine Mid.call (hsr) Z Z Z Z ?_;refine fM Z ?_;refine Run.cond Z Z (fun hs=>?_) (fun hs=>?_)
   ·have hs':wL y.ty x.ty=false:=by simpa using hs
    have e:Zw b.zi a.name x=[zB a.name 10 x.name]:=by simp [Zw,hf,hs']
    rw [e] at hC;refine fR Z ?_;refine Mid.call (Zo H 10 (a.name++[46]++x.name)) Z Z Z Z ?_;refine fM Z ?_;refine apM z4.enc C [zB a.name 10 x.name] Z Z Z Z Z ?_ (h1:=by first |omega|(simp;omega)|(simp;done)) (h2:=by first |omega|(simp;omega)|(simp;done));refine fM rfl ?_;refine aL rfl rfl rfl rfl rfl ?_;refine fM rfl ?_;exact zd 3 rfl (ih (C++[zB a.name 10 x.name]) (by rw [←hC];simp)) rfl rfl rfl
   ·have hs':wL y.ty x.ty=true:=by simpa using hs
    have e:Zw b.zi a.name x=one (!alike y x) (zB a.name 22 x.name):=by simp [Zw,hf,hs']
    rw [e] at hC;refine fR Z ?_;refine Mid.z6 Z Z Z h1 Z Z ?_;refine fM Z ?_;refine Mid.call (hal) Z Z Z Z ?_;refine fM Z ?_;refine Run.cond Z Z (fun hc=>?_) (fun hc=>?_)
    ·rw [hc,Y5] at hC;refine fR Z ?_;refine Mid.call (Zo H 22 (a.name++[46]++x.name)) Z Z Z Z ?_;refine fM Z ?_;refine apM z4.enc C [zB a.name 22 x.name] Z Z Z Z Z ?_ (h1:=by first |omega|(simp;omega)|(simp;done)) (h2:=by first |omega|(simp;omega)|(simp;done));refine fM rfl ?_;refine aL rfl rfl rfl rfl rfl ?_;refine fM rfl ?_;exact zd 3 rfl (ih (C++[zB a.name 22 x.name]) (by rw [←hC];simp)) rfl rfl rfl
    ·rw [hc,Yl,w0u] at hC;refine fR Z ?_;refine aL Z Z Z Z Z ?_;refine fM Z ?_;exact zd 3 Z (ih C hC) Z Z Z
theorem wV (H:zG P) {n:Nat} (hn:n<=1000000) (a b:Def) (ha:DB n a) (hb:DB n b):z5 P 43 [a.v,b.v] ⟨[],0⟩ {v:= .t (.lst ((wi a b).map z4.enc))}:=by
 have hal:=ha.fl;have hbl:=hb.fl;have hnm:=ha.ok.nm;have e0:wi a b=a.fields.flatMap (Z1 b.fields a.name)++(zm (zW b.fields) (fun y=>zB a.name 45 y.name) (kF a.kind a.fields)++zm (zW a.fields) (fun y=>zB a.name 45 y.name) (kF a.kind b.fields)):=rfl;have hlen:=Qj ha hb;generalize wi a b=tot at e0 hlen⊢;generalize hu:kF a.kind a.fields=u at e0;generalize hv:kF a.kind b.fields=v at e0
 have hku:(a.kind=2/\u=a.fields)∨(a.kind≠2/\u=[]):=by
  unfold kF at hu;by_cases h:a.kind=2
  ·exact .inl ⟨h,by rw [←hu,w0e h]⟩
  ·exact .inr ⟨h,by rw [←hu,w0g h]⟩
 have hkv:(a.kind=2/\v=b.fields)∨(a.kind≠2/\v=[]):=by
  unfold kF at hv;by_cases h:a.kind=2
  ·exact .inl ⟨h,by rw [←hv,w0e h]⟩
  ·exact .inr ⟨h,by rw [←hv,w0g h]⟩
 refine z5.run H.i43 H.mixed Z Z ?_;refine fR Z ?_;refine zn a.fields (fun i (C:List z4)=>{env:=[(2,.ptr 0 0),(3,.ptr 1 0),(5,.own 2 2 (C.map z4.enc)),(6,.t (.int .i64 i))],s:=⟨[(0,(TCo a)),(1,(TCo b)),(2,.arr C.length)],3⟩}) (fun r i C=>C++(r.flatMap (Z1 b.fields a.name)++(zm (zW b.fields) (fun y=>zB a.name 45 y.name) u++zm (zW a.fields) (fun y=>zB a.name 45 y.name) v))=tot) 2 [] Z e0.symm Z Z Z ?_ ?_
 ·intro C hC;refine fR Z ?_;refine lM Z Z Z ?_;refine fM Z ?_;refine Run.z9 Z Z (by simp) ?_;refine fR Z ?_;refine zn u (fun i (D:List z4)=>{env:=[(2,.ptr 0 0),(3,.ptr 1 0),(5,.own 2 2 (D.map z4.enc)),(9,.t (.int .i64 i))],s:=⟨[(0,(TCo a)),(1,(TCo b)),(2,.arr D.length)],3⟩}) (fun r i D=>D++(zm (zW b.fields) (fun y=>zB a.name 45 y.name) r++zm (zW a.fields) (fun y=>zB a.name 45 y.name) v)=tot) 3 C Z (by simpa using hC) Z Z Z ?_ ?_
  ·intro D hD;refine fR Z ?_;refine lM Z Z Z ?_;refine fM Z ?_
   refine Run.z9 Z Z (by rcases hku with ⟨h1,h2⟩|⟨h1,h2⟩<;>simp [h1,h2]) ?_
   refine fR Z ?_;refine zn v (fun i (E:List z4)=>{env:=[(2,.ptr 0 0),(3,.ptr 1 0),(5,.own 2 2 (E.map z4.enc)),(12,.t (.int .i64 i))],s:=⟨[(0,(TCo a)),(1,(TCo b)),(2,.arr E.length)],3⟩}) (fun r i E=>E++zm (zW a.fields) (fun y=>zB a.name 45 y.name) r=tot) 3 D Z (by simpa [zm] using hD) Z Z Z ?_ ?_
   ·intro E hE
    have hE2:E=tot:=by simpa [zm] using hE
    refine fR Z ?_;refine lM Z Z Z ?_;refine fM Z ?_
    refine Run.z9 Z Z (by rcases hkv with ⟨h1,h2⟩|⟨h1,h2⟩<;>simp [h1,h2]) ?_
    refine fR Z ?_;refine Run.fin Z (z3.go ?_);exact .own (by rw [hE2])
   ·intro i x r E h1 hi hdr hE ih
    rcases hkv with ⟨k1,rfl⟩|⟨_,rfl⟩
    rotate_left
    ·simp at hi
    have hE:E++(one (zW a.fields x) (zB a.name 45 x.name)++zm (zW a.fields) (fun y=>zB a.name 45 y.name) r)=tot:=by rw [←hE];simp [zm]
    have hEl:E.length<=2004*n:=by have:=congrArg List.length hE;simp only [w03] at this;omega
    have hxn:=(hb.ok.f x (zMG h1)).nm;refine fR Z ?_;refine lM Z Z Z ?_;refine fM Z ?_;refine Run.zb Z Z (by simp [k1];omega) ?_;refine fR Z ?_;refine Mid.z6 Z Z Z h1 Z Z ?_;refine fM Z ?_;refine Mid.call (yL H.p13.toPr a (by omega) x.name) Z Z Z Z ?_;refine fM Z ?_;refine Run.cond Z Z (fun hc=>?_) (fun hc=>?_)
    ·rw [show zW a.fields x=true from hc,Y5] at hE;refine fR Z ?_;refine pu Z ?_;refine fM Z ?_;refine Mid.z6 Z Z Z h1 Z Z ?_;refine fM Z ?_;refine pu Z ?_;refine Mid.call (Zo H 45 (a.name++[46]++x.name)) Z Z Z Z ?_;refine fM Z ?_;refine apM z4.enc E [zB a.name 45 x.name] Z Z Z Z Z ?_ (h1:=by first |omega|(simp;omega)|(simp;done)) (h2:=by first |omega|(simp;omega)|(simp;done));refine fM rfl ?_;refine aL rfl rfl rfl rfl rfl ?_;refine fM rfl ?_;exact zd 3 rfl (ih (E++[zB a.name 45 x.name]) (by rw [←hE];simp)) rfl rfl rfl
    ·rw [show zW a.fields x=false from hc,Yl,w0u] at hE;refine fR Z ?_;refine aL Z Z Z Z Z ?_;refine fM Z ?_;exact zd 3 Z (ih E hE) Z Z Z
  ·intro i x r D h1 hi hdr hD ih
   rcases hku with ⟨k1,rfl⟩|⟨_,rfl⟩
   rotate_left
   ·simp at hi
   have hD:D++(one (zW b.fields x) (zB a.name 45 x.name)++(zm (zW b.fields) (fun y=>zB a.name 45 y.name) r++zm (zW a.fields) (fun y=>zB a.name 45 y.name) v))=tot:=by rw [←hD];simp [zm]
   have hDl:D.length<=2004*n:=by have:=congrArg List.length hD;simp only [w03] at this;omega
   have hxn:=(ha.ok.f x (zMG h1)).nm;refine fR Z ?_;refine lM Z Z Z ?_;refine fM Z ?_;refine Run.zb Z Z (by simp [k1];omega) ?_;refine fR Z ?_;refine Mid.z6 Z Z Z h1 Z Z ?_;refine fM Z ?_;refine Mid.call (yL H.p13.toPr b (by omega) x.name) Z Z Z Z ?_;refine fM Z ?_;refine Run.cond Z Z (fun hc=>?_) (fun hc=>?_)
   ·rw [show zW b.fields x=true from hc,Y5] at hD;refine fR Z ?_;refine pu Z ?_;refine fM Z ?_;refine Mid.z6 Z Z Z h1 Z Z ?_;refine fM Z ?_;refine pu Z ?_;refine Mid.call (Zo H 45 (a.name++[46]++x.name)) Z Z Z Z ?_;refine fM Z ?_;refine apM z4.enc D [zB a.name 45 x.name] Z Z Z Z Z ?_ (h1:=by first |omega|(simp;omega)|(simp;done)) (h2:=by first |omega|(simp;omega)|(simp;done));refine fM rfl ?_;refine aL rfl rfl rfl rfl rfl ?_;refine fM rfl ?_;exact zd 3 rfl (ih (D++[zB a.name 45 x.name]) (by rw [←hD];simp)) rfl rfl rfl
   ·rw [show zW b.fields x=false from hc,Yl,w0u] at hD;refine fR Z ?_;refine aL Z Z Z Z Z ?_;refine fM Z ?_;exact zd 3 Z (ih D hD) Z Z Z
 ·intro i x r C h1 hi hdr hC ih
  have hC:C++(Z1 b.fields a.name x++(r.flatMap (Z1 b.fields a.name)++(zm (zW b.fields) (fun y=>zB a.name 45 y.name) u++zm (zW a.fields) (fun y=>zB a.name 45 y.name) v)))=tot:=by rw [←hC];simp
  have hxm:=zMG h1;have hxb:=ha.f x hxm;have hxn:=hxb.ok.nm;have hl1:=congrArg List.length hC;simp only [w03] at hl1;refine fR Z ?_;refine lM Z Z Z ?_;refine fM Z ?_;refine Run.zb Z Z (by simp;omega) ?_;refine fR Z ?_;refine Mid.z6 Z Z Z h1 Z Z ?_;refine fM Z ?_;refine Mid.call (yL H.p13.toPr b (by omega) x.name) Z Z Z Z ?_;refine fM Z ?_
  cases hf:zu x.name b.fields with
  |none=>
   have e:Z1 b.fields a.name x=[]:=by simp [Z1,hf]
   rw [e,w0u] at hC;refine Run.z9 Z Z Z ?_;refine fR Z ?_;refine aL Z Z Z Z Z ?_;refine fM Z ?_;exact zd 3 Z (ih C hC) Z Z Z
  |some y=>
   have e:Z1 b.fields a.name x=WC x y (a.name++[46]++x.name):=by simp [Z1,hf]
   rw [e] at hC hl1;have hfo:=zbt H hn x y hxb (hb.f y (wY hf)) (a.name++[46]++x.name) (by simp;omega);refine Run.zb Z Z Z ?_;refine fR Z ?_;refine Mid.z6 Z Z Z h1 Z Z ?_;refine fM Z ?_;refine pu Z ?_;refine fM Z ?_;refine Mid.z6 Z Z Z h1 Z Z ?_;refine fM Z ?_;refine pu Z ?_;refine Mid.call (hfo) Z Z Z Z ?_;skip;refine apM z4.enc C (WC x y (a.name++[46]++x.name)) Z Z Z Z Z ?_ (h1:=by first |omega|(simp;omega)|(simp;done)) (h2:=by first |omega|(simp;omega)|(simp;done));refine fM rfl ?_;refine aL rfl rfl rfl rfl rfl ?_;refine fM rfl ?_;exact zd 3 rfl (ih (C++WC x y (a.name++[46]++x.name)) (by rw [←hC];simp)) rfl rfl rfl
end Go.GB.C24
namespace Go.GB.C24
open Go.GB Go.GB.C11
variable {P:Program}
def Zq (a b:List Str):List Str:=a++b.filter fun x=>!decide (x∈a)
theorem qC (a b:List Str):(Zq a b).length<=a.length+b.length:=by
 have:=List.length_filter_le (fun x=>!decide (x∈a)) b;simp only [Zq,w03];omega
theorem zbd (H:zG P) (a b:List Str) (ha:a.length<=1000000) (hb:b.length<=1000000):z5 P 46 [.t (.lst (a.map sE)),.t (.lst (b.map sE))] ⟨[],0⟩ {v:= .t (.lst ((Zq a b).map sE))}:=by
 refine z5.run H.i46 H.mixed Z Z ?_;refine fR Z ?_;refine apN sE a Z Z Z ?_ (h1:=by first |omega|(simp;omega)|(simp;done)) (h2:=by first |omega|(simp;omega)|(simp;done));refine fM rfl ?_;refine zn b (fun i (B:List Str)=>{env:=[(0,.t (.lst (a.map sE))),(1,.t (.lst (b.map sE))),(5,.own 0 1 (B.map sE)),(6,.t (.int .i64 i))],s:=⟨[(0,.arr B.length)],1⟩}) (fun r i B=>B++(r.filter fun x=>!decide (x∈a))=Zq a b) 1 a rfl rfl rfl rfl rfl ?_ ?_
 ·intro B hB
  have hB2:B=Zq a b:=by simpa using hB
  refine fR Z ?_;refine lM Z Z Z ?_;refine fM Z ?_;refine Run.z9 Z Z (by simp) ?_;refine fR Z ?_;refine Run.fin Z (z3.go ?_);exact .own (by rw [hB2])
 ·intro i x r B h1 hi hdr hB ih
  have hBl:B.length<=2000000:=by have:=congrArg List.length hB;have:=qC a b;simp only [w03] at*;omega
  refine fR Z ?_;refine lM Z Z Z ?_;refine fM Z ?_;refine Run.zb Z Z (by simp;omega) ?_;refine fR Z ?_;refine zn a (fun j (F:Bool)=>{env:=[(0,.t (.lst (a.map sE))),(1,.t (.lst (b.map sE))),(5,.own 0 1 (B.map sE)),(6,.t (.int .i64 i)),(7,.t (.bool F)),(8,.t (.int .i64 j))],s:=⟨[(0,.arr B.length)],1⟩}) (fun q j F=>(F||decide (x∈q))=decide (x∈a)) 1 false Z (by simp) Z Z Z ?_ ?_
  ·intro F hF
   have hF':F=decide (x∈a):=by rw [←hF];simp
   refine fR Z ?_;refine lM Z Z Z ?_;refine fM Z ?_;refine Run.z9 Z Z (by simp) ?_;refine fR Z ?_;refine Run.cond Z Z (fun hc=>?_) (fun hc=>?_)
   ·have e:¬ x∈a:=by rw [hF'] at hc;simpa using hc
    refine fR Z ?_;refine Mid.z6 Z Z Z h1 Z Z ?_;refine fM Z ?_;refine apM sE B [x] Z Z Z Z Z ?_ (h1:=by first |omega|(simp;omega)|(simp;done)) (h2:=by first |omega|(simp;omega)|(simp;done));refine fM rfl ?_;refine aL rfl rfl rfl rfl rfl ?_;refine fM rfl ?_;exact zd 1 rfl (ih (B++[x]) (by rw [←hB];simp [e])) rfl rfl rfl
   ·have e:x∈a:=by rw [hF'] at hc;simpa using hc
    refine fR Z ?_;refine aL Z Z Z Z Z ?_;refine fM Z ?_;exact zd 1 Z (ih B (by rw [←hB];simp [e])) Z Z Z
  ·intro j y q F h2 hj hdq hF ih2;refine fR Z ?_;refine lM Z Z Z ?_;refine fM Z ?_;refine Run.zb Z Z (by simp;omega) ?_;refine fR Z ?_;refine elG Z Z Z Z h2 Z Z ?_;refine fM Z ?_;refine elG Z Z Z Z h1 Z Z ?_;refine fM Z ?_;refine aL Z Z Z Z Z ?_;refine fM Z ?_;exact zd 1 Z (ih2 (F||y==x) (by rw [←hF,show (y==x)=decide (x=y) from by rw [w1n,beq_iff_eq,decide_eq_true_iff];exact eq_comm];simp [Bool.or_assoc])) Z Z Z
def YP (l:List Field) (x:Field):Field:=⟨x.name,x.args,match zu x.name l with|some y=>yQ x.ty y.ty|none=>x.ty,Zn x.zg ((zu x.name l).getD Field.zero).zg⟩
def Zg (x:Field):Field:=⟨x.name,x.args,x.ty,zT x.zg⟩
def wJ (x:zh):zh:=⟨x.name,zT x.zg⟩
def QV (l:List zh) (x:zh):zh:=⟨x.name,Zn x.zg ((zK x.name l).getD zh.zero).zg⟩
def Zt (a:List Field):List Field->List Field
 |[]=>[]
 |x::r=>if zW a x=true then Zg x::Zt a r else Zt a r
theorem QI (a:List Field):∀l:List Field,(Zt a l).length<=l.length
 |[]=>by simp [Zt]
 |x::r=>by
  have:=QI a r
  simp only [Zt];split<;>simp<;>omega
theorem wX {a:List Field}:∀{l:List Field} {y:Field},y∈Zt a l->∃x,x∈l/\zW a x=true/\y=Zg x
 |[],y,h=>by simp [Zt] at h
 |x::r,y,h=>by
  simp only [Zt] at h;split at h
  ·rename_i e
   rcases w0t.1 h with h|h
   ·exact ⟨x,by simp,e,h⟩
   ·obtain ⟨z,h1,h2⟩:=wX h
    exact ⟨z,by simp [h1],h2⟩
  ·obtain ⟨z,h1,h2⟩:=wX h
   exact ⟨z,by simp [h1],h2⟩
def yJ (a b:Def):Def:=⟨a.kind,a.name,Zq a.implements b.implements,Zn a.zg b.zg,a.fields.map (YP b.fields)++Zt a.fields b.fields,a.members.map (QV b.members),a.zi⟩
def zL (a b:Def):List z4:=if a.kind=b.kind then one (zO a.zg b.zg) ⟨29,a.name⟩++(wi a b++(Yy a b++Wu a b)) else [⟨9,a.name⟩]
def Y2 (a b:Def):Def:=if zL a b=[] then yJ a b else Def.zero
def wK (d:Def):Def:=⟨d.kind,d.name,d.implements,zT d.zg,d.fields.map Zg,d.members.map wJ,d.zi⟩
theorem z2O {n k:Nat} {a b:List Dir} (ha:a.length<=n) (hb:b.length<=k):(Zn a b).length<=n+k:=by
 have:=zaq (a:=a) (b:=b);omega
theorem ze9 {n k:Nat} (hnk:n+k<=1000000) {l:List Field} (hl:∀y,y∈l->FB k y) {x:Field} (hx:FB n x):FB (n+k) (YP l x):=by
 have hy:=z7J hl x.name;have hlen:(YP l x).zg.length<=n+k:=z2O hx.dl hy.dl;refine ⟨⟨hx.ok.al,hx.ok.a,?_,w0o hlen (by omega),z5b hx.ok.d hy.ok.d,hx.ok.nm⟩,hx.al,hlen⟩;show Ref.Ok (YP l x).ty;unfold YP
 cases zu x.name l with
 |none=>exact hx.ok.t
 |some y=>exact zaU hx.ok.t
theorem zc7 {n:Nat} {x:Field} (hx:FB n x):FB n (Zg x):=by
 have hlen:(zT x.zg).length<=x.zg.length:=wS;refine ⟨⟨hx.ok.al,hx.ok.a,hx.ok.t,w0o hlen hx.ok.l,fun y hy=>hx.ok.d y (by simpa using ya x.zg [] hy),hx.ok.nm⟩,hx.al,w0o hlen hx.dl⟩
theorem zdn {x:zh} (hx:x.Ok):(wJ x).Ok:=⟨w0o wS hx.l,fun y hy=>hx.d y (by simpa using ya x.zg [] hy),hx.nm⟩
theorem z79 {a b:List Str} {x:Str} (h:x∈Zq a b):x∈a∨x∈b:=by
 rcases w14.1 h with h|h
 ·exact .inl h
 ·exact .inr (List.mem_filter.1 h).1
theorem z6e {k:Nat} {l:List zh} (h:∀y,y∈l->y.zg.length<=k) (s:Str):((zK s l).getD zh.zero).zg.length<=k:=by
 cases e:zK s l with
 |none=>simp [zh.zero]
 |some x=>exact h x (Ym e)
theorem QJ {n k:Nat} (hnk:n+k<=1000000) {a b:Def} (ha:DB n a) (hb:DB k b):DB (n+k) (yJ a b):=by
 have h1:=qC a.implements b.implements;have h2:=z2O ha.dl hb.dl;have h3:=QI a.fields b.fields;have hil:=ha.il;have hil2:=hb.il;have hfl:=ha.fl;have hfl2:=hb.fl;have hml:=ha.ml;have hnl:=ha.nl
 have hf:∀y,y∈a.fields.map (YP b.fields)++Zt a.fields b.fields->FB (n+k) y:=fun y hy=>by
  rcases w14.1 hy with hy|hy
  ·obtain ⟨x,hx,rfl⟩:=w0m.1 hy;exact ze9 hnk hb.f (ha.f x hx)
  ·obtain ⟨x,hx,_,rfl⟩:=wX hy;exact (zc7 (hb.f x hx)).mono (Nat.le_add_left ..)
 have hm:∀y,y∈a.members.map (QV b.members)->y.zg.length<=n+k/\y.Ok:=fun y hy=>by
  obtain ⟨x,hx,rfl⟩:=w0m.1 hy;have hl:(QV b.members x).zg.length<=n+k:=z2O (ha.m x hx) (z6e hb.m x.name)
  exact ⟨hl,⟨by omega,z5b (ha.ok.m x hx).d (z8m hb.ok.m x.name).d,(ha.ok.m x hx).nm⟩⟩
 refine ⟨⟨?_,?_,z5b ha.ok.d hb.ok.d,?_,fun y hy=>(hf y hy).ok,?_,fun y hy=>(hm y hy).2,ha.ok.nl,ha.ok.n,ha.ok.nm,fun y hy=>?_⟩,?_,h2,?_,hf,?_,fun y hy=>(hm y hy).1,hnl⟩
 ·show (Zq a.implements b.implements).length<=_;omega
 ·show (Zn a.zg b.zg).length<=_;omega
 ·show (a.fields.map (YP b.fields)++Zt a.fields b.fields).length<=_;simp only [w03,w0r];omega
 ·show (a.members.map (QV b.members)).length<=_;simp only [w0r];omega
 ·rcases z79 hy with h|h
  ·exact ha.ok.im y h
  ·exact hb.ok.im y h
 ·show (Zq a.implements b.implements).length<=_;omega
 ·show (a.fields.map (YP b.fields)++Zt a.fields b.fields).length<=_;simp only [w03,w0r];omega
 ·show (a.members.map (QV b.members)).length<=_;simp only [w0r];omega
theorem z5p {n:Nat} {a:Def} (ha:DB n a):DB n (wK a):=by
 have h2:(zT a.zg).length<=a.zg.length:=wS
 have hf:∀y,y∈a.fields.map Zg->FB n y:=fun y hy=>by
  obtain ⟨x,hx,rfl⟩:=w0m.1 hy;exact zc7 (ha.f x hx)
 have hm:∀y,y∈a.members.map wJ->y.zg.length<=n/\y.Ok:=fun y hy=>by
  obtain ⟨x,hx,rfl⟩:=w0m.1 hy;exact ⟨w0o wS (ha.m x hx),zdn (ha.ok.m x hx)⟩
 refine ⟨⟨ha.ok.il,w0o h2 ha.ok.dl,fun y hy=>ha.ok.d y (by simpa using ya a.zg [] hy),?_,fun y hy=>(hf y hy).ok,?_,fun y hy=>(hm y hy).2,ha.ok.nl,ha.ok.n,ha.ok.nm,ha.ok.im⟩,ha.il,w0o h2 ha.dl,?_,hf,?_,fun y hy=>(hm y hy).1,ha.nl⟩
 ·show (a.fields.map Zg).length<=_;rw [w0r];exact ha.ok.fl
 ·show (a.members.map wJ).length<=_;rw [w0r];exact ha.ok.ml
 ·show (a.fields.map Zg).length<=_;rw [w0r];exact ha.fl
 ·show (a.members.map wJ).length<=_;rw [w0r];exact ha.ml
theorem zdj (H:zG P) {n:Nat} (hn:n<=1000000) (a:Def) (ha:DB n a):z5 P 104 [a.v] ⟨[],0⟩ {v:=(wK a).v}:=by
 have hfl:=ha.fl;have hml:=ha.ml;have g0:=qi H a.zg (ha.d hn).d (by have:=(ha.d hn).n;omega);refine z5.run H.i104 H.mixed Z Z ?_;refine fR Z ?_;refine Mid.call (g0) Z Z Z Z ?_;refine fM Z ?_;refine zn a.fields (fun i (B:List Field)=>{env:=[(1,.ptr 0 0),(2,.ptr 1 0),(3,.ptr 2 0),(4,.t (.int .i64 i))],s:=⟨[(0,(TCo a)),(1,.cells [.t (.int .i64 0),.t (.str []),.zp,.zp,.zp,.zp,.zp]),(2,.cells [.t (.int .i64 a.kind),.t (.str a.name),.t (.lst (a.implements.map sE)),.t (.lst ((zT a.zg).map Dir.enc)),.own 3 5 (B.map Field.enc),.zp,.t (.lst (a.zi.map Input.enc))]),(3,.arr B.length)],4⟩}) (fun r i B=>B++r.map Zg=a.fields.map Zg) 3 [] Z Z Z Z Z ?_ ?_
 ·intro B hB
  have hB2:a.fields.map Zg=B:=by simpa using hB.symm
  have hBl:B.length=a.fields.length:=by rw [←hB2];simp
  refine fR Z ?_;refine lM Z Z Z ?_;refine fM Z ?_;refine Run.z9 Z Z (by simp) ?_;refine fR Z ?_;refine zn a.members (fun i (C:List zh)=>{env:=[(1,.ptr 0 0),(2,.ptr 1 0),(3,.ptr 2 0),(6,.t (.int .i64 i))],s:=⟨[(0,(TCo a)),(1,.cells [.t (.int .i64 0),.t (.str []),.zp,.zp,.zp,.zp,.zp]),(2,.cells [.t (.int .i64 a.kind),.t (.str a.name),.t (.lst (a.implements.map sE)),.t (.lst ((zT a.zg).map Dir.enc)),.t (.lst (B.map Field.enc)),.own 4 2 (C.map zh.enc),.t (.lst (a.zi.map Input.enc))]),(4,.arr C.length)],5⟩}) (fun r i C=>C++r.map wJ=a.members.map wJ) 4 [] Z Z Z Z Z ?_ ?_
  ·intro C hC
   have hC2:a.members.map wJ=C:=by simpa using hC.symm
   refine fR Z ?_;refine lM Z Z Z ?_;refine fM Z ?_;refine Run.z9 Z Z (by simp) ?_;refine fR Z ?_
   have e:wK a=⟨a.kind,a.name,a.implements,zT a.zg,B,C,a.zi⟩:=by rw [←hB2,←hC2];rfl
   rw [e];refine Run.fin Z (z3.go ?_);exact .agg (.cons (.t Z) (.cons (.t Z) (.cons (.t Z) (.cons (.t Z) (.cons (.t Z) (.cons (.own Z) (.cons (.t Z) .nil)))))))
  ·intro i x r C h1 hi hdr hC ih;have hxm:=zMG h1;have hC:C++(wJ x::r.map wJ)=a.members.map wJ:=hC
   have hCl:C.length<=a.members.length:=by have:=congrArg List.length hC;simp only [w03,w0r] at this;omega
   have g1:=qi H x.zg (ha.md hn hxm).d (by have:=(ha.md hn hxm).n;omega);refine fR Z ?_;refine lM Z Z Z ?_;refine fM Z ?_;refine Run.zb Z Z (by simp;omega) ?_;refine fR Z ?_;refine Mid.z6 Z Z Z h1 Z Z ?_;refine fM Z ?_;refine Mid.z6 Z Z Z h1 Z Z ?_;refine fM Z ?_;refine Mid.call (g1) Z Z Z Z ?_;refine fM Z ?_;refine apM zh.enc C [wJ x] Z Z Z Z Z ?_ (h1:=by first |omega|(simp;omega)|(simp;done)) (h2:=by first |omega|(simp;omega)|(simp;done));refine fM rfl ?_;refine aL rfl rfl rfl rfl rfl ?_;refine fM rfl ?_;exact zd 5 rfl (ih (C++[wJ x]) (by rw [←hC];simp)) rfl rfl rfl
 ·intro i x r B h1 hi hdr hB ih;have hxm:=zMG h1;have hB:B++(Zg x::r.map Zg)=a.fields.map Zg:=hB
  have hBl:B.length<=a.fields.length:=by have:=congrArg List.length hB;simp only [w03,w0r] at this;omega
  have hxd:=(ha.f x hxm).d hn;have g1:=qi H x.zg hxd.d (by have:=hxd.n;omega);refine fR Z ?_;refine lM Z Z Z ?_;refine fM Z ?_;refine Run.zb Z Z (by simp;omega) ?_;refine fR Z ?_;refine Mid.z6 Z Z Z h1 Z Z ?_;refine fM Z ?_;refine Mid.call (g1) Z Z Z Z ?_;refine fM Z ?_;refine apM Field.enc B [Zg x] Z Z Z Z Z ?_ (h1:=by first |omega|(simp;omega)|(simp;done)) (h2:=by first |omega|(simp;omega)|(simp;done));refine fM rfl ?_;refine aL rfl rfl rfl rfl rfl ?_;refine fM rfl ?_;exact zd 4 rfl (ih (B++[Zg x]) (by rw [←hB];simp)) rfl rfl rfl
end Go.GB.C24
namespace Go.GB.C24
open Go.GB Go.GB.C11
variable {P:Program}
theorem w9 {n:Nat} {a b:Def} (ha:DB n a) (hb:DB n b):(zL a b).length<=2004*n+4001:=by
 have h1:=Wv (zO a.zg b.zg) ⟨29,a.name⟩;have h2:=Qj ha hb;have h3:=qF ha hb;have h4:=Qc ha hb;unfold zL;split
 ·simp only [w03];omega
 ·simp
theorem zaL {n:Nat} (hn:n<=500000) {a b:Def} (ha:DB n a) (hb:DB n b):DB (n+n) (Y2 a b):=by
 unfold Y2;split
 ·exact QJ (by omega) ha hb
 ·exact ⟨Def.Yp,by simp [Def.zero],by simp [Def.zero],by simp [Def.zero],by simp [Def.zero],by simp [Def.zero],by simp [Def.zero],by simp [Def.zero]⟩
theorem z8P (H:zG P) {n:Nat} (hn:n<=500000) (a b:Def) (ha:DB n a) (hb:DB n b):z5 P 17 [a.v,b.v] ⟨[],0⟩ {v:= .tup [(Y2 a b).v,.t (.lst ((zL a b).map z4.enc))]}:=by
 have hn1:n<=1000000:=by omega
 have hfl:=ha.fl;have hfl2:=hb.fl;have hml:=ha.ml;have hml2:=hb.ml;have hnl:=ha.nl;have hil:=ha.il;have hil2:=hb.il;by_cases hk:a.kind=b.kind
 rotate_left
 ·have e1:zL a b=[⟨9,a.name⟩]:=by unfold zL;rw [w0g hk]
  have e2:Y2 a b=Def.zero:=by unfold Y2;rw [e1];rfl
  rw [e1,e2];refine z5.run H.i17 H.mixed Z Z ?_;refine fR Z ?_;refine Run.zb Z Z (by simp [hk]) ?_;refine fR Z ?_;refine Mid.call (Zo H 9 a.name) Z Z Z Z ?_;refine fM Z ?_;refine Run.fin Z (z3.go ?_);exact .ZG (.agg (.cons (.t Z) (.cons (.t Z) (.cons (.nil Z) (.cons (.nil Z) (.cons (.nil Z) (.cons (.nil Z) (.cons (.nil Z) .nil)))))))) (.own Z)
 have e0:zL a b=one (zO a.zg b.zg) ⟨29,a.name⟩++(wi a b++(Yy a b++Wu a b)):=by unfold zL;rw [w0e hk]
 have hlen:=w9 ha hb;have hcf:=Q4 H a.zg b.zg (ha.d hn1) (hb.d hn1);have hFl:=Qj ha hb;have hMl:=qF ha hb;have hIl:=Qc ha hb;have g1:=wV H hn1 a b ha hb;have g2:=wa H hn1 a b ha hb;have g3:=yS H a b ha hb;have g4:=zbd H a.implements b.implements (by omega) (by omega);have g5:=z1r H a.zg b.zg (ha.d hn1) (hb.d hn1);have hO:Y2 a b=if zL a b=[] then yJ a b else Def.zero:=rfl;generalize zL a b=tot at e0 hlen hO⊢;generalize wi a b=F at e0 hFl g1;generalize Yy a b=M at e0 hMl g2;generalize Wu a b=I at e0 hIl g3;refine z5.run H.i17 H.mixed Z Z ?_;refine fR Z ?_;refine Run.z9 Z Z (by simp [hk]) ?_;refine fR Z ?_;refine Mid.call (hcf) Z Z Z Z ?_;refine fM Z ?_;refine ZD 3 Z (st':={env:=[(2,.ptr 0 0),(3,.ptr 1 0),(4,.ptr 2 0),(6,.own 3 2 (([]:List z4).map z4.enc)),(33,.t (.bool (zO a.zg b.zg)))],s:=⟨[(0,(TCo a)),(1,(TCo b)),(2,.cells [.t (.int .i64 0),.t (.str []),.zp,.zp,.zp,.zp,.zp]),(3,.arr 0)],4⟩}) ?_ Z Z Z;refine Run.z6Z (fun B:List z4=>{env:=[(2,.ptr 0 0),(3,.ptr 1 0),(4,.ptr 2 0),(6,.own 3 2 (B.map z4.enc))],s:=⟨[(0,(TCo a)),(1,(TCo b)),(2,.cells [.t (.int .i64 0),.t (.str []),.zp,.zp,.zp,.zp,.zp]),(3,.arr B.length)],4⟩}) (fun B=>B++(F++(M++I))=tot) Z Z Z ?_ ?_ ?_
 ·intro B hB
  have hBl:B.length+(F.length+(M.length+I.length))<=2004*n+4001:=by have:=congrArg List.length hB;simp only [w03] at this;omega
  have hB2:B++F++M++I=tot:=by rw [←hB];simp
  refine fR Z ?_;refine Mid.call (g1) Z Z Z Z ?_;skip;refine apM z4.enc B F Z Z Z Z Z ?_ (h1:=by first |omega|(simp;omega)|(simp;done)) (h2:=by first |omega|(simp;omega)|(simp;done));refine fM rfl ?_;refine Mid.call (g2) rfl rfl rfl rfl ?_;skip;refine apM z4.enc (B++F) M rfl rfl rfl rfl rfl ?_ (h1:=by first |omega|(simp;omega)|(simp;done)) (h2:=by first |omega|(simp;omega)|(simp;done));refine fM rfl ?_;refine Mid.call (g3) rfl rfl rfl rfl ?_;skip;refine apM z4.enc (B++F++M) I rfl rfl rfl rfl rfl ?_ (h1:=by first |omega|(simp;omega)|(simp;done)) (h2:=by first |omega|(simp;omega)|(simp;done));refine fM rfl ?_;refine lM rfl rfl rfl ?_;refine fM rfl ?_;rw [hB2];skip;refine Run.cond rfl rfl (fun hc=>?_) (fun hc=>?_)
  ·have ht:tot≠[]:=by rintro rfl;simp at hc
   rw [w0g ht] at hO;rw [hO];refine fR Z ?_;refine Run.fin Z (z3.go ?_);exact .ZG (.agg (.cons (.t Z) (.cons (.t Z) (.cons (.nil Z) (.cons (.nil Z) (.cons (.nil Z) (.cons (.nil Z) (.cons (.nil Z) .nil)))))))) (.own Z)
  ·have ht:tot=[]:=by
    cases tot with
    |nil=>rfl
    |cons x r=>simp at hc
   rw [w0e ht] at hO;rw [hO,ht];refine fR Z ?_;refine Mid.call (g4) Z Z Z Z ?_;refine fM Z ?_;refine Mid.call (g5) Z Z Z Z ?_;refine fM Z ?_;refine zn a.fields (fun i (B:List Field)=>{env:=[(2,.ptr 0 0),(3,.ptr 1 0),(4,.ptr 2 0),(7,.ptr 4 0),(8,.t (.int .i64 i))],s:=⟨[(0,(TCo a)),(1,(TCo b)),(2,.cells [.t (.int .i64 0),.t (.str []),.zp,.zp,.zp,.zp,.zp]),(4,.cells [.t (.int .i64 a.kind),.t (.str a.name),.t (.lst ((Zq a.implements b.implements).map sE)),.t (.lst ((Zn a.zg b.zg).map Dir.enc)),.own 5 5 (B.map Field.enc),.zp,.zp]),(5,.arr B.length)],6⟩}) (fun r i B=>B++r.map (YP b.fields)=a.fields.map (YP b.fields)) 5 [] Z Z Z Z Z ?_ ?_
   ·intro U hU
    have hU2:U=a.fields.map (YP b.fields):=by simpa using hU
    have hUl:U.length=a.fields.length:=by rw [hU2];simp
    have hAl:=QI a.fields b.fields;refine fR Z ?_;refine lM Z Z Z ?_;refine fM Z ?_;refine Run.z9 Z Z (by simp) ?_;refine fR Z ?_;refine zn b.fields (fun i (B:List Field)=>{env:=[(2,.ptr 0 0),(3,.ptr 1 0),(4,.ptr 2 0),(7,.ptr 4 0),(12,.t (.int .i64 i))],s:=⟨[(0,(TCo a)),(1,(TCo b)),(2,.cells [.t (.int .i64 0),.t (.str []),.zp,.zp,.zp,.zp,.zp]),(4,.cells [.t (.int .i64 a.kind),.t (.str a.name),.t (.lst ((Zq a.implements b.implements).map sE)),.t (.lst ((Zn a.zg b.zg).map Dir.enc)),.own 5 5 (B.map Field.enc),.zp,.zp]),(5,.arr B.length)],6⟩}) (fun r i B=>B++Zt a.fields r=U++Zt a.fields b.fields) 6 U Z Z Z Z Z ?_ ?_
    ·intro V hV
     have hV2:V=U++Zt a.fields b.fields:=by simpa [Zt] using hV
     refine fR Z ?_;refine lM Z Z Z ?_;refine fM Z ?_;refine Run.z9 Z Z (by simp) ?_;refine fR Z ?_;refine zn a.members (fun i (B:List zh)=>{env:=[(2,.ptr 0 0),(3,.ptr 1 0),(4,.ptr 2 0),(7,.ptr 4 0),(16,.t (.int .i64 i))],s:=⟨[(0,(TCo a)),(1,(TCo b)),(2,.cells [.t (.int .i64 0),.t (.str []),.zp,.zp,.zp,.zp,.zp]),(4,.cells [.t (.int .i64 a.kind),.t (.str a.name),.t (.lst ((Zq a.implements b.implements).map sE)),.t (.lst ((Zn a.zg b.zg).map Dir.enc)),.t (.lst (V.map Field.enc)),.own 5 2 (B.map zh.enc),.zp]),(5,.arr B.length)],6⟩}) (fun r i B=>B++r.map (QV b.members)=a.members.map (QV b.members)) 5 [] Z Z Z Z Z ?_ ?_
     ·intro W hW
      have hW2:W=a.members.map (QV b.members):=by simpa using hW
      refine fR Z ?_;refine lM Z Z Z ?_;refine fM Z ?_;refine Run.z9 Z Z (by simp) ?_;refine fR Z ?_;refine apN Input.enc a.zi Z Z Z ?_ (h1:=by first |omega|(simp;omega)|(simp;done)) (h2:=by first |omega|(simp;omega)|(simp;done));refine fM rfl ?_
      have e:yJ a b=⟨a.kind,a.name,Zq a.implements b.implements,Zn a.zg b.zg,V,W,a.zi⟩:=by rw [hV2,hW2,hU2];rfl
      rw [e];refine Run.fin Z (z3.go ?_);exact .ZG (.agg (.cons (.t Z) (.cons (.t Z) (.cons (.t Z) (.cons (.t Z) (.cons (.t Z) (.cons (.own Z) (.cons (.own Z) .nil)))))))) (.nil Z)
     ·intro i x r W h1 hi hdr hW ih;have hxm:=zMG h1;have hW:W++(QV b.members x::r.map (QV b.members))=a.members.map (QV b.members):=hW
      have hWl:W.length<=a.members.length:=by have:=congrArg List.length hW;simp only [w03,w0r] at this;omega
      have g6:=z1r H x.zg ((zK x.name b.members).getD zh.zero).zg (ha.md hn1 hxm) ⟨w0o (z6e hb.m x.name) hn1,(z8m hb.ok.m x.name).d⟩;refine fR Z ?_;refine lM Z Z Z ?_;refine fM Z ?_;refine Run.zb Z Z (by simp;omega) ?_;refine fR Z ?_;refine Mid.z6 Z Z Z h1 Z Z ?_;refine fM Z ?_;refine Mid.call (z05 H b.members (by omega) x.name) Z Z Z Z ?_;refine fM Z ?_;refine Mid.z6 Z Z Z h1 Z Z ?_;refine fM Z ?_;refine Mid.z6 Z Z Z h1 Z Z ?_;refine fM Z ?_;refine Mid.call (g6) Z Z Z Z ?_;refine fM Z ?_;refine apM zh.enc W [QV b.members x] Z Z Z Z Z ?_ (h1:=by first |omega|(simp;omega)|(simp;done)) (h2:=by first |omega|(simp;omega)|(simp;done));refine fM rfl ?_;refine aL rfl rfl rfl rfl rfl ?_;refine fM rfl ?_;exact zd 6 rfl (ih (W++[QV b.members x]) (by rw [←hW];simp)) rfl rfl rfl
    ·intro i x r V h1 hi hdr hV ih;have hxm:=zMG h1;have hxb:=hb.f x hxm;have g6:=qi H x.zg (hxb.d hn1).d (by have:=(hxb.d hn1).n;omega)
     have hVl:V.length<=1000000:=by have:=congrArg List.length hV;simp only [w03] at this;omega
     refine fR Z ?_;refine lM Z Z Z ?_;refine fM Z ?_;refine Run.zb Z Z (by simp;omega) ?_;refine fR Z ?_;refine Mid.z6 Z Z Z h1 Z Z ?_;refine fM Z ?_;refine Mid.call (yL H.p13.toPr a (by omega) x.name) Z Z Z Z ?_;refine fM Z ?_;refine Mid.call (g6) Z Z Z Z ?_;refine fM Z ?_;refine Run.cond Z Z (fun hc=>?_) (fun hc=>?_)
     ·have e:Zt a.fields (x::r)=Zg x::Zt a.fields r:=by simp only [Zt];rw [w0e (show zW a.fields x=true from hc)]
      rw [e] at hV;refine fR Z ?_;refine apM Field.enc V [Zg x] Z Z Z Z Z ?_ (h1:=by first |omega|(simp;omega)|(simp;done)) (h2:=by first |omega|(simp;omega)|(simp;done));refine fM rfl ?_;refine aL rfl rfl rfl rfl rfl ?_;refine fM rfl ?_;exact zd 6 rfl (ih (V++[Zg x]) (by rw [←hV];simp)) rfl rfl rfl
     ·have e:Zt a.fields (x::r)=Zt a.fields r:=by simp only [Zt];rw [w0g (show ¬ zW a.fields x=true by rw [show zW a.fields x=false from hc];simp)]
      rw [e] at hV;refine fR Z ?_;refine aL Z Z Z Z Z ?_;refine fM Z ?_;exact zd 6 Z (ih V hV) Z Z Z
   ·intro i x r U h1 hi hdr hU ih;have hxm:=zMG h1;have hxb:=ha.f x hxm;have hU:U++(YP b.fields x::r.map (YP b.fields))=a.fields.map (YP b.fields):=hU
    have hUl:U.length<=a.fields.length:=by have:=congrArg List.length hU;simp only [w03,w0r] at this;omega
    have hyb:=z7J hb.f x.name;have g6:=z1r H x.zg ((zu x.name b.fields).getD Field.zero).zg (hxb.d hn1) (hyb.d hn1);refine fR Z ?_;refine lM Z Z Z ?_;refine fM Z ?_;refine Run.zb Z Z (by simp;omega) ?_;refine fR Z ?_;refine Mid.z6 Z Z Z h1 Z Z ?_;refine fM Z ?_;refine Mid.call (yL H.p13.toPr b (by omega) x.name) Z Z Z Z ?_;refine fM Z ?_
    cases hf:zu x.name b.fields with
    |none=>
     rw [hf] at g6
     have e:YP b.fields x=⟨x.name,x.args,x.ty,Zn x.zg Field.zero.zg⟩:=by simp [YP,hf]
     rw [e] at hU;refine Mid.call (g6) Z Z Z Z ?_;refine fM Z ?_;refine Run.z9 Z Z Z ?_;refine fR Z ?_;refine apM Field.enc U [(⟨x.name,x.args,x.ty,Zn x.zg Field.zero.zg⟩:Field)] Z Z Z Z Z ?_ (h1:=by first |omega|(simp;omega)|(simp;done)) (h2:=by first |omega|(simp;omega)|(simp;done));refine fM rfl ?_;refine aL rfl rfl rfl rfl rfl ?_;refine fM rfl ?_;exact zd 6 rfl (ih (U++[⟨x.name,x.args,x.ty,Zn x.zg Field.zero.zg⟩]) (by rw [←hU];simp)) rfl rfl rfl
    |some y=>
     rw [hf] at g6
     have e:YP b.fields x=⟨x.name,x.args,yQ x.ty y.ty,Zn x.zg y.zg⟩:=by simp [YP,hf]
     rw [e] at hU;have g7:=z33 H _ x.ty y.ty hxb.ok.t (hb.f y (wY hf)).ok.t (Nat.lt_succ_self _);refine Mid.call (g6) Z Z Z Z ?_;refine fM Z ?_;refine Run.zb Z Z Z ?_;refine fR Z ?_;refine Mid.call (g7) Z Z Z Z ?_;refine fM Z ?_;refine apM Field.enc U [(⟨x.name,x.args,yQ x.ty y.ty,Zn x.zg y.zg⟩:Field)] Z Z Z Z Z ?_ (h1:=by first |omega|(simp;omega)|(simp;done)) (h2:=by first |omega|(simp;omega)|(simp;done));refine fM rfl ?_;refine aL rfl rfl rfl rfl rfl ?_;refine fM rfl ?_;exact zd 6 rfl (ih (U++[⟨x.name,x.args,yQ x.ty y.ty,Zn x.zg y.zg⟩]) (by rw [←hU];simp)) rfl rfl rfl
 ·intro hc ih;rw [hc,Y5] at e0;refine fR Z ?_;refine Mid.call (Zo H 29 a.name) Z Z Z Z ?_;refine fM Z ?_;refine apM z4.enc [] [(⟨29,a.name⟩:z4)] Z Z Z Z Z ?_ (h1:=by first |omega|(simp;omega)|(simp;done)) (h2:=by first |omega|(simp;omega)|(simp;done));refine Mid.Wn (f:=1) rfl trivial ?_;refine Mid.WM rfl ?_;exact ZD 4 rfl (ih [⟨29,a.name⟩] e0.symm) rfl rfl rfl
 ·intro hc ih;rw [hc,Yl] at e0;exact ZD 4 Z (ih [] e0.symm) Z Z Z
end Go.GB.C24
namespace Go.GB.C24
open Go.GB Go.GB.C11
variable {P:Program}
structure Gr where
 name:Str
 doc:List Def
def Gr.enc (g:Gr):List T:=[.str g.name,.lst (g.doc.map Def.enc)]
structure GL (gs:List Gr):Prop where
 n:gs.length<=8
 g:∀g,g∈gs->Z2 g.doc/\g.doc.length<=64/\∀d,d∈g.doc->DB 100 d
def z0m (o:List Str) (n:Str):List Str:=if n∈o then o else o++[n]
def ZP:List Str->List Def->List Str
 |o,[]=>o
 |o,d::r=>ZP (z0m o d.name) r
def yw:List Str->List Gr->List Str
 |o,[]=>o
 |o,g::r=>yw (ZP o g.doc) r
def yt (gs:List Gr):List Str:=yw [] gs
theorem zas (o:List Str) (n:Str):(z0m o n).length<=o.length+1:=by
 unfold z0m;split<;>simp
theorem z08:∀(l:List Def) (o:List Str),(ZP o l).length<=o.length+l.length
 |[],o=>by simp [ZP]
 |d::r,o=>by
  have h1:=zas o d.name;have h2:=z08 r (z0m o d.name);simp only [ZP,w0d];omega
theorem z0p:∀(l:List Gr) (o:List Str),(∀g,g∈l->g.doc.length<=64)->(yw o l).length<=o.length+l.length*64
 |[],o,_=>by simp [yw]
 |g::r,o,h=>by
  have h1:=z08 g.doc o;have h2:=z0p r (ZP o g.doc) fun x hx=>h x (by simp [hx]);have h3:=h g (by simp);simp only [yw,w0d];omega
theorem z0b {gs:List Gr} (h:GL gs):(yt gs).length<=512:=by
 have:=z0p gs [] fun g hg=>(h.g g hg).2.1;have:=h.n;unfold yt;simp at*;omega
theorem Q7 (H:zG P) (gs:List Gr) (hG:GL gs):z5 P 56 [.t (.lst (gs.map Gr.enc))] ⟨[],0⟩ {v:= .t (.lst ((yt gs).map sE))}:=by
 have hn:=hG.n;refine z5.run H.i56 H.mixed Z Z ?_;refine fR Z ?_
 refine zn gs (fun i (B:List Str)=>{env:=[(0,.t (.lst (gs.map Gr.enc))),(3,.own 0 1 (B.map sE)),(4,.t (.int .i64 i))],s:=⟨[(0,.arr B.length)],1⟩}) (fun r i B=>yw B r=yt gs/\B.length+r.length*64<=512) 0 [] Z ⟨rfl,by simp;omega⟩ rfl rfl rfl ?_ ?_
 ·rintro B ⟨hB,_⟩;have hB2:B=yt gs:=hB;refine fR Z ?_;refine lM Z Z Z ?_;refine fM Z ?_;refine Run.z9 Z Z (by simp) ?_;refine fR Z ?_;refine Run.fin Z (z3.go ?_);exact .own (by rw [hB2])
 ·rintro i g r B h1 hi hdr ⟨hB,hBl⟩ ih;have hgm:=hG.g g (zMG h1);have hgl:=hgm.2.1;simp only [w0d] at hBl;refine fR Z ?_;refine lM Z Z Z ?_;refine fM Z ?_;refine Run.zb Z Z (by simp;omega) ?_;refine fR Z ?_
  refine zn g.doc (fun k (C:List Str)=>{env:=[(0,.t (.lst (gs.map Gr.enc))),(3,.own 0 1 (C.map sE)),(4,.t (.int .i64 i)),(5,.t (.int .i64 k))],s:=⟨[(0,.arr C.length)],1⟩}) (fun q k C=>ZP C q=ZP B g.doc/\C.length+q.length<=B.length+g.doc.length) 1 B Z ⟨rfl,by omega⟩ rfl rfl rfl ?_ ?_
  ·rintro C ⟨hC,hCl⟩;have hC2:C=ZP B g.doc:=hC;simp only [w16] at hCl;refine fR Z ?_;refine Mid.z6 Z Z Z h1 Z Z ?_;refine fM Z ?_;refine lM Z Z Z ?_;refine fM Z ?_;refine Run.z9 Z Z (by simp) ?_;refine fR Z ?_;refine aL Z Z Z Z Z ?_;refine fM Z ?_;exact zd 1 Z (ih C ⟨by rw [hC2];exact hB,by omega⟩) rfl rfl rfl
  ·rintro k d q C h2 hk hdq ⟨hC,hCl⟩ ih2;simp only [w0d] at hCl;have hC:ZP (z0m C d.name) q=ZP B g.doc:=hC;refine fR Z ?_;refine Mid.z6 Z Z Z h1 Z Z ?_;refine fM Z ?_;refine lM Z Z Z ?_;refine fM Z ?_;refine Run.zb Z Z (by simp;omega) ?_;refine fR Z ?_;refine Mid.z6 Z Z Z h1 Z Z ?_;refine fM Z ?_;refine Mid.z6 Z Z Z h2 Z Z ?_;refine fM Z ?_;refine Mid.call (z1l H C (by omega) d.name) Z Z Z Z ?_;refine fM Z ?_;refine Run.cond Z Z (fun hc=>?_) (fun hc=>?_)
   ·have e:z0m C d.name=C++[d.name]:=by unfold z0m;rw [w0g (by simpa using hc)]
    rw [e] at hC;refine fR Z ?_;refine Mid.z6 Z Z Z h1 Z Z ?_;refine fM Z ?_;refine Mid.z6 Z Z Z h2 Z Z ?_;refine fM Z ?_;refine apM sE C [d.name] Z Z Z Z Z ?_ (h1:=by first |omega|(simp;omega)|(simp;done)) (h2:=by first |omega|(simp;omega)|(simp;done));refine fM rfl ?_;refine aL rfl rfl rfl rfl rfl ?_;refine fM rfl ?_;exact zd 1 rfl (ih2 (C++[d.name]) ⟨hC,by simp;omega⟩) rfl rfl rfl
   ·have e:z0m C d.name=C:=by unfold z0m;rw [w0e (by simpa using hc)]
    rw [e] at hC;refine fR Z ?_;refine aL Z Z Z Z Z ?_;refine fM Z ?_;exact zd 1 Z (ih2 C ⟨hC,by omega⟩) rfl rfl rfl
def Q0 (nm:Str) (g:Gr) (o:Option Def) (B:List z4):Option Def×List z4:=
 match ze nm g.doc,o with
 |none,o=>(o,B)
 |some d,none=>(some (wK d),B)
 |some d,some x=>if zL x d=[] then (some (yJ x d),B) else (some x,B++zL x d)
def Yd (nm:Str):List Gr->Option Def->List z4->Option Def×List z4
 |[],o,B=>(o,B)
 |g::r,o,B=>Yd nm r (Q0 nm g o B).1 (Q0 nm g o B).2
theorem wP {nm:Str} {g:Gr} {o:Option Def} {B:List z4} (h:ze nm g.doc=none):Q0 nm g o B=(o,B):=by simp [Q0,h]
theorem Wf {nm:Str} {g:Gr} {d:Def} {B:List z4} (h:ze nm g.doc=some d):Q0 nm g none B=(some (wK d),B):=by simp [Q0,h]
theorem qp {nm:Str} {g:Gr} {d x:Def} {B:List z4} (h:ze nm g.doc=some d) (hb:zL x d=[]):Q0 nm g (some x) B=(some (yJ x d),B):=by simp [Q0,h,hb]
theorem W6 {nm:Str} {g:Gr} {d x:Def} {B:List z4} (h:ze nm g.doc=some d) (hb:¬ zL x d=[]):Q0 nm g (some x) B=(some x,B++zL x d):=by simp [Q0,h,hb]
def tyD (gs:List Gr) (nm:Str):Def:=(Yd nm gs none []).1.getD Def.zero
def tyB (gs:List Gr) (nm:Str):List z4:=(Yd nm gs none []).2
theorem DB.mono {n k:Nat} {d:Def} (h:DB n d) (hn:n<=k):DB k d:=⟨h.ok,w0o h.il hn,w0o h.dl hn,w0o h.fl hn,fun y hy=>(h.f y hy).mono hn,h.ml,fun y hy=>w0o (h.m y hy) hn,h.nl⟩
theorem DB.zero (n:Nat):DB n Def.zero:=⟨Def.Yp,by simp [Def.zero],by simp [Def.zero],by simp [Def.zero],by simp [Def.zero],by simp [Def.zero],by simp [Def.zero],by simp [Def.zero]⟩
theorem q8 {n:Str}:∀{l:List Def} {d:Def},ze n l=some d->d∈l
 |[],d,h=>by simp [ze] at h
 |x::r,d,h=>by
  simp only [ze] at h;split at h
  ·cases h;exact w1x ..
  ·exact w0k _ (q8 h)
theorem z3q (nm:Str):∀(gs:List Gr) (i:Nat) (o:Option Def) (B:List z4),(∀g,g∈gs->∀d,d∈g.doc->DB 100 d)->i+gs.length<=8->DB (100*(i+1)) (o.getD Def.zero)->B.length<=3000000*i->
  DB 900 ((Yd nm gs o B).1.getD Def.zero)/\(Yd nm gs o B).2.length<=24000000
 |[],i,o,B,_,hi,ho,hB=>⟨ho.mono (by simp at hi;omega),by simp only [Yd];simp at hi;omega⟩
 |g::r,i,o,B,hg,hi,ho,hB=>by
  have hg2:∀x,x∈r->∀d,d∈x.doc->DB 100 d:=fun x hx=>hg x (by simp [hx]);simp only [w0d] at hi;simp only [Yd]
  cases hf:ze nm g.doc with
  |none=>
   rw [wP hf];exact z3q nm r (i+1) o B hg2 (by omega) (ho.mono (by omega)) (by omega)
  |some d=>
   have hd:=hg g (by simp) d (q8 hf)
   cases o with
   |none=>
    rw [Wf hf];exact z3q nm r (i+1) (some (wK d)) B hg2 (by omega) ((z5p hd).mono (by omega)) (by omega)
   |some x=>
    have hx:DB (100*(i+1)) x:=ho;have hl:=w9 hx (hd.mono (by omega));by_cases hb:zL x d=[]
    ·rw [qp hf hb];exact z3q nm r (i+1) (some (yJ x d)) B hg2 (by omega) ((QJ (by omega) hx hd).mono (by omega)) (by omega)
    ·rw [W6 hf hb];exact z3q nm r (i+1) (some x) (B++zL x d) hg2 (by omega) (hx.mono (by omega)) (by simp only [w03];omega)
theorem ze5 (H:zG P) (gs:List Gr) (hG:GL gs) (nm:Str):z5 P 57 [.t (.lst (gs.map Gr.enc)),.t (.str nm)] ⟨[],0⟩ {v:= .tup [(tyD gs nm).v,.t (.lst ((tyB gs nm).map z4.enc))]}:=by
 have hn:=hG.n;refine z5.run H.i57 H.mixed Z Z ?_;refine fR Z ?_;refine zn gs (fun i (q:Option Def×List z4)=>{env:=[(0,.t (.lst (gs.map Gr.enc))),(1,.t (.str nm)),(4,.ptr 0 0),(6,.ptr 1 0),(7,.own 2 2 (q.2.map z4.enc)),(8,.t (.bool q.1.isNone)),(9,.t (.int .i64 i))],s:=⟨[(0,.cells [.t (.int .i64 0),.t (.str []),.zp,.zp,.zp,.zp,.zp]),(1,(TCo (q.1.getD Def.zero))),(2,.arr q.2.length)],3⟩}) (fun r i q=>Yd nm r q.1 q.2=Yd nm gs none []/\DB (100*(i+1)) (q.1.getD Def.zero)/\q.2.length<=3000000*i) 2 (none,[]) Z ⟨rfl,DB.zero _,Nat.zero_le _⟩ Z Z Z ?_ ?_
 ·rintro ⟨o,B⟩ ⟨hB,_,_⟩;dsimp only at hB⊢
  have e1:tyD gs nm=o.getD Def.zero:=by unfold tyD;rw [←hB];rfl
  have e2:tyB gs nm=B:=by unfold tyB;rw [←hB];rfl
  rw [e1,e2];generalize o.getD Def.zero=D;refine fR Z ?_;refine lM Z Z Z ?_;refine fM Z ?_;refine Run.z9 Z Z (by simp) ?_;refine fR Z ?_;refine Run.fin Z (z3.go ?_);exact .ZG (.agg (.cons (.t Z) (.cons (.t Z) (.cons (.t Z) (.cons (.t Z) (.cons (.t Z) (.cons (.t Z) (.cons (.t Z) .nil)))))))) (.own Z)
 ·rintro i g r ⟨o,B⟩ h1 hi hdr ⟨hB,hD,hBl⟩ ih;dsimp only at hB hD hBl⊢;have hgm:=hG.g g (zMG h1);have hB:Yd nm r (Q0 nm g o B).1 (Q0 nm g o B).2=Yd nm gs none []:=hB;refine fR Z ?_;refine lM Z Z Z ?_;refine fM Z ?_;refine Run.zb Z Z (by simp;omega) ?_;refine fR Z ?_;refine Mid.z6 Z Z Z h1 Z Z ?_;refine fM Z ?_;refine Mid.call (yn H.p13.toPr g.doc hgm.1.l nm) Z Z Z Z ?_;refine fM Z ?_
  cases hf:ze nm g.doc with
  |none=>
   rw [wP hf] at hB;refine Run.zb Z Z Z ?_;refine fR Z ?_;refine aL Z Z Z Z Z ?_;refine fM Z ?_;exact zd 3 Z (ih (o,B) ⟨hB,hD.mono (by omega),by show B.length<=_;omega⟩) rfl rfl rfl
  |some d=>
   have hd:=hgm.2.2 d (q8 hf)
   cases o with
   |none=>
    rw [Wf hf] at hB;have hb:=zdj H (by omega) d hd;refine Run.z9 Z Z Z ?_;refine fR Z ?_;refine Run.zb Z Z Z ?_;refine fR Z ?_;refine Mid.call (hb) Z Z Z Z ?_;refine fM Z ?_;refine aL Z Z Z Z Z ?_;refine fM Z ?_;exact zd 3 Z (ih (some (wK d),B) ⟨hB,(z5p hd).mono (by omega),by show B.length<=_;omega⟩) rfl rfl rfl
   |some x=>
    have hx:DB (100*(i+1)) x:=hD;have hd2:DB (100*(i+1)) d:=hd.mono (by omega);have hr:=z8P H (by omega) x d hx hd2;have hl:=w9 hx hd2;by_cases hb:zL x d=[]
    ·rw [qp hf hb] at hB
     rw [show Y2 x d=yJ x d by unfold Y2;rw [w0e hb],hb] at hr
     have hm:=(QJ (by omega) hx hd).mono (show 100*(i+1)+100<=100*(i+1+1) by omega);refine Run.z9 rfl rfl rfl ?_;refine fR rfl ?_;refine Run.z9 rfl rfl rfl ?_;refine fR rfl ?_;refine Mid.call (hr) rfl rfl rfl rfl ?_;refine fM rfl ?_;refine lM rfl rfl rfl ?_;refine fM rfl ?_;refine Run.z9 rfl rfl rfl ?_;refine fR rfl ?_;refine aL rfl rfl rfl rfl rfl ?_;refine fM rfl ?_;exact zd 3 rfl (ih (some (yJ x d),B) ⟨hB,hm,by show B.length<=_;omega⟩) rfl rfl rfl
    ·rw [W6 hf hb] at hB;refine Run.z9 Z Z Z ?_;refine fR Z ?_;refine Run.z9 Z Z Z ?_;refine fR Z ?_;refine Mid.call (hr) Z Z Z Z ?_;refine fM Z ?_;refine lM Z Z Z ?_;refine fM Z ?_
     refine Run.zb Z Z (by
      cases hq:zL x d with
      |nil=>exact absurd hq hb
      |cons a b=>simp) ?_
     refine fR Z ?_;refine apM z4.enc B (zL x d) Z Z Z Z Z ?_ (h1:=by first |omega|(simp;omega)|(simp;done)) (h2:=by first |omega|(simp;omega)|(simp;done));refine fM rfl ?_;refine aL rfl rfl rfl rfl rfl ?_;refine fM rfl ?_;exact zd 3 rfl (ih (some x,B++zL x d) ⟨hB,hx.mono (by omega),by show (B++zL x d).length<=_;simp only [w03];omega⟩) rfl rfl rfl
end Go.GB.C24
