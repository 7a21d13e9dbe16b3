/-
  YtablikngmojchaaGreatP6: lemmas. No conditions.
-/
import Derived.Test.YtablikngmojchaaGreatP5
import Derived.Test.YtablikngmojchaaGreatP3
import Derived.Test.YtablikngmojchaaGreatP4
set_option linter.all false
set_option maxRecDepth 100000
set_option maxHeartbeats 16000000
namespace Go.GB.C11
open Go.GB
variable {P:Program}
def zai (ds:List Def) (p:List Input) (x:Input) (at_:Str):List z4:=
 Zn x.name false (zn x.name p).isSome at_++(if z0x ds x.ty.name=false then [⟨8,at_⟩] else if zaf ds x.ty.name=false then [⟨10,at_⟩] else [])
def inF (ds:List Def) (pre post:Str):List Input->List Input->List z4
 |_,[]=>[]
 |p,x::r=>zai ds p x (pre++x.name++post)++inF ds pre post (p++[x]) r
theorem wE (H:Pr P) (ds:List Def) (hD:zV ds) (l:List Input) (hl:l.length<=140737488355328) (hlo:∀y,y∈l->y.Ok) (pre post:Str) (hp:pre.length<=1125899906842624) (hq:post.length<=1125899906842624) (ht:(inF ds pre post [] l).length<=4398046511104):
  z6 P 65 [Y8 ds,.t (.lst (l.map Input.enc)),.t (.str pre),.t (.str post)] ⟨[],0⟩ {v:= .t (.lst ((inF ds pre post [] l).map z4.enc))}:=by
 generalize hT:inF ds pre post [] l=tot at ht;refine z6.run H.i65 H.mixed Z Z ?_;refine fR Z ?_;refine zu l (fun i (B:List z4)=>{env:=[(1,.t (.lst (l.map Input.enc))),(2,.t (.str pre)),(3,.t (.str post)),(4,.ptr 0 0),(9,.own 1 2 (B.map z4.enc)),(10,.t (.int .i64 i))],s:=⟨[(0,.cells [.t (.lst (ds.map Def.enc))]),(1,.arr B.length)],2⟩}) (fun r i B=>B++inF ds pre post (l.take i) r=tot) 1 [] Z (by simpa using hT) Z Z Z ?_ ?_
 ·rintro B hB
  obtain rfl:B=tot:=by rw [←hB];simp [inF]
  refine fR Z ?_;refine lM Z Z Z ?_;refine fM Z ?_;refine Run.ze Z Z (by simp) ?_;refine fR Z ?_;refine Run.fin Z (z3.go ?_);exact .own Z
 ·rintro i x r B h1 hi hd hB ih;have hx:=hlo x (zMG h1);have hxn:=hx.nm
  have htk:l.take i++[x]=l.take (i+1):=by rw [w1f,h1];rfl
  have htkl:(l.take i).length<=140737488355328:=by simp;omega
  simp only [inF,zai,htk] at hB;generalize hAt:pre++x.name++post=at_ at hB
  have hatl:at_.length<=4503599627370496:=by rw [←hAt];simp;omega
  have hlen:=congrArg List.length hB;simp only [w03] at hlen;refine fR Z ?_;refine lM Z Z Z ?_;refine fM Z ?_;refine Run.zf Z Z (by simp;omega) ?_;refine fR Z ?_;refine Mid.zb Z Z Z h1 Z Z ?_;refine fM Z ?_;refine pu Z ?_;refine fM Z ?_;refine pu Z ?_;refine fM Z ?_;refine lTo Z Z Z Z ?_;refine fM Z ?_;rw [hAt];refine Mid.zb Z Z Z h1 Z Z ?_;refine fM Z ?_;refine Mid.call (q5 H (l.take i) htkl x.name) Z Z Z Z ?_;refine fM Z ?_;refine Mid.zb Z Z Z h1 Z Z ?_;refine fM Z ?_;refine Mid.call (z4f H x.name hxn false (zn x.name (l.take i)).isSome at_) Z Z Z Z ?_;skip;generalize Zn x.name false (zn x.name (l.take i)).isSome at_=N at hB hlen;refine apM z4.enc B N Z Z Z Z Z ?_ (h1:=by first |omega|(simp;omega)|(simp;done)) (h2:=by first |omega|(simp;omega)|(simp;done));refine fM rfl ?_;refine Mid.zb rfl rfl rfl h1 rfl rfl ?_;refine fM rfl ?_;refine Mid.call (z8i H ds hD x.ty.name) rfl rfl rfl rfl ?_;refine fM rfl ?_;refine Run.cond rfl rfl (fun hk=>?_) (fun hk=>?_)
  ·have hk':z0x ds x.ty.name=false:=by simpa using hk
   rw [w0e hk'] at hB hlen;simp only [w0d,w16] at hlen;refine fR Z ?_;refine apM z4.enc (B++N) [(⟨8,at_⟩:z4)] Z Z Z Z Z ?_ (h1:=by first |omega|(simp;omega)|(simp;done)) (h2:=by first |omega|(simp;omega)|(simp;done));refine fM rfl ?_;refine aL rfl rfl rfl rfl rfl ?_;refine fM rfl ?_;exact zl 2 rfl (ih (B++N++[⟨8,at_⟩]) (by rw [←hB];simp)) rfl rfl rfl
  ·have hk':¬ z0x ds x.ty.name=false:=by simpa using hk
   rw [w0g hk'] at hB hlen;refine fR Z ?_;refine Mid.zb Z Z Z h1 Z Z ?_;refine fM Z ?_;refine Mid.call (z9e H ds hD x.ty.name) Z Z Z Z ?_;refine fM Z ?_;refine Run.cond Z Z (fun hy=>?_) (fun hy=>?_)
   ·have hy':zaf ds x.ty.name=false:=by simpa using hy
    rw [w0e hy'] at hB hlen;simp only [w0d,w16] at hlen;refine fR Z ?_;refine apM z4.enc (B++N) [(⟨10,at_⟩:z4)] Z Z Z Z Z ?_ (h1:=by first |omega|(simp;omega)|(simp;done)) (h2:=by first |omega|(simp;omega)|(simp;done));refine fM rfl ?_;refine aL rfl rfl rfl rfl rfl ?_;refine fM rfl ?_;exact zl 2 rfl (ih (B++N++[⟨10,at_⟩]) (by rw [←hB];simp)) rfl rfl rfl
   ·have hy':¬ zaf ds x.ty.name=false:=by simpa using hy
    rw [w0g hy'] at hB hlen;refine fR Z ?_;refine aL Z Z Z Z Z ?_;refine fM Z ?_;exact zl 2 Z (ih (B++N) (by rw [←hB];simp)) Z Z Z
def zeX (ds:List Def) (n:Str):Bool:=!Qz n&&(z7 n ds).isSome&&((z7 n ds).getD Def.zero).kind==5
def z6l (ds:List Def) (p:List Field) (x:Field) (at_:Str):List z4:=
 Zn x.name false (z5 x.name p).isSome at_++(if z0x ds x.ty.name=false then [⟨8,at_⟩] else if zeX ds x.ty.name=true then [⟨10,at_⟩] else [])++inF ds (at_++[40]) [41] [] x.args
def z0c (ds:List Def) (n:Str):List Field->List Field->List z4
 |_,[]=>[]
 |p,x::r=>z6l ds p x (n++[46]++x.name)++z0c ds n (p++[x]) r
theorem z06 (H:Pr P) (ds:List Def) (hD:zV ds) (d:Def) (hd:d.Ok) (ht:(z0c ds d.name [] d.fields).length<=4398046511104):z6 P 63 [Y8 ds,d.v] ⟨[],0⟩ {v:= .t (.lst ((z0c ds d.name [] d.fields).map z4.enc))}:=by
 have hfl:=hd.fl;have hnm:=hd.nm;generalize hT:z0c ds d.name [] d.fields=tot at ht;refine z6.run H.i63 H.mixed Z Z ?_;refine fR Z ?_;refine zu d.fields (fun i (B:List z4)=>{env:=[(2,.ptr 0 0),(3,.ptr 1 0),(5,.own 2 2 (B.map z4.enc)),(6,.t (.int .i64 i))],s:=⟨[(0,.cells [.t (.lst (ds.map Def.enc))]),(1,(TCo d)),(2,.arr B.length)],3⟩}) (fun r i B=>B++z0c ds d.name (d.fields.take i) r=tot) 2 [] Z (by simpa using hT) Z Z Z ?_ ?_
 ·rintro B hB
  obtain rfl:B=tot:=by rw [←hB];simp [z0c]
  refine fR Z ?_;refine lM Z Z Z ?_;refine fM Z ?_;refine Run.ze Z Z (by simp) ?_;refine fR Z ?_;refine Run.fin Z (z3.go ?_);exact .own Z
 ·rintro i x r B h1 hi hdr hB ih;have hx:=hd.f x (zMG h1);have hxn:=hx.nm;have hxl:=hx.al
  have htk:d.fields.take i++[x]=d.fields.take (i+1):=by rw [w1f,h1];rfl
  have htkl:(d.fields.take i).length<=140737488355328:=by simp;omega
  simp only [z0c,z6l,htk] at hB;generalize hAt:d.name++[46]++x.name=at_ at hB
  have hatl:at_.length<=1125899906842000:=by rw [←hAt];simp;omega
  have hlen:=congrArg List.length hB;simp only [w03] at hlen;refine fR Z ?_;refine lM Z Z Z ?_;refine fM Z ?_;refine Run.zf Z Z (by simp;omega) ?_;refine fR Z ?_;refine Mid.zb Z Z Z h1 Z Z ?_;refine fM Z ?_;refine pu Z ?_;refine fM Z ?_;refine pu Z ?_;refine fM Z ?_;refine lTo Z Z Z Z ?_;refine fM Z ?_;rw [hAt];refine Mid.call (WQ H ⟨0,[],[],[],d.fields.take i,[],[]⟩ htkl x.name) Z Z Z Z ?_;refine fM Z ?_;refine Mid.call (z4f H x.name hxn false (z5 x.name (d.fields.take i)).isSome at_) Z Z Z Z ?_;skip;generalize Zn x.name false (z5 x.name (d.fields.take i)).isSome at_=N at hB hlen;refine apM z4.enc B N Z Z Z Z Z ?_ (h1:=by first |omega|(simp;omega)|(simp;done)) (h2:=by first |omega|(simp;omega)|(simp;done));refine fM rfl ?_;refine Mid.call (yl H ds hD.l x.ty.name) rfl rfl rfl rfl ?_;refine fM rfl ?_;refine Mid.call (z8i H ds hD x.ty.name) rfl rfl rfl rfl ?_;refine fM rfl ?_;refine Run.cond rfl rfl (fun hk=>?_) (fun hk=>?_)
  ·have hk':z0x ds x.ty.name=false:=by simpa using hk
   rw [w0e hk'] at hB hlen;simp only [w0d,w16] at hlen;refine fR Z ?_;refine apM z4.enc (B++N) [(⟨8,at_⟩:z4)] Z Z Z Z Z ?_ (h1:=by first |omega|(simp;omega)|(simp;done)) (h2:=by first |omega|(simp;omega)|(simp;done));refine fM rfl ?_;refine pu rfl ?_;refine Mid.call (wE H ds hD x.args hxl hx.a (at_++[40]) [41] (by simp;omega) (by decide) (by omega)) rfl rfl rfl rfl ?_;skip;generalize inF ds (at_++[40]) [41] [] x.args=M at hB hlen;refine apM z4.enc (B++N++[⟨8,at_⟩]) M rfl rfl rfl rfl rfl ?_ (h1:=by first |omega|(simp;omega)|(simp;done)) (h2:=by first |omega|(simp;omega)|(simp;done));refine fM rfl ?_;refine aL rfl rfl rfl rfl rfl ?_;refine fM rfl ?_;exact zl 3 rfl (ih (B++N++[⟨8,at_⟩]++M) (by rw [←hB];simp)) rfl rfl rfl
  ·have hk':¬ z0x ds x.ty.name=false:=by simpa using hk
   rw [w0g hk'] at hB hlen;refine fR Z ?_;refine Mid.call (Ww H x.ty.name) Z Z Z Z ?_;refine fM Z ?_;refine Run.cond Z Z (fun hy=>?_) (fun hy=>?_)
   ·have hy':zeX ds x.ty.name=true:=hy;rw [w0e hy'] at hB hlen;simp only [w0d,w16] at hlen;refine fR Z ?_;refine apM z4.enc (B++N) [(⟨10,at_⟩:z4)] Z Z Z Z Z ?_ (h1:=by first |omega|(simp;omega)|(simp;done)) (h2:=by first |omega|(simp;omega)|(simp;done));refine fM rfl ?_;refine pu rfl ?_;refine Mid.call (wE H ds hD x.args hxl hx.a (at_++[40]) [41] (by simp;omega) (by decide) (by omega)) rfl rfl rfl rfl ?_;skip;generalize inF ds (at_++[40]) [41] [] x.args=M at hB hlen;refine apM z4.enc (B++N++[⟨10,at_⟩]) M rfl rfl rfl rfl rfl ?_ (h1:=by first |omega|(simp;omega)|(simp;done)) (h2:=by first |omega|(simp;omega)|(simp;done));refine fM rfl ?_;refine aL rfl rfl rfl rfl rfl ?_;refine fM rfl ?_;exact zl 3 rfl (ih (B++N++[⟨10,at_⟩]++M) (by rw [←hB];simp)) rfl rfl rfl
   ·have hy':¬ zeX ds x.ty.name=true:=by rw [show zeX ds x.ty.name=false from hy];simp
    rw [w0g hy'] at hB hlen;simp only [w16] at hlen;refine fR Z ?_;refine pu Z ?_;refine Mid.call (wE H ds hD x.args hxl hx.a (at_++[40]) [41] (by simp;omega) (by decide) (by omega)) Z Z Z Z ?_;skip;generalize inF ds (at_++[40]) [41] [] x.args=M at hB hlen;refine apM z4.enc (B++N) M Z Z Z Z Z ?_ (h1:=by first |omega|(simp;omega)|(simp;done)) (h2:=by first |omega|(simp;omega)|(simp;done));refine fM rfl ?_;refine aL rfl rfl rfl rfl rfl ?_;refine fM rfl ?_;exact zl 3 rfl (ih (B++N++M) (by rw [←hB];simp)) rfl rfl rfl
def z65 (n:Str):Bool:=n==[116,114,117,101]||n==[102,97,108,115,101]||n==[110,117,108,108]
def z1e (t:Str):List zh->List zh->List z4
 |_,[]=>[]
 |p,x::r=>Zn x.name (z65 x.name) (YE p x.name) (t++[46]++x.name)++z1e t (p++[x]) r
theorem qG (H:Pr P) (d:Def) (hd:d.Ok) (ht:(z1e d.name [] d.members).length<=4398046511104):z6 P 64 [d.v] ⟨[],0⟩ {v:= .t (.lst ((z1e d.name [] d.members).map z4.enc))}:=by
 have hfl:=hd.ml;have hnm:=hd.nm;generalize hT:z1e d.name [] d.members=tot at ht;refine z6.run H.i64 H.mixed Z Z ?_;refine fR Z ?_;refine zu d.members (fun i (B:List z4)=>{env:=[(1,.ptr 0 0),(3,.own 1 2 (B.map z4.enc)),(4,.t (.int .i64 i))],s:=⟨[(0,(TCo d)),(1,.arr B.length)],2⟩}) (fun r i B=>B++z1e d.name (d.members.take i) r=tot) 1 [] Z (by simpa using hT) Z Z Z ?_ ?_
 ·rintro B hB
  obtain rfl:B=tot:=by rw [←hB];simp [z1e]
  refine fR Z ?_;refine lM Z Z Z ?_;refine fM Z ?_;refine Run.ze Z Z (by simp) ?_;refine fR Z ?_;refine Run.fin Z (z3.go ?_);exact .own Z
 ·rintro i x r B h1 hi hdr hB ih;have hx:=hd.m x (zMG h1);have hxn:=hx.nm
  have htk:d.members.take i++[x]=d.members.take (i+1):=by rw [w1f,h1];rfl
  have htkl:(d.members.take i).length<=140737488355328:=by simp;omega
  simp only [z1e,htk] at hB;generalize hAt:d.name++[46]++x.name=at_ at hB
  have hatl:at_.length<=1125899906842000:=by rw [←hAt];simp;omega
  have hlen:=congrArg List.length hB;simp only [w03] at hlen;refine fR Z ?_;refine lM Z Z Z ?_;refine fM Z ?_;refine Run.zf Z Z (by simp;omega) ?_;refine fR Z ?_;refine Mid.zb Z Z Z h1 Z Z ?_;refine fM Z ?_;refine zu (d.members.take i) (fun j (C:Bool)=>{env:=[(1,.ptr 0 0),(3,.own 1 2 (B.map z4.enc)),(4,.t (.int .i64 i)),(5,.t (.str x.name)),(6,.t (.bool C)),(7,.t (.int .i64 j))],s:=⟨[(0,(TCo d)),(1,.arr B.length)],2⟩}) (fun r j C=>YE (d.members.take i) x.name=(C||YE r x.name)) 2 false Z (by simp) Z Z Z ?_ ?_
  ·intro C hC
   have hl:(d.members.take i).length=i:=by simp;omega
   have hC':YE (d.members.take i) x.name=C:=by rw [hC];simp [YE]
   rw [hl];rw [hC'] at hB hlen;refine fR Z ?_;refine Run.ze Z Z (by simp) ?_;refine fR Z ?_;refine pu Z ?_;refine fM Z ?_;refine pu Z ?_;rw [hAt];refine Mid.call (z4f H x.name hxn (z65 x.name) C at_) Z Z Z Z ?_;skip;generalize Zn x.name (z65 x.name) C at_=N at hB hlen;refine apM z4.enc B N Z Z Z Z Z ?_ (h1:=by first |omega|(simp;omega)|(simp;done)) (h2:=by first |omega|(simp;omega)|(simp;done));refine fM rfl ?_;refine aL rfl rfl rfl rfl rfl ?_;refine fM rfl ?_;exact zl 2 rfl (ih (B++N) (by rw [←hB];simp)) rfl rfl rfl
  ·intro j o r2 C h2 hj hjd hC ih2
   have hji:j<i:=by simp at hj;omega
   have ho:d.members[j]?=some o:=by rw [w0p] at h2;rw [w0e hji] at h2;exact h2
   have hjl:j<d.members.length:=by omega
   refine fR Z ?_;refine Run.zf Z Z (by simp;omega) ?_;refine fR Z ?_;refine elG Z Z Z Z ho Z Z ?_;refine fM Z ?_;refine aL Z Z Z Z Z ?_;refine fM Z ?_
   exact zl 2 Z (ih2 (C||o.name==x.name) (by rw [hC];simp only [YE,w1d];cases C<;>simp)) Z Z Z
end Go.GB.C11
namespace Go.GB.C11
open Go.GB
variable {P:Program}
def z0S:Str:=[81,117,101,114,121]
def z9j (ds:List Def) (d:Def):List z4:=
 if d.kind=1 then z0c ds d.name [] d.fields else if d.kind=2 then z0c ds d.name [] d.fields
 else if d.kind=4 then z1e d.name [] d.members else if d.kind=5 then inF ds (d.name++[46]) [] [] d.zi else []
def z2m (ds:List Def):Nat->List Def->List z4
 |_,[]=>[]
 |i,d::r=>Yf ds i d++z9j ds d++z2m ds (i+1) r
def z7s (ds:List Def) (q:Bool):List z4:=if (q&&!(z7 z0S ds).isSome)=true then [⟨30,z0S⟩] else []
def yN (ds:List Def) (q:Bool):List z4:=z2m ds 0 ds++z7s ds q
theorem zdh (H:Pr P) (ds:List Def) (hD:zV ds) (hil:∀o,o∈ds->o.zi.length<=2199023255552) (q:Bool) (ht:(yN ds q).length<=4398046511104):z6 P 24 [Y8 ds,.t (.bool q)] ⟨[],0⟩ {v:= .t (.lst ((yN ds q).map z4.enc))}:=by
 have hdl:=hD.l;have hT:z2m ds 0 ds++z7s ds q=yN ds q:=rfl;generalize yN ds q=tot at ht hT;refine z6.run H.i24 H.mixed Z Z ?_;refine fR Z ?_;refine zu ds (fun i (B:List z4)=>{env:=[(1,.t (.bool q)),(2,.ptr 0 0),(5,.own 1 2 (B.map z4.enc)),(6,.t (.int .i64 i))],s:=⟨[(0,.cells [.t (.lst (ds.map Def.enc))]),(1,.arr B.length)],2⟩}) (fun r i B=>B++z2m ds i r++z7s ds q=tot) 1 [] Z (by simpa using hT) Z Z Z ?_ ?_
 ·rintro B hB;simp only [z2m,w1j] at hB;have hlen:=congrArg List.length hB;simp only [w03] at hlen;refine fR Z ?_;refine lM Z Z Z ?_;refine fM Z ?_;refine Run.ze Z Z (by simp) ?_;refine fR Z ?_;refine Mid.call (yl H ds hD.l z0S) Z Z Z Z ?_;refine fM Z ?_;refine Run.cond Z Z (fun hc=>?_) (fun hc=>?_)
  ·have hc':z7s ds q=[⟨30,z0S⟩]:=by unfold z7s;rw [w0e (show (q&&!(z7 z0S ds).isSome)=true from hc)]
   rw [hc'] at hB hlen;simp only [w0d,w16] at hlen;refine fR Z ?_;refine apM z4.enc B [(⟨30,z0S⟩:z4)] Z Z Z Z Z ?_ (h1:=by first |omega|(simp;omega)|(simp;done)) (h2:=by first |omega|(simp;omega)|(simp;done));refine fM rfl ?_;refine Run.fin rfl (z3.go ?_);exact .own (by rw [hB])
  ·have hc':z7s ds q=[]:=by unfold z7s;rw [w0g (by rw [show (q&&!(z7 z0S ds).isSome)=false from hc];simp)]
   rw [hc'] at hB;refine fR Z ?_;refine Run.fin Z (z3.go ?_);exact .own (by rw [←hB];simp)
 ·rintro i d r B h1 hi hdr hB ih;have hd:=hD.d d (zMG h1);have hnm:=hd.nm;have hnl:=hd.nl;simp only [z2m] at hB;have hlen:=congrArg List.length hB;simp only [w03] at hlen;refine fR Z ?_;refine lM Z Z Z ?_;refine fM Z ?_;refine Run.zf Z Z (by simp;omega) ?_;refine fR Z ?_;refine Mid.zb Z Z Z h1 Z Z ?_;refine fM Z ?_;refine Mid.call (zdw H ds hD hil i d h1) Z Z Z Z ?_;skip;generalize Yf ds i d=W at hB hlen;refine apM z4.enc B W Z Z Z Z Z ?_ (h1:=by first |omega|(simp;omega)|(simp;done)) (h2:=by first |omega|(simp;omega)|(simp;done));refine fM rfl ?_;unfold z9j at hB hlen;refine Run.cond rfl rfl (fun k1=>?_) (fun k1=>?_)
  ·have k1':d.kind=1:=by simpa using k1
   rw [w0e k1'] at hB hlen;skip;refine Run.zf Z Z k1 ?_;refine fR Z ?_;refine Mid.call (z06 H ds hD d hd (by omega)) Z Z Z Z ?_;skip;generalize z0c ds d.name [] d.fields=M at hB hlen;refine apM z4.enc (B++W) M Z Z Z Z Z ?_ (h1:=by first |omega|(simp;omega)|(simp;done)) (h2:=by first |omega|(simp;omega)|(simp;done));refine fM rfl ?_;refine aL rfl rfl rfl rfl rfl ?_;refine fM rfl ?_;exact zl 2 rfl (ih (B++W++M) (by rw [←hB];simp)) rfl rfl rfl
  ·have k1':¬ d.kind=1:=by simpa using k1
   rw [w0g k1'] at hB hlen;refine fR Z ?_;refine Run.cond Z Z (fun k2=>?_) (fun k2=>?_)
   ·have k2':d.kind=2:=by simpa using k2
    rw [w0e k2'] at hB hlen;refine fR Z ?_;refine Mid.call (z06 H ds hD d hd (by omega)) Z Z Z Z ?_;skip;generalize z0c ds d.name [] d.fields=M at hB hlen;refine apM z4.enc (B++W) M Z Z Z Z Z ?_ (h1:=by first |omega|(simp;omega)|(simp;done)) (h2:=by first |omega|(simp;omega)|(simp;done));refine fM rfl ?_;refine aL rfl rfl rfl rfl rfl ?_;refine fM rfl ?_;exact zl 2 rfl (ih (B++W++M) (by rw [←hB];simp)) rfl rfl rfl
   ·have k2':¬ d.kind=2:=by simpa using k2
    rw [w0g k2'] at hB hlen;refine fR Z ?_;refine Run.cond Z Z (fun k4=>?_) (fun k4=>?_)
    ·have k4':d.kind=4:=by simpa using k4
     rw [w0e k4'] at hB hlen;refine fR Z ?_;refine Mid.call (qG H d hd (by omega)) Z Z Z Z ?_;skip;generalize z1e d.name [] d.members=M at hB hlen;refine apM z4.enc (B++W) M Z Z Z Z Z ?_ (h1:=by first |omega|(simp;omega)|(simp;done)) (h2:=by first |omega|(simp;omega)|(simp;done));refine fM rfl ?_;refine aL rfl rfl rfl rfl rfl ?_;refine fM rfl ?_;exact zl 2 rfl (ih (B++W++M) (by rw [←hB];simp)) rfl rfl rfl
    ·have k4':¬ d.kind=4:=by simpa using k4
     rw [w0g k4'] at hB hlen;refine fR Z ?_;refine Run.cond Z Z (fun k5=>?_) (fun k5=>?_)
     ·have k5':d.kind=5:=by simpa using k5
      rw [w0e k5'] at hB hlen;refine fR Z ?_;refine pu Z ?_;refine Mid.call (wE H ds hD d.zi hnl hd.n (d.name++[46]) [] (by simp;omega) (by decide) (by omega)) Z Z Z Z ?_;skip;generalize inF ds (d.name++[46]) [] [] d.zi=M at hB hlen;refine apM z4.enc (B++W) M Z Z Z Z Z ?_ (h1:=by first |omega|(simp;omega)|(simp;done)) (h2:=by first |omega|(simp;omega)|(simp;done));refine fM rfl ?_;refine aL rfl rfl rfl rfl rfl ?_;refine fM rfl ?_;exact zl 2 rfl (ih (B++W++M) (by rw [←hB];simp)) rfl rfl rfl
     ·have k5':¬ d.kind=5:=by simpa using k5
      rw [w0g k5'] at hB hlen;refine fR Z ?_;refine aL Z Z Z Z Z ?_;refine fM Z ?_;exact zl 2 Z (ih (B++W) (by rw [←hB];simp)) Z Z Z
end Go.GB.C11
namespace Go.GB
namespace Sel
end Sel
namespace Sel.Ok
end Sel.Ok
end Go.GB
namespace Go.GB.C11
open Go.GB
structure z0h (P:Program):Prop extends Pr P where
 i25:z9 P 25=some (n25,c25.bare,r25)
 i66:z9 P 66=some (n66,c66.bare,r66)
 i67:z9 P 67=some (n67,c67.bare,r67)
 i171:z9 P 171=some (n171,c171.bare,r171)
 i151:z9 P 151=some (n151,c151.bare,r151)
 i117:z9 P 117=some (n117,c117.bare,r117)
 i119:z9 P 119=some (n119,c119.bare,r119)
 i172:z9 P 172=some (n172,c172.bare,r172)
 i173:z9 P 173=some (n173,c173.bare,r173)
 i53:z9 P 53=some (n53,c53.bare,r53)
 i184:z9 P 184=some (n184,c184.bare,r184)
 i187:z9 P 187=some (n187,c187.bare,r187)
variable {P:Program}
end Go.GB.C11
namespace Go.GB.C11
open Go.GB
variable {P:Program}
def szV (v:Val):Int:=v.items.attach.foldl (fun n x=>IntKind.i64.wrap (n+szV x.1)) 1
termination_by SizeOf.sizeOf v
decreasing_by exact Val.yd v x.2
def dpV (v:Val):Int:=IntKind.i64.wrap (v.items.attach.foldl (fun n x=>if dpV x.1>n then dpV x.1 else n) 0+1)
termination_by SizeOf.sizeOf v
decreasing_by all_goals exact Val.yd v x.2
def twS:List Str->List Str->Bool
 |_,[]=>false
 |p,s::r=>decide (s∈p)||twS (p++[s]) r
theorem zfz (v:Val):szV v=v.items.foldl (fun n x=>IntKind.i64.wrap (n+szV x)) 1:=by
 rw [szV];exact List.foldl_attach (l:=v.items) (f:=fun n x=>IntKind.i64.wrap (n+szV x)) (b:=1)
theorem zfv (v:Val):dpV v=IntKind.i64.wrap (v.items.foldl (fun n x=>if dpV x>n then dpV x else n) 0+1):=by
 rw [dpV];rw [List.foldl_attach (l:=v.items) (f:=fun n x=>if dpV x>n then dpV x else n) (b:=0)]
def SzC (P:Program) (v:Val):Prop:=z6 P 171 [v.v] ⟨[],0⟩ {v:= .t (.int .i64 (szV v))}
theorem z7K (H:z0h P) (v:Val) (hv:v.Ok) (ih:∀x,x∈v.items->SzC P x):SzC P v:=by
 have hil:=hv.il;unfold SzC;rw [zfz];refine z6.run H.i171 H.mixed Z Z ?_;refine fR Z ?_;refine zu v.items (fun i (n:Int)=>{env:=[(1,.ptr 0 0),(3,.t (.int .i64 n)),(4,.t (.int .i64 i))],s:=⟨[(0,(VCo v))],1⟩}) (fun r i n=>v.items.foldl (fun n x=>IntKind.i64.wrap (n+szV x)) 1=r.foldl (fun n x=>IntKind.i64.wrap (n+szV x)) n) 1 1 Z Z Z Z Z ?_ ?_
 ·intro n hinv;refine fR Z ?_;refine lM Z Z Z ?_;refine fM Z ?_;refine Run.ze Z Z (by simp) ?_;refine fR Z ?_;refine Run.fin Z (z3.go ?_);exact .t (by rw [hinv];rfl)
 ·intro i x r n h1 hi hd hinv ihl;have hcall:=ih x (zMG h1);unfold SzC at hcall;refine fR Z ?_;refine lM Z Z Z ?_;refine fM Z ?_;refine Run.zf Z Z (by simp;omega) ?_;refine fR Z ?_;refine Mid.w6 (Val.wG x) Z Z Z h1 Z Z ?_;refine fM Z ?_;refine Mid.call (hcall) Z Z Z Z ?_;refine p0 Z ?_;refine fM Z ?_;refine aL Z Z Z Z Z ?_;refine fM Z ?_;exact zl 1 Z (ihl (IntKind.i64.wrap (n+szV x)) hinv) Z Z Z
theorem z5s (H:z0h P):∀(v:Val),v.Ok->SzC P v
 |v,hv=>z7K H v hv fun x hx=>z5s H x (hv.it x hx)
termination_by v=>SizeOf.sizeOf v
decreasing_by exact Val.yd v hx
def DpC (P:Program) (v:Val):Prop:=z6 P 172 [v.v] ⟨[],0⟩ {v:= .t (.int .i64 (dpV v))}
theorem z6M (H:z0h P) (v:Val) (hv:v.Ok) (ih:∀x,x∈v.items->DpC P x):DpC P v:=by
 have hil:=hv.il;unfold DpC;rw [zfv];refine z6.run H.i172 H.mixed Z Z ?_;refine fR Z ?_;refine zu v.items (fun i (n:Int)=>{env:=[(1,.ptr 0 0),(3,.t (.int .i64 n)),(4,.t (.int .i64 i))],s:=⟨[(0,(VCo v))],1⟩}) (fun r i n=>v.items.foldl (fun n x=>if dpV x>n then dpV x else n) 0=r.foldl (fun n x=>if dpV x>n then dpV x else n) n) 1 0 Z Z Z Z Z ?_ ?_
 ·intro n hinv;refine fR Z ?_;refine lM Z Z Z ?_;refine fM Z ?_;refine Run.ze Z Z (by simp) ?_;refine fR Z ?_;refine p0 Z ?_;refine fM Z ?_;refine Run.fin Z (z3.go ?_);exact .t (by rw [hinv];rfl)
 ·intro i x r n h1 hi hd hinv ihl;have hcall:=ih x (zMG h1);unfold DpC at hcall;refine fR Z ?_;refine lM Z Z Z ?_;refine fM Z ?_;refine Run.zf Z Z (by simp;omega) ?_;refine fR Z ?_;refine Mid.w6 (Val.wG x) Z Z Z h1 Z Z ?_;refine fM Z ?_;refine Mid.call (hcall) Z Z Z Z ?_;refine fM Z ?_;refine aL Z Z Z Z Z ?_;refine fM Z ?_;exact zl 1 Z (ihl (if dpV x>n then dpV x else n) hinv) Z Z Z
theorem z3y (H:z0h P):∀(v:Val),v.Ok->DpC P v
 |v,hv=>z6M H v hv fun x hx=>z3y H x (hv.it x hx)
termination_by v=>SizeOf.sizeOf v
decreasing_by exact Val.yd v hx
theorem ze9 (p:List Str) (l:List Str):∀{i:Nat} {x:Str} {r:List Str},l[i]?=some x->l.drop i=x::r->twS (l.take i) (x::r)=(decide (x∈l.take i)||twS (l.take (i+1)) r):=by
 intro i x r h1 h2
 have htk:l.take i++[x]=l.take (i+1):=by rw [w1f,h1];rfl
 rw [←htk];rfl
theorem z8v (H:z0h P) (l:List Str) (hl:l.length<=140737488355328):z6 P 187 [.t (.lst (l.map sE))] ⟨[],0⟩ {v:= .t (.bool (twS [] l))}:=by
 generalize hT:twS [] l=tot;refine z6.run H.i187 H.mixed Z Z ?_;refine fR Z ?_;refine zu l (fun i (_:Unit)=>{env:=[(0,.t (.lst (l.map sE))),(3,.t (.int .i64 i))],s:=⟨[],0⟩}) (fun r i _=>l.drop i=r/\twS (l.take i) r=tot) 0 () Z ⟨rfl,hT⟩ Z Z Z ?_ ?_
 ·rintro _ ⟨_,hinv⟩;refine fR Z ?_;refine lM Z Z Z ?_;refine fM Z ?_;refine Run.ze Z Z (by simp) ?_;refine fR Z ?_;refine Run.fin Z (z3.go ?_);exact .t (by rw [←hinv];rfl)
 ·rintro i x r _ h1 hi hd ⟨hdr,hinv⟩ ih;rw [ze9 [] l h1 hdr] at hinv
  have hdr':l.drop (i+1)=r:=by rw [←List.drop_drop,hdr];rfl
  refine fR Z ?_;refine lM Z Z Z ?_;refine fM Z ?_;refine Run.zf Z Z (by simp;omega) ?_;refine fR Z ?_;refine zu (l.take i) (fun k (_:Unit)=>{env:=[(0,.t (.lst (l.map sE))),(3,.t (.int .i64 i)),(4,.t (.int .i64 k))],s:=⟨[],0⟩}) (fun r k _=>decide (x∈l.take i)=decide (x∈r)) 0 () Z Z Z Z Z ?_ ?_
  ·intro _ hinv2
   have hnot:decide (x∈l.take i)=false:=by rw [hinv2];simp
   rw [hnot] at hinv
   have htl:(l.take i).length=i:=by rw [w26];omega
   refine fR Z ?_;refine Run.ze Z Z (by simp [htl]) ?_;refine fR Z ?_;refine aL Z Z Z Z Z ?_;refine fM Z ?_;exact zl 0 Z (ih () ⟨hdr',by simpa using hinv⟩) rfl rfl rfl
  ·intro k y r2 _ g1 gi gd hinv2 ih2
   have htl:(l.take i).length=i:=by rw [w26];omega
   have g1':l[k]?=some y:=by
    rw [w0p] at g1;split at g1
    ·exact g1
    ·cases g1
   refine fR Z ?_;refine Run.zf Z Z (by simp;omega) ?_;refine fR Z ?_;refine Mid.zb Z Z Z h1 Z Z ?_;refine fM Z ?_;refine Mid.zb Z Z Z g1' Z Z ?_;refine fM Z ?_;refine Run.cond Z Z (fun hc=>?_) (fun hc=>?_)
   ·have hc':x=y:=by simpa using hc
    have hm:decide (x∈l.take i)=true:=by rw [hinv2];simp [hc']
    rw [hm] at hinv;refine fR Z ?_;refine Run.fin Z (z3.go ?_);exact .t (by rw [←hinv];rfl)
   ·have hc':¬ x=y:=by simpa using hc
    refine fR Z ?_;refine aL Z Z Z Z Z ?_;refine fM Z ?_;exact zl 0 Z (ih2 () (by rw [hinv2];simp [hc'])) Z Z Z
end Go.GB.C11
namespace Go.GB.C11
open Go.GB
variable {P:Program}
def z3Q (v:Val) (lit:Bool):Bool:=
 if (v.kind==0)=true then (((v.int==0&&v.text==[])&&(v.items.length:Int)==0)&&(v.keys.length:Int)==0)
 else if (v.kind==1)=true then ((((v.int==0||v.int==1)&&v.text==[])&&(v.items.length:Int)==0)&&(v.keys.length:Int)==0)
 else if (v.kind==2)=true then ((v.text==[]&&(v.items.length:Int)==0)&&(v.keys.length:Int)==0)
 else if (v.kind==3)=true then ((v.int==0&&(v.items.length:Int)==0)&&(v.keys.length:Int)==0)
 else if (v.kind==4)=true then ((((((v.int==0&&(v.items.length:Int)==0)&&(v.keys.length:Int)==0)&&zp v.text)&&v.text !=[116,114,117,101])&&v.text !=[102,97,108,115,101])&&v.text !=[110,117,108,108])
 else if (v.kind==5)=true then ((v.int==0&&v.text==[])&&(v.keys.length:Int)==0)
 else if (v.kind==6)=true then (((v.int==0&&v.text==[])&&(v.keys.length:Int)==(v.items.length:Int))&&!twS [] v.keys)
 else if (v.kind==7)=true then ((((lit&&v.int==0)&&(v.items.length:Int)==0)&&(v.keys.length:Int)==0)&&zp v.text)
 else false
theorem zaJ (H:z0h P) (v:Val) (hv:v.Ok) (lit:Bool):z6 P 184 [v.v,.t (.bool lit)] ⟨[],0⟩ {v:= .t (.bool (z3Q v lit))}:=by
 have hkl:=hv.kl;have htl:=hv.tl;generalize hT:z3Q v lit=tot;unfold z3Q at hT;refine z6.run H.i184 H.mixed Z Z ?_;refine fR Z ?_;refine Run.cond Z Z (fun h0=>?_) (fun h0=>?_)
 ·rw [w0e h0] at hT;refine fR Z ?_;refine lMG Z Z Z Z ?_;refine fM Z ?_;refine lMG Z Z Z Z ?_;refine fM Z ?_;refine Run.fin Z (z3.go ?_);exact .t (by rw [←hT])
 ·rw [w0g (by rw [h0];simp)] at hT;refine fR Z ?_;refine Run.cond Z Z (fun h1=>?_) (fun h1=>?_)
  ·rw [w0e h1] at hT;refine fR Z ?_;refine lMG Z Z Z Z ?_;refine fM Z ?_;refine lMG Z Z Z Z ?_;refine fM Z ?_;refine Run.fin Z (z3.go ?_);exact .t (by rw [←hT])
  ·rw [w0g (by rw [h1];simp)] at hT;refine fR Z ?_;refine Run.cond Z Z (fun h2=>?_) (fun h2=>?_)
   ·rw [w0e h2] at hT;refine fR Z ?_;refine lMG Z Z Z Z ?_;refine fM Z ?_;refine lMG Z Z Z Z ?_;refine fM Z ?_;refine Run.fin Z (z3.go ?_);exact .t (by rw [←hT])
   ·rw [w0g (by rw [h2];simp)] at hT;refine fR Z ?_;refine Run.cond Z Z (fun h3=>?_) (fun h3=>?_)
    ·rw [w0e h3] at hT;refine fR Z ?_;refine lMG Z Z Z Z ?_;refine fM Z ?_;refine lMG Z Z Z Z ?_;refine fM Z ?_;refine Run.fin Z (z3.go ?_);exact .t (by rw [←hT])
    ·rw [w0g (by rw [h3];simp)] at hT;refine fR Z ?_;refine Run.cond Z Z (fun h4=>?_) (fun h4=>?_)
     ·rw [w0e h4] at hT;refine fR Z ?_;refine lMG Z Z Z Z ?_;refine fM Z ?_;refine lMG Z Z Z Z ?_;refine fM Z ?_;refine caG Z Z (fun hg=>⟨_,rfl,z09 H.toPr v.text htl,rfl⟩) Z Z ?_;refine fM Z ?_;refine Run.fin Z (z3.go ?_);exact .t (by rw [←hT];rfl)
     ·rw [w0g (by rw [h4];simp)] at hT;refine fR Z ?_;refine Run.cond Z Z (fun h5=>?_) (fun h5=>?_)
      ·rw [w0e h5] at hT;refine fR Z ?_;refine lMG Z Z Z Z ?_;refine fM Z ?_;refine Run.fin Z (z3.go ?_);exact .t (by rw [←hT])
      ·rw [w0g (by rw [h5];simp)] at hT;refine fR Z ?_;refine Run.cond Z Z (fun h6=>?_) (fun h6=>?_)
       ·rw [w0e h6] at hT;refine fR Z ?_;refine lMG Z Z Z Z ?_;refine fM Z ?_;refine lMG Z Z Z Z ?_;refine fM Z ?_;refine caG Z Z (fun hg=>⟨_,rfl,z8v H v.keys (by omega),rfl⟩) Z Z ?_;refine fM Z ?_;refine Run.fin Z (z3.go ?_);exact .t (by rw [←hT])
       ·rw [w0g (by rw [h6];simp)] at hT;refine fR Z ?_;refine Run.cond Z Z (fun h7=>?_) (fun h7=>?_)
        ·rw [w0e h7] at hT;refine fR Z ?_;refine lMG Z Z Z Z ?_;refine fM Z ?_;refine lMG Z Z Z Z ?_;refine fM Z ?_;refine caG Z Z (fun hg=>⟨_,rfl,z09 H.toPr v.text htl,rfl⟩) Z Z ?_;refine fM Z ?_;refine Run.fin Z (z3.go ?_);exact .t (by rw [←hT])
        ·rw [w0g (by rw [h7];simp)] at hT;refine fR Z ?_;refine Run.fin Z (z3.go ?_);exact .t (by rw [←hT])
def z4K (lit:Bool) (v:Val):Bool:=z3Q v lit&&(v.keys.all (fun k=>!(lit&&!zp k))&&v.items.attach.all (fun x=>z4K lit x.1))
termination_by SizeOf.sizeOf v
decreasing_by exact Val.yd v x.2
theorem zel (lit:Bool) (v:Val):z4K lit v=(z3Q v lit&&(v.keys.all (fun k=>!(lit&&!zp k))&&v.items.all (z4K lit))):=by
 rw [z4K];congr 2;rw [w1n];simp [w0i]
def WhC (P:Program) (lit:Bool) (v:Val):Prop:=z6 P 173 [v.v,.t (.bool lit)] ⟨[],0⟩ {v:= .t (.bool (z4K lit v))}
theorem z6a (H:z0h P) (lit:Bool) (v:Val) (hv:v.Ok) (ih:∀x,x∈v.items->WhC P lit x):WhC P lit v:=by
 have hil:=hv.il;have hkl:=hv.kl;unfold WhC;rw [zel];refine z6.run H.i173 H.mixed Z Z ?_;refine fR Z ?_;refine Mid.call (zaJ H v hv lit) Z Z Z Z ?_;refine fM Z ?_;refine Run.cond Z Z (fun h0=>?_) (fun h0=>?_)
 ·have h0':z3Q v lit=false:=by simpa using h0
  refine fR Z ?_;refine Run.fin Z (z3.go ?_);exact .t (by rw [h0'];rfl)
 ·have h0':z3Q v lit=true:=by simpa using h0
  rw [h0',w1b];refine fR Z ?_;refine zu v.keys (fun i (_:Unit)=>{env:=[(1,.t (.bool lit)),(2,.ptr 0 0),(5,.t (.int .i64 i))],s:=⟨[(0,(VCo v))],1⟩}) (fun r i _=>v.keys.all (fun k=>!(lit&&!zp k))=r.all (fun k=>!(lit&&!zp k))) 1 () Z Z Z Z Z ?_ ?_
  ·intro _ hk
   have hk':v.keys.all (fun k=>!(lit&&!zp k))=true:=by rw [hk];rfl
   rw [hk',w1b];refine fR Z ?_;refine lM Z Z Z ?_;refine fM Z ?_;refine Run.ze Z Z (by simp) ?_;refine fR Z ?_;refine zu v.items (fun i (_:Unit)=>{env:=[(1,.t (.bool lit)),(2,.ptr 0 0),(6,.t (.int .i64 i))],s:=⟨[(0,(VCo v))],1⟩}) (fun r i _=>v.items.all (z4K lit)=r.all (z4K lit)) 1 () Z Z Z Z Z ?_ ?_
   ·intro _ hinv;refine fR Z ?_;refine lM Z Z Z ?_;refine fM Z ?_;refine Run.ze Z Z (by simp) ?_;refine fR Z ?_;refine Run.fin Z (z3.go ?_);exact .t (by rw [hinv];rfl)
   ·intro i x r _ h1 hi hd hinv ihl;have hcall:=ih x (zMG h1);unfold WhC at hcall;refine fR Z ?_;refine lM Z Z Z ?_;refine fM Z ?_;refine Run.zf Z Z (by simp;omega) ?_;refine fR Z ?_;refine Mid.w6 (Val.wG x) Z Z Z h1 Z Z ?_;refine fM Z ?_;refine Mid.call (hcall) Z Z Z Z ?_;refine fM Z ?_;refine Run.cond Z Z (fun hc=>?_) (fun hc=>?_)
    ·have hc':z4K lit x=false:=by simpa using hc
     refine fR Z ?_;refine Run.fin Z (z3.go ?_);exact .t (by rw [hinv,List.all_cons,hc'];rfl)
    ·have hc':z4K lit x=true:=by simpa using hc
     refine fR Z ?_;refine aL Z Z Z Z Z ?_;refine fM Z ?_;exact zl 1 Z (ihl () (by rw [hinv,List.all_cons,hc'];rfl)) Z Z Z
  ·intro i x r _ h1 hi hd hinv ihl;have hxl:=hv.kt x (zMG h1);refine fR Z ?_;refine lM Z Z Z ?_;refine fM Z ?_;refine Run.zf Z Z (by simp;omega) ?_;refine fR Z ?_;refine elG Z Z Z Z h1 Z Z ?_;refine fM Z ?_;refine caG Z Z (fun hg=>⟨_,rfl,z09 H.toPr x hxl,rfl⟩) Z Z ?_;refine fM Z ?_;refine Run.cond Z Z (fun hc=>?_) (fun hc=>?_)
   ·refine fR Z ?_;refine Run.fin Z (z3.go ?_);exact .t (by rw [hinv,List.all_cons,hc];rfl)
   ·refine fR Z ?_;refine aL Z Z Z Z Z ?_;refine fM Z ?_;exact zl 1 Z (ihl () (by rw [hinv,List.all_cons,hc];rfl)) Z Z Z
theorem z3X (H:z0h P) (lit:Bool):∀(v:Val),v.Ok->WhC P lit v
 |v,hv=>z6a H lit v hv fun x hx=>z3X H lit x (hv.it x hx)
termination_by v=>SizeOf.sizeOf v
decreasing_by exact Val.yd v hx
def z1U (v:Val):Bool:=(decide (szV v<=4096)&&decide (dpV v<=24))&&z4K true v
theorem z8V (H:z0h P) (v:Val) (hv:v.Ok):z6 P 151 [v.v] ⟨[],0⟩ {v:= .t (.bool (z1U v))}:=by
 have h1:=z5s H v hv;have h2:=z3y H v hv;have h3:=z3X H true v hv;unfold SzC at h1;unfold DpC at h2;unfold WhC at h3;refine z6.run H.i151 H.mixed Z Z ?_;refine fR Z ?_;refine Mid.call (h1) Z Z Z Z ?_;refine fM Z ?_;refine caG Z Z (fun hg=>⟨_,rfl,h2,rfl⟩) Z Z ?_;refine fM Z ?_;refine caG Z Z (fun hg=>⟨_,rfl,h3,rfl⟩) Z Z ?_;refine fM Z ?_;refine Run.fin Z (z3.go ?_);exact .t Z
end Go.GB.C11
namespace Go.GB.C11
open Go.GB
variable {P:Program}
theorem Wt (a b:Ref):W8 a b=W8 b a:=by
 unfold W8;rw [w1n];simp;exact ⟨fun h=>⟨h.1.symm,h.2.symm⟩,fun h=>⟨h.1.symm,h.2.symm⟩⟩
theorem QI (H:z0h P) (a b:Ref) (ha:a.Ok) (hb:b.Ok):z6 P 53 [a.v,b.v] ⟨[],0⟩ {v:= .t (.bool (W8 a b))}:=by
 have h1:=ha.l;have h2:=hb.l;refine z6.run H.i53 H.mixed Z Z ?_;refine fR Z ?_;refine caG Z Z (fun hg=>⟨_,rfl,zee H.toPr a.za b.za (by omega) (by omega),rfl⟩) Z Z ?_;refine fM Z ?_;refine Run.fin Z (z3.go ?_);exact .t Z
theorem z5q (H:z0h P) (ds:List Def) (hD:zV ds) (n:Str) (k:Int) (hk:k≠0):z6 P 117 [Y8 ds,.t (.str n),.t (.int .i64 k)] ⟨[],0⟩ {v:= .t (.int .i64 (y4 ds n k))}:=by
 refine z6.run H.i117 H.mixed Z Z ?_;refine fR Z ?_;refine Mid.call (yl H.toPr ds hD.l n) Z Z Z Z ?_;refine fM Z ?_;refine caG Z Z (fun hg=>⟨_,rfl,Ww H.toPr n,rfl⟩) Z Z ?_;refine fM Z ?_;refine Run.cond Z Z (fun h1=>?_) (fun h1=>?_)
 ·refine fR Z ?_;refine Run.fin Z (z3.go ?_);exact .t (by unfold y4;rw [w0e h1])
 ·have h1':¬ (!(z7 n ds).isSome&&!(Qz n))=true:=by
   rw [show (!(z7 n ds).isSome&&!(Qz n))=false from h1];simp
  refine fR Z ?_;refine Run.cond Z Z (fun h2=>?_) (fun h2=>?_)
  ·have h2':(!(z7 n ds).isSome||((z7 n ds).getD Def.zero).kind !=k)=true:=by
    have:(((z7 n ds).getD Def.zero).kind !=k)=true:=h2;rw [this];simp
   refine fR Z ?_;refine Run.fin Z (z3.go ?_);exact .t (by unfold y4;rw [w0g h1',w0e h2'])
  ·have h2':¬ (!(z7 n ds).isSome||((z7 n ds).getD Def.zero).kind !=k)=true:=by
    have:(((z7 n ds).getD Def.zero).kind !=k)=false:=h2;rw [this]
    cases hf:z7 n ds with
    |none=>rw [hf] at this;exact absurd (by simpa [Def.zero] using this) hk.symm
    |some d=>simp
   refine fR Z ?_;refine Run.fin Z (z3.go ?_);exact .t (by unfold y4;rw [w0g h1',w0g h2'])
theorem zaD (H:z0h P) (ds:List Def) (hD:zV ds) (t:Def) (ht:t.Ok) (x:Field) (hx:x.Ok) (hl:(z7t ds t x).length<=4398046511104):z6 P 119 [Y8 ds,t.v,x.v] ⟨[],0⟩ {v:= .t (.lst ((z7t ds t x).map z4.enc))}:=by
 have hxn:=hx.nm;have htn:=ht.nm;have hxa:=hx.al
 have hatl:List.length (atF t x)<=281474976710657:=by unfold atF;simp;omega
 generalize hT:z7t ds t x=tot at hl;unfold z7t at hT;generalize hAt:atF t x=at_ at hT hatl;have hAt':t.name++[46]++x.name=at_:=hAt;refine z6.run H.i119 H.mixed Z Z ?_;refine fR Z ?_;refine pu Z ?_;refine fM Z ?_;refine pu Z ?_;refine fM Z ?_;rw [hAt'];refine Mid.call (WQ H.toPr t ht.fl x.name) Z Z Z Z ?_;refine fM Z ?_
 cases hy:z5 x.name t.fields with
 |none=>
  rw [hy] at hT;refine Run.zf Z Z Z ?_;refine fR Z ?_;refine Run.fin Z (z3.go ?_)
  first
  |exact .t (by rw [←hT];rfl)
  |exact .own (by rw [←hT];rfl)
 |some y=>
  rw [hy] at hT;simp only at hT;have hyo:=ht.f y (Z0 hy);have hya:=hyo.al;refine Run.ze Z Z Z ?_;refine fR Z ?_;refine Mid.call (zbr H.toPr ds hD y.ty x.ty hyo.t hx.t) Z Z Z Z ?_;refine fM Z ?_
  have tail:∀B0:List z4,B0++(QH y at_ x.args++Qc x at_ y.args)=tot->Run P n119 (⟨[],0⟩:S).nxt (z3 ⟨[],0⟩ {v:= .t (.lst (tot.map z4.enc))} r119 YZ.ret)
    [It.c c119_20,It.blk 0,It.c c119_11] {env:=[(5,.ptr 2 0),(7,.t (.str at_)),(8,.ptr 3 0),(10,.own 4 2 (List.map z4.enc (B0))),(11,.t (.int .i64 0))],s:=⟨[(2,.cells [.t (.str x.name),.t (.lst (x.args.map Input.enc)),.t (.str x.ty.name),.t (.lst (x.ty.za.map nE)),.t (.lst (x.zg.map Dir.enc))]),(3,.cells [.t (.str y.name),.t (.lst (y.args.map Input.enc)),.t (.str y.ty.name),.t (.lst (y.ty.za.map nE)),.t (.lst (y.zg.map Dir.enc))]),(4,.arr (B0).length)],5⟩}:=by
   intro B0 hB0;refine zu x.args (fun i (B:List z4)=>{env:=[(5,.ptr 2 0),(7,.t (.str at_)),(8,.ptr 3 0),(10,.own 4 2 (List.map z4.enc (B))),(11,.t (.int .i64 i))],s:=⟨[(2,.cells [.t (.str x.name),.t (.lst (x.args.map Input.enc)),.t (.str x.ty.name),.t (.lst (x.ty.za.map nE)),.t (.lst (x.zg.map Dir.enc))]),(3,.cells [.t (.str y.name),.t (.lst (y.args.map Input.enc)),.t (.str y.ty.name),.t (.lst (y.ty.za.map nE)),.t (.lst (y.zg.map Dir.enc))]),(4,.arr (B).length)],5⟩}) (fun r i B=>B++(QH y at_ r++Qc x at_ y.args)=tot) 5 B0 Z hB0 Z Z Z ?_ ?_
   ·rintro B hB;simp only [QH,w0u] at hB;refine fR Z ?_;refine lM Z Z Z ?_;refine fM Z ?_;refine Run.ze Z Z (by simp) ?_;refine fR Z ?_;refine zu y.args (fun i (B:List z4)=>{env:=[(5,.ptr 2 0),(7,.t (.str at_)),(8,.ptr 3 0),(10,.own 4 2 (List.map z4.enc (B))),(14,.t (.int .i64 i))],s:=⟨[(2,.cells [.t (.str x.name),.t (.lst (x.args.map Input.enc)),.t (.str x.ty.name),.t (.lst (x.ty.za.map nE)),.t (.lst (x.zg.map Dir.enc))]),(3,.cells [.t (.str y.name),.t (.lst (y.args.map Input.enc)),.t (.str y.ty.name),.t (.lst (y.ty.za.map nE)),.t (.lst (y.zg.map Dir.enc))]),(4,.arr (B).length)],5⟩}) (fun r i B=>B++Qc x at_ r=tot) 5 B Z hB Z Z Z ?_ ?_
    ·rintro C hC
     obtain rfl:C=tot:=by rw [←hC];simp [Qc]
     refine fR Z ?_;refine lM Z Z Z ?_;refine fM Z ?_;refine Run.ze Z Z (by simp) ?_;refine fR Z ?_;refine Run.fin Z (z3.go ?_);exact .own Z
    ·rintro i b r C h1 hi hd hC ih;have hb:=hyo.a b (zMG h1);have hbn:=hb.nm;have hlen:=congrArg List.length hC;simp only [w03] at hlen;refine fR Z ?_;refine lM Z Z Z ?_;refine fM Z ?_;refine Run.zf Z Z (by simp;omega) ?_;refine fR Z ?_;refine Mid.zb Z Z Z h1 Z Z ?_;refine fM Z ?_;refine Mid.call (q5 H.toPr x.args hxa b.name) Z Z Z Z ?_;refine fM Z ?_;refine elG Z Z Z Z h1 Z Z ?_;refine fM Z ?_;refine caG Z Z (fun hg=>⟨_,rfl,z4g H.toPr b.ty hb.t,rfl⟩) Z Z ?_;refine fM Z ?_;refine elG Z Z Z Z h1 Z Z ?_;refine fM Z ?_;refine Run.cond Z Z (fun hc=>?_) (fun hc=>?_)
     ·have hc':zeH x b=true:=hc;simp only [Qc] at hC hlen;rw [w0e hc'] at hC hlen;simp only [w0d] at hlen;refine fR Z ?_;refine pu Z ?_;refine fM Z ?_;refine Mid.zb Z Z Z h1 Z Z ?_;refine fM Z ?_;refine pu Z ?_;refine pu Z ?_;refine fM Z ?_;refine apM z4.enc C [(⟨22,at_++[40]++b.name++[41]⟩:z4)] Z Z Z Z Z ?_ (h1:=by first |omega|(simp;omega)|(simp;done)) (h2:=by first |omega|(simp;omega)|(simp;done));refine fM rfl ?_;refine aL rfl rfl rfl rfl rfl ?_;refine fM rfl ?_;exact zl 5 rfl (ih (C++[⟨22,at_++[40]++b.name++[41]⟩]) (by rw [←hC];simp)) rfl rfl rfl
     ·have hc':¬ zeH x b=true:=by rw [show zeH x b=false from hc];simp
      simp only [Qc] at hC;rw [w0g hc'] at hC;refine fR Z ?_;refine aL Z Z Z Z Z ?_;refine fM Z ?_;exact zl 5 Z (ih C hC) Z Z Z
   ·rintro i a r B h1 hi hd hB ih;have ha:=hx.a a (zMG h1);have han:=ha.nm;have hlen:=congrArg List.length hB;simp only [w03] at hlen;have hio:=zgw hyo.a a.name;refine fR Z ?_;refine lM Z Z Z ?_;refine fM Z ?_;refine Run.zf Z Z (by simp;omega) ?_;refine fR Z ?_;refine Mid.zb Z Z Z h1 Z Z ?_;refine fM Z ?_;refine Mid.call (q5 H.toPr y.args hya a.name) Z Z Z Z ?_;refine fM Z ?_;refine elG Z Z Z Z h1 Z Z ?_;refine fM Z ?_;refine caG Z Z (fun hg=>⟨_,rfl,QI H ((zn a.name y.args).getD Input.zero).ty a.ty hio.t ha.t,rfl⟩) Z Z ?_;refine fM Z ?_;refine Run.cond Z Z (fun hc=>?_) (fun hc=>?_)
    ·have hc':ze0 y a=true:=by
      have h:=hc;rw [Wt] at h;exact h
     simp only [QH] at hB hlen;rw [w0e hc'] at hB hlen;simp only [w0d,w1y] at hB hlen;refine fR Z ?_;refine pu Z ?_;refine fM Z ?_;refine Mid.zb Z Z Z h1 Z Z ?_;refine fM Z ?_;refine pu Z ?_;refine pu Z ?_;refine fM Z ?_;refine apM z4.enc B [(⟨22,at_++[40]++a.name++[41]⟩:z4)] Z Z Z Z Z ?_ (h1:=by first |omega|(simp;omega)|(simp;done)) (h2:=by first |omega|(simp;omega)|(simp;done));refine fM rfl ?_;refine aL rfl rfl rfl rfl rfl ?_;refine fM rfl ?_;exact zl 5 rfl (ih (B++[⟨22,at_++[40]++a.name++[41]⟩]) (by rw [←hB];simp)) rfl rfl rfl
    ·have hc':¬ ze0 y a=true:=by
      have h:=hc;rw [Wt] at h;rw [show ze0 y a=false from h];simp
     simp only [QH] at hB;rw [w0g hc'] at hB;refine fR Z ?_;refine aL Z Z Z Z Z ?_;refine fM Z ?_;exact zl 5 Z (ih B hB) Z Z Z
  refine Run.cond Z Z (fun hs=>?_) (fun hs=>?_)
  ·have hs':¬ za2 ds y.ty x.ty=true:=by simpa using hs
   rw [w0g hs'] at hT;refine fR Z ?_;refine apN z4.enc [(⟨10,at_⟩:z4)] Z Z Z ?_ (h1:=by first |omega|(simp;omega)|(simp;done)) (h2:=by first |omega|(simp;omega)|(simp;done));refine fM rfl ?_;refine yM 5 rfl (tail [⟨10,at_⟩] hT) rfl rfl rfl
  ·have hs':za2 ds y.ty x.ty=true:=by simpa using hs
   rw [w0e hs'] at hT;refine fR Z ?_;refine yM 4 Z (tail [] hT) Z Z Z
theorem z9A (H:z0h P) (ds:List Def) (hD:zV ds) (t:Def) (ht:t.Ok) (hl:(z9p ds t).length<=4398046511104):z6 P 66 [Y8 ds,t.v] ⟨[],0⟩ {v:= .t (.lst ((z9p ds t).map z4.enc))}:=by
 have hil:=ht.il;unfold z9p at hl⊢;generalize hT:z3v ds t [] t.implements=tot at hl;refine z6.run H.i66 H.mixed Z Z ?_;refine fR Z ?_;refine zu t.implements (fun i (B:List z4)=>{env:=[(2,.ptr 0 0),(3,.ptr 1 0),(5,.own 2 2 (List.map z4.enc (B))),(6,.t (.int .i64 i))],s:=⟨[(0,.cells [.t (.lst (ds.map Def.enc))]),(1,(TCo t)),(2,.arr (B).length)],3⟩}) (fun r i B=>B++z3v ds t (t.implements.take i) r=tot) 2 [] Z (by simpa using hT) Z Z Z ?_ ?_
 ·rintro B hB
  obtain rfl:B=tot:=by rw [←hB];simp [z3v]
  refine fR Z ?_;refine lM Z Z Z ?_;refine fM Z ?_;refine Run.ze Z Z (by simp) ?_;refine fR Z ?_;refine Run.fin Z (z3.go ?_);exact .own Z
 ·rintro i n r B h1 hi hd hB ih
  have htk:t.implements.take i++[n]=t.implements.take (i+1):=by rw [w1f,h1];rfl
  have hB':B++((if z2X ds (t.implements.take i) n=0 then Qf ds t ((z7 n ds).getD Def.zero).fields else [(⟨z2X ds (t.implements.take i) n,t.name⟩:z4)])++z3v ds t (t.implements.take (i+1)) r)=tot:=by rw [←htk];exact hB
  have hlen:B.length+(if z2X ds (t.implements.take i) n=0 then Qf ds t ((z7 n ds).getD Def.zero).fields else [(⟨z2X ds (t.implements.take i) n,t.name⟩:z4)]).length<=4398046511104:=by
   have:=congrArg List.length hB';simp only [w03] at this;omega
  have htkl:(t.implements.take i).length<=140737488355328:=by simp;omega
  have hF:=z16 hD n;refine fR Z ?_;refine lM Z Z Z ?_;refine fM Z ?_;refine Run.zf Z Z (by simp;omega) ?_;refine fR Z ?_;refine Mid.zb Z Z Z h1 Z Z ?_;refine fM Z ?_;refine Mid.call (z5q H ds hD n 2 (by decide)) Z Z Z Z ?_;refine fM Z ?_;refine zh1 Z Z Z Z Z ?_;refine fM Z ?_;refine elG Z Z Z Z h1 Z Z ?_;refine fM Z ?_;refine caG Z Z (fun hg=>⟨_,rfl,z6O H.toPr (t.implements.take i) htkl n,rfl⟩) Z Z ?_;refine fM Z ?_;refine Run.cond Z Z (fun h7=>?_) (fun h7=>?_)
  ·have e7:z2X ds (t.implements.take i) n=7:=by unfold z2X;rw [w0e h7]
   rw [e7] at hB' hlen;simp at hB' hlen;refine fR Z ?_;refine Run.zf Z Z Z ?_;refine fR Z ?_;refine apM z4.enc B [(⟨7,t.name⟩:z4)] Z Z Z Z Z ?_ (h1:=by first |omega|(simp;omega)|(simp;done)) (h2:=by first |omega|(simp;omega)|(simp;done));refine fM rfl ?_;refine aL rfl rfl rfl rfl rfl ?_;refine fM rfl ?_;exact zl 3 rfl (ih (B++[⟨7,t.name⟩]) (by rw [←hB'];simp)) rfl rfl rfl
  ·have e7:z2X ds (t.implements.take i) n=y4 ds n 2:=by unfold z2X;rw [w0g (by rw [show (y4 ds n 2==0&&decide (n∈t.implements.take i))=false from h7];simp)]
   rw [e7] at hB' hlen;refine fR Z ?_;refine Run.cond Z Z (fun he=>?_) (fun he=>?_)
   ·have he':¬ y4 ds n 2=0:=by simpa using he
    rw [w0g he'] at hB' hlen;simp at hB' hlen;refine fR Z ?_;refine apM z4.enc B [(⟨y4 ds n 2,t.name⟩:z4)] Z Z Z Z Z ?_ (h1:=by first |omega|(simp;omega)|(simp;done)) (h2:=by first |omega|(simp;omega)|(simp;done));refine fM rfl ?_;refine aL rfl rfl rfl rfl rfl ?_;refine fM rfl ?_;exact zl 3 rfl (ih (B++[⟨y4 ds n 2,t.name⟩]) (by rw [←hB'];simp)) rfl rfl rfl
   ·have he':y4 ds n 2=0:=by simpa using he
    rw [w0e he'] at hB' hlen;refine fR Z ?_;refine Mid.zb Z Z Z h1 Z Z ?_;refine fM Z ?_;refine Mid.call (yl H.toPr ds hD.l n) Z Z Z Z ?_;refine fM Z ?_;generalize hf:(z7 n ds).getD Def.zero=f at hF hB' hlen;have hff:=hF.fl;generalize hG:Qf ds t f.fields=G at hB' hlen;refine zu f.fields (fun j (C:List z4)=>{env:=[(2,.ptr 0 0),(3,.ptr 1 0),(5,.own 2 2 (List.map z4.enc C)),(6,.t (.int .i64 i)),(8,.ptr 3 0),(10,.t (.int .i64 j))],s:=⟨[(0,.cells [.t (.lst (ds.map Def.enc))]),(1,(TCo t)),(2,.arr C.length),(3,(TCo f))],4⟩}) (fun r2 j C=>C++Qf ds t r2=B++G) 4 B Z (by rw [←hG]) Z Z Z ?_ ?_
    ·rintro C hC;simp only [Qf,w1j] at hC;subst hC;refine fR Z ?_;refine lM Z Z Z ?_;refine fM Z ?_;refine Run.ze Z Z (by simp) ?_;refine fR Z ?_;refine aL Z Z Z Z Z ?_;refine fM Z ?_;exact zl 3 Z (ih (B++G) (by rw [←hB'];simp)) Z Z Z
    ·rintro j x r2 C g1 gi gd hC ih2;have hx:=hF.f x (zMG g1);have hln2:=congrArg List.length hC;simp only [Qf,w03] at hln2;have hcall:=zaD H ds hD t ht x hx (by omega);simp only [Qf] at hC;generalize z7t ds t x=N at hC hln2 hcall;refine fR Z ?_;refine lM Z Z Z ?_;refine fM Z ?_;refine Run.zf Z Z (by simp;omega) ?_;refine fR Z ?_;refine Mid.zb Z Z Z g1 Z Z ?_;refine fM Z ?_;refine Mid.call (hcall) Z Z Z Z ?_;skip;refine apM z4.enc C N Z Z Z Z Z ?_ (h1:=by first |omega|(simp;omega)|(simp;done)) (h2:=by first |omega|(simp;omega)|(simp;done));refine fM rfl ?_;refine aL rfl rfl rfl rfl rfl ?_;refine fM rfl ?_;exact zl 4 rfl (ih2 (C++N) (by rw [←hC];simp)) rfl rfl rfl
theorem zaz (H:z0h P) (ds:List Def) (hD:zV ds) (t:Def) (ht:t.Ok) (hl:(unL ds t [] t.members).length<=4398046511104):z6 P 67 [Y8 ds,t.v] ⟨[],0⟩ {v:= .t (.lst ((unL ds t [] t.members).map z4.enc))}:=by
 have hml:=ht.ml;have htn:=ht.nm;generalize hT:unL ds t [] t.members=tot at hl;refine z6.run H.i67 H.mixed Z Z ?_;refine fR Z ?_;refine zu t.members (fun i (B:List z4)=>{env:=[(2,.ptr 0 0),(3,.ptr 1 0),(5,.own 2 2 (List.map z4.enc (B))),(6,.t (.int .i64 i))],s:=⟨[(0,.cells [.t (.lst (ds.map Def.enc))]),(1,(TCo t)),(2,.arr (B).length)],3⟩}) (fun r i B=>B++unL ds t (t.members.take i) r=tot) 2 [] Z (by simpa using hT) Z Z Z ?_ ?_
 ·rintro B hB
  obtain rfl:B=tot:=by rw [←hB];simp [unL]
  refine fR Z ?_;refine lM Z Z Z ?_;refine fM Z ?_;refine Run.ze Z Z (by simp) ?_;refine fR Z ?_;refine Run.fin Z (z3.go ?_);exact .own Z
 ·rintro i m r B h1 hi hd hB ih;have hm:=ht.m m (zMG h1);have hmn:=hm.nm
  have htk:t.members.take i++[m]=t.members.take (i+1):=by rw [w1f,h1];rfl
  simp only [unL,htk] at hB;have hlen:=congrArg List.length hB;simp only [w03] at hlen
  have htkl:(t.members.take i).length<=140737488355328:=by simp;omega
  refine fR Z ?_;refine lM Z Z Z ?_;refine fM Z ?_;refine Run.zf Z Z (by simp;omega) ?_;refine fR Z ?_;refine Mid.zb Z Z Z h1 Z Z ?_;refine fM Z ?_;refine Mid.call (z5q H ds hD m.name 1 (by decide)) Z Z Z Z ?_;refine fM Z ?_;refine zh1 Z Z Z Z Z ?_;refine fM Z ?_;refine caG Z Z (fun hg=>⟨_,rfl,z56 H.toPr ⟨0,[],[],[],[],t.members.take i,[]⟩ htkl m.name,rfl⟩) Z Z ?_;refine fM Z ?_;refine Run.cond Z Z (fun h7=>?_) (fun h7=>?_)
  ·have e7:unE ds (t.members.take i) m=7:=by unfold unE;rw [w0e h7]
   rw [e7] at hB hlen;simp at hB hlen;refine fR Z ?_;refine Run.zf Z Z Z ?_;refine fR Z ?_;refine pu Z ?_;refine fM Z ?_;refine pu Z ?_;refine fM Z ?_;refine apM z4.enc B [(⟨7,t.name++[46]++m.name⟩:z4)] Z Z Z Z Z ?_ (h1:=by first |omega|(simp;omega)|(simp;done)) (h2:=by first |omega|(simp;omega)|(simp;done));refine fM rfl ?_;refine aL rfl rfl rfl rfl rfl ?_;refine fM rfl ?_;exact zl 3 rfl (ih (B++[⟨7,t.name++[46]++m.name⟩]) (by rw [←hB];simp)) rfl rfl rfl
  ·have e7:unE ds (t.members.take i) m=y4 ds m.name 1:=by unfold unE;rw [w0g (by rw [show (y4 ds m.name 1==0&&YE (t.members.take i) m.name)=false from h7];simp)]
   rw [e7] at hB hlen;refine fR Z ?_;refine Run.cond Z Z (fun he=>?_) (fun he=>?_)
   ·have he':¬ y4 ds m.name 1=0:=by simpa using he
    rw [w0g he'] at hB hlen;simp at hB hlen;refine fR Z ?_;refine pu Z ?_;refine fM Z ?_;refine pu Z ?_;refine fM Z ?_;refine apM z4.enc B [(⟨y4 ds m.name 1,t.name++[46]++m.name⟩:z4)] Z Z Z Z Z ?_ (h1:=by first |omega|(simp;omega)|(simp;done)) (h2:=by first |omega|(simp;omega)|(simp;done));refine fM rfl ?_;refine aL rfl rfl rfl rfl rfl ?_;refine fM rfl ?_;exact zl 3 rfl (ih (B++[⟨y4 ds m.name 1,t.name++[46]++m.name⟩]) (by rw [←hB];simp)) rfl rfl rfl
   ·have he':y4 ds m.name 1=0:=by simpa using he
    rw [w0e he'] at hB hlen;refine fR Z ?_;refine aL Z Z Z Z Z ?_;refine fM Z ?_;exact zl 3 Z (ih B (by rw [←hB];simp)) Z Z Z
theorem zaC (H:z0h P) (ds:List Def) (hD:zV ds) (hl:(Zs ds).length<=4398046511104):z6 P 25 [Y8 ds] ⟨[],0⟩ {v:= .t (.lst ((Zs ds).map z4.enc))}:=by
 have hdl:=hD.l;unfold Zs at hl⊢;generalize hT:W6 ds ds=tot at hl;refine z6.run H.i25 H.mixed Z Z ?_;refine fR Z ?_;refine zu ds (fun i (B:List z4)=>{env:=[(1,.ptr 0 0),(3,.own 1 2 (List.map z4.enc B)),(4,.t (.int .i64 i))],s:=⟨[(0,.cells [.t (.lst (ds.map Def.enc))]),(1,.arr B.length)],2⟩}) (fun r i B=>B++W6 ds r=tot) 1 [] Z (by simpa using hT) Z Z Z ?_ ?_
 ·rintro B hB
  obtain rfl:B=tot:=by rw [←hB];simp [W6]
  refine fR Z ?_;refine lM Z Z Z ?_;refine fM Z ?_;refine Run.ze Z Z (by simp) ?_;refine fR Z ?_;refine Run.fin Z (z3.go ?_);exact .own Z
 ·rintro i t r B h1 hi hd hB ih;have ht:=hD.d t (zMG h1);have hlen:=congrArg List.length hB;simp only [w03] at hlen;refine fR Z ?_;refine lM Z Z Z ?_;refine fM Z ?_;refine Run.zf Z Z (by simp;omega) ?_;refine fR Z ?_;refine Mid.zb Z Z Z h1 Z Z ?_;refine fM Z ?_;refine Run.cond Z Z (fun hk=>?_) (fun hk=>?_)
  ·have hk':t.kind=1:=by simpa using hk
   simp only [W6] at hB hlen;rw [w0e hk'] at hB hlen;simp only [w03] at hlen;have hcall:=z9A H ds hD t ht (by omega);generalize z9p ds t=N at hB hlen hcall;refine fR Z ?_;refine Mid.zb Z Z Z h1 Z Z ?_;refine fM Z ?_;refine Mid.call (hcall) Z Z Z Z ?_;skip;refine apM z4.enc B N Z Z Z Z Z ?_ (h1:=by first |omega|(simp;omega)|(simp;done)) (h2:=by first |omega|(simp;omega)|(simp;done));refine fM rfl ?_;refine aL rfl rfl rfl rfl rfl ?_;refine fM rfl ?_;exact zl 2 rfl (ih (B++N) (by rw [←hB];simp)) rfl rfl rfl
  ·have hk':¬ t.kind=1:=by simpa using hk
   simp only [W6] at hB hlen;rw [w0g hk'] at hB hlen;simp only [w03] at hlen;refine fR Z ?_;refine Run.cond Z Z (fun hk3=>?_) (fun hk3=>?_)
   ·have hk3':t.kind=3:=by simpa using hk3
    rw [w0e hk3'] at hB hlen;have hcall:=zaz H ds hD t ht (by omega);generalize unL ds t [] t.members=N at hB hlen hcall;refine fR Z ?_;refine Mid.zb Z Z Z h1 Z Z ?_;refine fM Z ?_;refine Mid.call (hcall) Z Z Z Z ?_;skip;refine apM z4.enc B N Z Z Z Z Z ?_ (h1:=by first |omega|(simp;omega)|(simp;done)) (h2:=by first |omega|(simp;omega)|(simp;done));refine fM rfl ?_;refine aL rfl rfl rfl rfl rfl ?_;refine fM rfl ?_;exact zl 2 rfl (ih (B++N) (by rw [←hB];simp)) rfl rfl rfl
   ·have hk3':¬ t.kind=3:=by simpa using hk3
    rw [w0g hk3'] at hB;refine fR Z ?_;refine aL Z Z Z Z Z ?_;refine fM Z ?_;exact zl 2 Z (ih B (by rw [←hB];simp)) Z Z Z
end Go.GB.C11
namespace Go.GB.C24
open Go.GB Go.GB.C11
structure zX (P:Program):Prop where
 p13:z0h P
 p35:C35.Pr P
 pR:C29.PrR P
 mixed:P.follows .mixedOrders=true
 i3:z9 P 3=some (n3,c3.bare,r3)
 i4:z9 P 4=some (n4,c4.bare,r4)
 i7:z9 P 7=some (n7,c7.bare,r7)
 i8:z9 P 8=some (n8,c8.bare,r8)
 i9:z9 P 9=some (n9,c9.bare,r9)
 i10:z9 P 10=some (n10,c10.bare,r10)
 i11:z9 P 11=some (n11,c11.bare,r11)
 i14:z9 P 14=some (n14,c14.bare,r14)
 i16:z9 P 16=some (n16,c16.bare,r16)
 i19:z9 P 19=some (n19,c19.bare,r19)
 i21:z9 P 21=some (n21,c21.bare,r21)
 i26:z9 P 26=some (n26,c26.bare,r26)
 i27:z9 P 27=some (n27,c27.bare,r27)
 i29:z9 P 29=some (n29,c29.bare,r29)
 i30:z9 P 30=some (n30,c30.bare,r30)
 i31:z9 P 31=some (n31,c31.bare,r31)
 i34:z9 P 34=some (n34,c34.bare,r34)
 i35:z9 P 35=some (n35,c35.bare,r35)
 i37:z9 P 37=some (n37,c37.bare,r37)
 i38:z9 P 38=some (n38,c38.bare,r38)
 i39:z9 P 39=some (n39,c39.bare,r39)
 i40:z9 P 40=some (n40,c40.bare,r40)
 i52:z9 P 52=some (n52,c52.bare,r52)
 i54:z9 P 54=some (n54,c54.bare,r54)
 i55:z9 P 55=some (n55,c55.bare,r55)
 i68:z9 P 68=some (n68,c68.bare,r68)
 i69:z9 P 69=some (n69,c69.bare,r69)
 i71:z9 P 71=some (n71,c71.bare,r71)
 i72:z9 P 72=some (n72,c72.bare,r72)
 i73:z9 P 73=some (n73,c73.bare,r73)
 i74:z9 P 74=some (n74,c74.bare,r74)
 i75:z9 P 75=some (n75,c75.bare,r75)
 i81:z9 P 81=some (n81,c81.bare,r81)
 i82:z9 P 82=some (n82,c82.bare,r82)
 i83:z9 P 83=some (n83,c83.bare,r83)
 i86:z9 P 86=some (n86,c86.bare,r86)
 i87:z9 P 87=some (n87,c87.bare,r87)
 i89:z9 P 89=some (n89,c89.bare,r89)
 i93:z9 P 93=some (n93,c93.bare,r93)
 i101:z9 P 101=some (n101,c101.bare,r101)
 i121:z9 P 121=some (n121,c121.bare,r121)
 i122:z9 P 122=some (n122,c122.bare,r122)
 i123:z9 P 123=some (n123,c123.bare,r123)
 i124:z9 P 124=some (n124,c124.bare,r124)
 i126:z9 P 126=some (n126,c126.bare,r126)
 i127:z9 P 127=some (n127,c127.bare,r127)
 i128:z9 P 128=some (n128,c128.bare,r128)
 i129:z9 P 129=some (n129,c129.bare,r129)
 i130:z9 P 130=some (n130,c130.bare,r130)
 i131:z9 P 131=some (n131,c131.bare,r131)
 i132:z9 P 132=some (n132,c132.bare,r132)
 i133:z9 P 133=some (n133,c133.bare,r133)
 i134:z9 P 134=some (n134,c134.bare,r134)
 i138:z9 P 138=some (n138,c138.bare,r138)
 i139:z9 P 139=some (n139,c139.bare,r139)
 i160:z9 P 160=some (n160,c160.bare,r160)
 i161:z9 P 161=some (n161,c161.bare,r161)
 i162:z9 P 162=some (n162,c162.bare,r162)
 i163:z9 P 163=some (n163,c163.bare,r163)
 i164:z9 P 164=some (n164,c164.bare,r164)
 i165:z9 P 165=some (n165,c165.bare,r165)
 i166:z9 P 166=some (n166,c166.bare,r166)
 i167:z9 P 167=some (n167,c167.bare,r167)
 i168:z9 P 168=some (n168,c168.bare,r168)
 i177:z9 P 177=some (n177,c177.bare,r177)
variable {P:Program}
def wZ (n:Str):Bool:=n==[107,101,121]||n==[101,120,116,101,114,110,97,108]||n==[115,104,97,114,101,97,98,108,101]||n==[114,101,113,117,105,114,101,115]||n==[112,114,111,118,105,100,101,115]
def ZO {α:Type} (p:α->α->Bool):List α->List α->Bool
 |[],[]=>true
 |a::r,b::s=>p a b&&ZO p r s
 |_,_=>false
theorem z7l {α:Type} {p:α->α->Bool}:∀{a b:List α},ZO p a b=true->a.length=b.length
 |[],[],_=>rfl
 |a::r,b::s,h=>by
  simp only [ZO,w07] at h;simp [z7l h.2]
 |[],b::s,h=>by simp [ZO] at h
 |a::r,[],h=>by simp [ZO] at h
theorem z1a {α:Type} {p:α->α->Bool} {a b:List α} (h:¬ a.length=b.length):ZO p a b=false:=by
 cases e:ZO p a b
 ·rfl
 ·exact absurd (z7l e) h
def eqA (a b:Arg):Bool:=a.name==b.name&&C35.z2p a.val b.val
def eqD (a b:Dir):Bool:=a.name==b.name&&ZO eqA a.args b.args
def eqM (a b:zh):Bool:=a.name==b.name&&ZO eqD a.zg b.zg
def alike (a b:Input):Bool:=W8 a.ty b.ty&&a.has==b.has&&C35.z2p a.YL b.YL
def eqI (a b:Input):Bool:=a.name==b.name&&alike a b&&ZO eqD a.zg b.zg
theorem z7e (H:zX P) (a b:List Arg) (ha:a.length<=140737488355328) (hb:b.length<=140737488355328) (hao:∀x,x∈a->x.Ok) (hbo:∀x,x∈b->x.Ok):z6 P 101 [.t (.lst (a.map Arg.enc)),.t (.lst (b.map Arg.enc))] ⟨[],0⟩ {v:= .t (.bool (ZO eqA a b))}:=by
 refine z6.run H.i101 H.mixed Z Z ?_;refine fR Z ?_;refine lM Z Z Z ?_;refine fM Z ?_;refine lM Z Z Z ?_;refine fM Z ?_;refine Run.cond Z Z (fun h=>?_) (fun h=>?_)
 ·have h':¬ a.length=b.length:=by simp at h;omega
  refine fR Z ?_;refine Run.fin Z (z3.go ?_);exact .t (by rw [z1a h'])
 ·have h':a.length=b.length:=by simp at h;omega
  refine fR Z ?_;refine zu a (fun i (_:Unit)=>{env:=[(0,.t (.lst (a.map Arg.enc))),(1,.t (.lst (b.map Arg.enc))),(5,.t (.int .i64 i))],s:=⟨[],0⟩}) (fun r i _=>ZO eqA a b=ZO eqA r (b.drop i)) 0 () Z (by simp) Z Z Z ?_ ?_
  ·intro _ hinv;refine fR Z ?_;refine lM Z Z Z ?_;refine fM Z ?_;refine Run.ze Z Z (by simp) ?_;refine fR Z ?_;refine Run.fin Z (z3.go ?_);exact .t (by rw [hinv,w1m (by omega)];rfl)
  ·intro i x r _ h1 hi hd hinv ih;obtain ⟨y,hy⟩:=Y3 h' hi;have hxo:=hao x (zMG h1);have hyo:=hbo y (zMG hy);have hinv':ZO eqA a b=ZO eqA (x::r) (b.drop i):=hinv;rw [C11.y9 hy] at hinv';have hinv':ZO eqA a b=(eqA x y&&ZO eqA r (b.drop (i+1))):=hinv';have hs0:=C35.z78 H.p35 x.val y.val hxo hyo;refine fR Z ?_;refine lM Z Z Z ?_;refine fM Z ?_;refine Run.zf Z Z (by simp;omega) ?_;refine fR Z ?_;refine Mid.zb Z Z Z h1 Z Z ?_;refine fM Z ?_;refine Mid.zb Z Z Z hy Z Z ?_;refine fM Z ?_;refine elG Z Z Z Z h1 Z Z ?_;refine fM Z ?_;refine elG Z Z Z Z hy Z Z ?_;refine fM Z ?_;refine caG Z Z (fun hg=>⟨_,rfl,hs0,rfl⟩) Z Z ?_;refine fM Z ?_;refine Run.cond Z Z (fun hc=>?_) (fun hc=>?_)
   ·have hc':eqA x y=false:=Bool.eq_false_iff.2 fun e=>by simp only [eqA,w07,beq_iff_eq] at e;simp [e] at hc
    refine fR Z ?_;refine Run.fin Z (z3.go ?_);exact .t (by rw [hinv',hc'];rfl)
   ·have hc':eqA x y=true:=by simp only [eqA];simpa using hc
    refine fR Z ?_;refine aL Z Z Z Z Z ?_;refine fM Z ?_;exact zl 0 Z (ih () (by rw [hinv',hc'];rfl)) Z Z Z
theorem QM (H:zX P) (a b:List Dir) (ha:a.length<=140737488355328) (hb:b.length<=140737488355328) (hao:∀x,x∈a->x.Ok) (hbo:∀x,x∈b->x.Ok):z6 P 52 [.t (.lst (a.map Dir.enc)),.t (.lst (b.map Dir.enc))] ⟨[],0⟩ {v:= .t (.bool (ZO eqD a b))}:=by
 refine z6.run H.i52 H.mixed Z Z ?_;refine fR Z ?_;refine lM Z Z Z ?_;refine fM Z ?_;refine lM Z Z Z ?_;refine fM Z ?_;refine Run.cond Z Z (fun h=>?_) (fun h=>?_)
 ·have h':¬ a.length=b.length:=by simp at h;omega
  refine fR Z ?_;refine Run.fin Z (z3.go ?_);exact .t (by rw [z1a h'])
 ·have h':a.length=b.length:=by simp at h;omega
  refine fR Z ?_;refine zu a (fun i (_:Unit)=>{env:=[(0,.t (.lst (a.map Dir.enc))),(1,.t (.lst (b.map Dir.enc))),(5,.t (.int .i64 i))],s:=⟨[],0⟩}) (fun r i _=>ZO eqD a b=ZO eqD r (b.drop i)) 0 () Z (by simp) Z Z Z ?_ ?_
  ·intro _ hinv;refine fR Z ?_;refine lM Z Z Z ?_;refine fM Z ?_;refine Run.ze Z Z (by simp) ?_;refine fR Z ?_;refine Run.fin Z (z3.go ?_);exact .t (by rw [hinv,w1m (by omega)];rfl)
  ·intro i x r _ h1 hi hd hinv ih;obtain ⟨y,hy⟩:=Y3 h' hi;have hxo:=hao x (zMG h1);have hyo:=hbo y (zMG hy);have hinv':ZO eqD a b=ZO eqD (x::r) (b.drop i):=hinv;rw [C11.y9 hy] at hinv';have hinv':ZO eqD a b=(eqD x y&&ZO eqD r (b.drop (i+1))):=hinv';have hs0:=z7e H x.args y.args hxo.l hyo.l hxo.a hyo.a;refine fR Z ?_;refine lM Z Z Z ?_;refine fM Z ?_;refine Run.zf Z Z (by simp;omega) ?_;refine fR Z ?_;refine Mid.zb Z Z Z h1 Z Z ?_;refine fM Z ?_;refine Mid.zb Z Z Z hy Z Z ?_;refine fM Z ?_;refine elG Z Z Z Z h1 Z Z ?_;refine fM Z ?_;refine elG Z Z Z Z hy Z Z ?_;refine fM Z ?_;refine caG Z Z (fun hg=>⟨_,rfl,hs0,rfl⟩) Z Z ?_;refine fM Z ?_;refine Run.cond Z Z (fun hc=>?_) (fun hc=>?_)
   ·have hc':eqD x y=false:=Bool.eq_false_iff.2 fun e=>by simp only [eqD,w07,beq_iff_eq] at e;simp [e] at hc
    refine fR Z ?_;refine Run.fin Z (z3.go ?_);exact .t (by rw [hinv',hc'];rfl)
   ·have hc':eqD x y=true:=by simp only [eqD];simpa using hc
    refine fR Z ?_;refine aL Z Z Z Z Z ?_;refine fM Z ?_;exact zl 0 Z (ih () (by rw [hinv',hc'];rfl)) Z Z Z
theorem z3E (H:zX P) (a b:List zh) (ha:a.length<=140737488355328) (hb:b.length<=140737488355328) (hao:∀x,x∈a->x.Ok) (hbo:∀x,x∈b->x.Ok):z6 P 55 [.t (.lst (a.map zh.enc)),.t (.lst (b.map zh.enc))] ⟨[],0⟩ {v:= .t (.bool (ZO eqM a b))}:=by
 refine z6.run H.i55 H.mixed Z Z ?_;refine fR Z ?_;refine lM Z Z Z ?_;refine fM Z ?_;refine lM Z Z Z ?_;refine fM Z ?_;refine Run.cond Z Z (fun h=>?_) (fun h=>?_)
 ·have h':¬ a.length=b.length:=by simp at h;omega
  refine fR Z ?_;refine Run.fin Z (z3.go ?_);exact .t (by rw [z1a h'])
 ·have h':a.length=b.length:=by simp at h;omega
  refine fR Z ?_;refine zu a (fun i (_:Unit)=>{env:=[(0,.t (.lst (a.map zh.enc))),(1,.t (.lst (b.map zh.enc))),(5,.t (.int .i64 i))],s:=⟨[],0⟩}) (fun r i _=>ZO eqM a b=ZO eqM r (b.drop i)) 0 () Z (by simp) Z Z Z ?_ ?_
  ·intro _ hinv;refine fR Z ?_;refine lM Z Z Z ?_;refine fM Z ?_;refine Run.ze Z Z (by simp) ?_;refine fR Z ?_;refine Run.fin Z (z3.go ?_);exact .t (by rw [hinv,w1m (by omega)];rfl)
  ·intro i x r _ h1 hi hd hinv ih;obtain ⟨y,hy⟩:=Y3 h' hi;have hxo:=hao x (zMG h1);have hyo:=hbo y (zMG hy);have hinv':ZO eqM a b=ZO eqM (x::r) (b.drop i):=hinv;rw [C11.y9 hy] at hinv';have hinv':ZO eqM a b=(eqM x y&&ZO eqM r (b.drop (i+1))):=hinv';have hs0:=QM H x.zg y.zg hxo.l hyo.l hxo.d hyo.d;refine fR Z ?_;refine lM Z Z Z ?_;refine fM Z ?_;refine Run.zf Z Z (by simp;omega) ?_;refine fR Z ?_;refine Mid.zb Z Z Z h1 Z Z ?_;refine fM Z ?_;refine Mid.zb Z Z Z hy Z Z ?_;refine fM Z ?_;refine elG Z Z Z Z h1 Z Z ?_;refine fM Z ?_;refine elG Z Z Z Z hy Z Z ?_;refine fM Z ?_;refine caG Z Z (fun hg=>⟨_,rfl,hs0,rfl⟩) Z Z ?_;refine fM Z ?_;refine Run.cond Z Z (fun hc=>?_) (fun hc=>?_)
   ·have hc':eqM x y=false:=Bool.eq_false_iff.2 fun e=>by simp only [eqM,w07,beq_iff_eq] at e;simp [e] at hc
    refine fR Z ?_;refine Run.fin Z (z3.go ?_);exact .t (by rw [hinv',hc'];rfl)
   ·have hc':eqM x y=true:=by simp only [eqM];simpa using hc
    refine fR Z ?_;refine aL Z Z Z Z Z ?_;refine fM Z ?_;exact zl 0 Z (ih () (by rw [hinv',hc'];rfl)) Z Z Z
theorem zcK (H:zX P) (a b:Input) (ha:a.Ok) (hb:b.Ok):z6 P 93 [Input.v a,Input.v b] ⟨[],0⟩ {v:= .t (.bool (alike a b))}:=by
 have h1:=QI H.p13 a.ty b.ty ha.t hb.t;have h2:=C35.z78 H.p35 a.YL b.YL ha.v hb.v;refine z6.run H.i93 H.mixed Z Z ?_;refine fR Z ?_;refine Mid.call (h1) Z Z Z Z ?_;refine fM Z ?_;refine caG Z Z (fun hg=>⟨_,rfl,h2,rfl⟩) Z Z ?_;refine fM Z ?_;refine Run.fin Z (z3.go ?_);exact .t (by simp [alike])
theorem z4M (H:zX P) (a b:List Input) (ha:a.length<=140737488355328) (hb:b.length<=140737488355328) (hao:∀x,x∈a->x.Ok) (hbo:∀x,x∈b->x.Ok):z6 P 54 [.t (.lst (a.map Input.enc)),.t (.lst (b.map Input.enc))] ⟨[],0⟩ {v:= .t (.bool (ZO eqI a b))}:=by
 refine z6.run H.i54 H.mixed Z Z ?_;refine fR Z ?_;refine lM Z Z Z ?_;refine fM Z ?_;refine lM Z Z Z ?_;refine fM Z ?_;refine Run.cond Z Z (fun h=>?_) (fun h=>?_)
 ·have h':¬ a.length=b.length:=by simp at h;omega
  refine fR Z ?_;refine Run.fin Z (z3.go ?_);exact .t (by rw [z1a h'])
 ·have h':a.length=b.length:=by simp at h;omega
  refine fR Z ?_;refine zu a (fun i (_:Unit)=>{env:=[(0,.t (.lst (a.map Input.enc))),(1,.t (.lst (b.map Input.enc))),(5,.t (.int .i64 i))],s:=⟨[],0⟩}) (fun r i _=>ZO eqI a b=ZO eqI r (b.drop i)) 0 () Z (by simp) Z Z Z ?_ ?_
  ·intro _ hinv;refine fR Z ?_;refine lM Z Z Z ?_;refine fM Z ?_;refine Run.ze Z Z (by simp) ?_;refine fR Z ?_;refine Run.fin Z (z3.go ?_);exact .t (by rw [hinv,w1m (by omega)];rfl)
  ·intro i x r _ h1 hi hd hinv ih;obtain ⟨y,hy⟩:=Y3 h' hi;have hxo:=hao x (zMG h1);have hyo:=hbo y (zMG hy);have hinv':ZO eqI a b=ZO eqI (x::r) (b.drop i):=hinv;rw [C11.y9 hy] at hinv';have hinv':ZO eqI a b=(eqI x y&&ZO eqI r (b.drop (i+1))):=hinv';have hs0:=zcK H x y hxo hyo;have hs1:=QM H x.zg y.zg hxo.l hyo.l hxo.d hyo.d;refine fR Z ?_;refine lM Z Z Z ?_;refine fM Z ?_;refine Run.zf Z Z (by simp;omega) ?_;refine fR Z ?_;refine Mid.zb Z Z Z h1 Z Z ?_;refine fM Z ?_;refine Mid.zb Z Z Z hy Z Z ?_;refine fM Z ?_;refine elG Z Z Z Z h1 Z Z ?_;refine fM Z ?_;refine elG Z Z Z Z hy Z Z ?_;refine fM Z ?_;refine caG Z Z (fun hg=>⟨_,rfl,hs0,rfl⟩) Z Z ?_;refine fM Z ?_;refine elG Z Z Z Z h1 Z Z ?_;refine fM Z ?_;refine elG Z Z Z Z hy Z Z ?_;refine fM Z ?_;refine caG Z Z (fun hg=>⟨_,rfl,hs1,rfl⟩) Z Z ?_;refine fM Z ?_;refine Run.cond Z Z (fun hc=>?_) (fun hc=>?_)
   ·have hc':eqI x y=false:=Bool.eq_false_iff.2 fun e=>by simp only [eqI,w07,beq_iff_eq] at e;simp [e] at hc
    refine fR Z ?_;refine Run.fin Z (z3.go ?_);exact .t (by rw [hinv',hc'];rfl)
   ·have hc':eqI x y=true:=by simp only [eqI];simpa using hc
    refine fR Z ?_;refine aL Z Z Z Z Z ?_;refine fM Z ?_;exact zl 0 Z (ih () (by rw [hinv',hc'];rfl)) Z Z Z
end Go.GB.C24
namespace Go.GB.C24
open Go.GB Go.GB.C11
variable {P:Program}
def YO (n:Str):List Dir->Int->Int
 |[],_=>-1
 |x::r,i=>if (x.name==n)=true then i else YO n r (i+1)
def zh.v (x:zh):V:= .agg [.t (.str x.name),.t (.lst (x.zg.map Dir.enc))]
def zh.zero:zh:=⟨[],[]⟩
theorem zh.wI:zh.zero.Ok:=⟨by decide,by simp [zh.zero],by decide⟩
def zo (n:Str):List zh->Option zh
 |[]=>none
 |d::r=>if (d.name==n)=true then some d else zo n r
theorem ZS {n:Str}:∀{l:List zh} {d:zh},zo n l=some d->d∈l
 |[],d,h=>by simp [zo] at h
 |x::r,d,h=>by
  simp only [zo] at h;split at h
  ·simp at h;simp [h]
  ·exact w0k _ (ZS h)
end Go.GB.C24
namespace Go.GB.C24
open Go.GB Go.GB.C11
variable {P:Program}
def Z3:Nat->List Int->List Int->List Int
 |0,_,_=>[]
 |k+1,u,v=>(if (nnF u&&nnF v)=true then [1] else [])++(if (Zv u&&Zv v)=true then 2::Z3 k (zB u).tail (zB v).tail else [])
theorem z6b {w:List Int} (h:nnF w=true):∃r,w=1::r:=by
 cases w with
 |nil=>cases h
 |cons a r=>simp [nnF] at h;subst h;exact ⟨r,rfl⟩
theorem Yb {w:List Int} (h:Zv w=true):(zB w).tail.length+1+(if nnF w=true then 1 else 0)<=w.length:=by
 obtain ⟨r,hr⟩:=z1h h;by_cases hn:nnF w=true
 ·obtain ⟨q,hq⟩:=z6b hn;have h1:=Qn hn;rw [hr,hq] at h1;simp only [List.tail_cons] at h1;rw [hr,w0e hn,hq,←h1];simp
 ·have h1:=z6c hn;rw [w0g hn,←h1,hr];simp [zB,hr]
theorem z5W:∀(k:Nat) (u v:List Int),(Z3 k u v).length<=u.length
 |0,_,_=>by simp [Z3]
 |k+1,u,v=>by
  have ih:=z5W k (zB u).tail (zB v).tail
  have hn:∀{w:List Int},nnF w=true->1<=w.length:=fun {w} h=>by obtain ⟨r,rfl⟩:=z6b h;simp
  simp only [Z3,w03]
  have g1:(if (nnF u&&nnF v)=true then [(1:Int)] else []).length<=if nnF u=true then 1 else 0:=by
   cases nnF u<;>cases nnF v<;>simp
  have g2:(if (Zv u&&Zv v)=true then 2::Z3 k (zB u).tail (zB v).tail else []).length<=if Zv u=true then (Z3 k (zB u).tail (zB v).tail).length+1 else 0:=by
   cases Zv u<;>cases Zv v<;>simp
  have h0:(if nnF u=true then 1 else 0)<=u.length:=by
   split
   ·rename_i h;exact hn h
   ·omega
  by_cases hl:Zv u=true
  ·have h2:=Yb hl;rw [w0e hl] at g2;omega
  ·rw [w0g hl] at g2;omega
def yq (a b:Ref):Ref:=if Zz a b=true then ⟨a.name,Z3 (a.za.length+1) a.za b.za⟩ else ⟨[],[]⟩
theorem z0v:∀(k j:Nat) (u v:List Int),u.length<k->u.length<j->Z3 k u v=Z3 j u v
 |0,_,_,_,h,_=>by omega
 |_,0,_,_,_,h=>by omega
 |k+1,j+1,u,v,h,h'=>by
  simp only [Z3];by_cases hl:Zv u=true
  ·have:=Yb hl;rw [z0v k j (zB u).tail (zB v).tail (by omega) (by omega)]
  ·have hl':Zv u=false:=by simpa using hl
   simp [hl']
end Go.GB.C24
namespace Go.GB
section
variable {P:Program} {n m:Nat} {R:St->Prop}
variable {draw:Bool} {all:List AO} {after:List (List Nat)} {live:List Nat} {k:List It} {b:Nat} {fl:List (Bool×Bool)} {ops:List AO} {st st':St} {d:Option Nat} {b':Nat}
theorem Mid.z9t {sz q ver off len:Nat} {z:List V} {x:Ar} {cs cs':List V} (hx:x.u st= .gsl q ver off len sz) (hq:zj st.s.sto q=some (.gro ver cs)) (ho:off+len*sz<=cs.length) (hcs:setAt cs off (List.replicate len z).flatten=cs')
  (hst:wA b st d {v:= .top,ob:=[(q,.gro ver cs')],rd:=true} (fun b' st'=>some (b',st'))=some (b',st'))
  (h':Mid P n m R draw all after live k b' ((true,true)::fl) ops st'):Mid P n m R draw all after live k b fl (⟨d,none,.nw (.zcc sz z x)⟩::ops) st:=by
 subst hcs;simp only [yr,w00,w05] at hst;obtain ⟨rfl,rfl⟩:=hst;exact Mid.opY Z (.z9t hx hq Z ho) h'
end
theorem zA.app {m m':Nat} {a b c d:List V} (h:zA m m' a b) (k:zA m m' c d):zA m m' (a++c) (b++d):=by
 induction h with
 |nil=>exact k
 |cons h _ ih=>exact .cons h ih
theorem z3p:∀(vs cs:List V) (off:Nat),off+vs.length=cs.length->setAt cs off vs=cs.take off++vs
 |[],cs,off,h=>by simp at h;simp [setAt,h]
 |v::r,cs,off,h=>by
  simp only [setAt];simp only [w0d] at h;rw [z3p r (cs.set off v) (off+1) (by simp;omega)];apply w22;intro i;by_cases h1:i<off
  ·rw [w0a (by simp;omega),w0a (by simp;omega),w0p,w0p,w0e (by omega),w0e h1,w1q,w0g (by omega)]
  ·by_cases h2:i=off
   ·subst h2;rw [w0a (by simp;omega),w0b (by simp;omega),w0p,w0e (by omega),w1q,w0e rfl,w0e (by omega)];simp [Nat.min_eq_left (show i<=cs.length by omega)]
   ·rw [w0b (by simp;omega),w0b (by simp;omega)];simp only [w26,List.length_set];rw [Nat.min_eq_left (by omega),Nat.min_eq_left (by omega)]
    have:i - off=(i - (off+1))+1:=by omega
    rw [this];simp
theorem zeU {α:Type} {f:α->List V} {sz:Nat} (h:∀x,(f x).length=sz) (l:List α) (j:Nat):(gE f l).take (j*sz)=gE f (l.take j):=by
 by_cases hj:j<=l.length
 ·have e:gE f l=gE f (l.take j)++gE f (l.drop j):=by rw [←z2i,List.take_append_drop]
  have hl:(gE f (l.take j)).length=j*sz:=by rw [wF h];simp [Nat.min_eq_left hj]
  rw [e,←hl,List.take_left]
 ·rw [w1l (by rw [wF h];exact w0s _ (by omega)),w1l (by omega)]
end Go.GB
namespace Go.GB.C24
open Go.GB Go.GB.C11
variable {P:Program}
theorem YP:∀l:List Int,loose l=l.filter fun x=>!(x==1)
 |[]=>rfl
 |x::r=>by
  simp only [loose,List.filter_cons,YP r,bne]
theorem z7Y (H:zX P) (x:Int):z6 P 167 [.t (.int .i64 x)] ⟨[],0⟩ {v:= .t (.bool (x==1))}:=by
 refine z6.run H.i167 H.mixed Z Z ?_;refine fR Z ?_;refine Run.fin Z (z3.go ?_);exact .t Z
def z5k (l:List Int):Int:=match l.findIdx? (fun x=>x==1) with|some i=>i|none=>-1
theorem gB (m:Nat) (A:List Int):V.bds m (gE (gT nE) A)=true:=V.z8D (fun x=>by simp [gT,nE,V.bds,V.bd]) A
theorem zfp (A:List Int):Z1 1 [(0,.gro 1 (gE (gT nE) A))]=true:=by simp [Z1,zd.bd,gB]
theorem zbk (H:zX P) (l:List Int) (hl:l.length<=140737488355328):z6 P 177 [.gsl 0 1 0 l.length 1,.t (.fn 167)] ⟨[(0,.gro 1 (gE (gT nE) l))],1⟩ {v:= .t (.int .i64 (z5k l)),rd:=true}:=by
 have hb:=zfp l;refine z6.run H.i177 H.mixed Z Z ?_;refine fR Z ?_;refine pu Z ?_;refine fM Z ?_;refine zu l (fun i (_:Unit)=>{env:=[(0,.gsl 0 1 0 l.length 1),(1,.t (.fn 167)),(7,.t (.int .i64 l.length)),(8,.t (.int .i64 i))],s:=⟨[(0,.gro 1 (gE (gT nE) l))],1⟩}) (fun r i _=>l.findIdx? (fun x=>x==1)=((l.drop i).findIdx? (fun x=>x==1)).map (· +i)) 1 () Z (by simp) Z Z Z ?_ ?_
 ·intro _ hinv;rw [List.drop_length] at hinv;simp only [List.findIdx?_nil,Option.map_none] at hinv
  have e:z5k l=-1:=by simp only [z5k,hinv]
  rw [e];refine fR Z ?_;refine Run.ze Z Z (by simp) ?_;refine fR Z ?_;refine Run.fin Z (z3.we Z Z Z hb (.t Z))
 ·intro i x r _ h1 hi hd hinv ih;have hdr:l.drop i=x::l.drop (i+1):=C11.y9 h1;rw [hdr,List.findIdx?_cons] at hinv;refine fR Z ?_;refine Run.zf Z Z (by simp;omega) ?_;refine fR Z ?_;refine pu Z ?_;refine Mid.ldG (i) 0 (sz:=1) Z Z (by omega) (by omega) (qE (fun _=>rfl)) (h1) Z Z ?_;skip;refine Mid.z0V Z (z7Y H x) Z Z Z Z ?_;refine fM Z ?_;by_cases hc:(x==1)=true
  ·rw [w0e hc] at hinv
   have e:z5k l=i:=by simp [z5k,hinv]
   rw [e];refine Run.zf Z Z hc ?_;refine fR Z ?_;refine Run.fin Z (z3.we Z Z Z hb (.t Z))
  ·rw [w0g hc] at hinv;refine Run.ze Z Z (by simpa using hc) ?_;refine fR Z ?_;refine aL Z Z Z Z Z ?_;refine fM Z ?_;exact zl 1 Z (ih () (by rw [hinv,Option.map_map];congr 1;funext y;simp;omega)) Z Z Z
theorem z60 {m m':Nat}:∀k:Nat,zA m m' (List.replicate k [V.t (.int .i64 0)]).flatten (gE (gT nE) (List.replicate k 0))
 |0=> .nil
 |k+1=>by
  have ih:=z60 (m:=m) (m':=m') k;simp only [List.replicate_succ,w1r,gE,w0n] at ih⊢;exact .cons .t ih
structure z74 (l:List Int) (i:Nat) (A:List Int) (j:Nat):Prop where
 len:A.length=l.length
 tk:A.take j=loose (l.take i)
 dr:A.drop i=l.drop i
 ji:j<i
 jl:j=(loose (l.take i)).length
theorem z0I (a:List Int) (x:Int):loose (a++[x])=loose a++(if (x==1)=true then [] else [x]):=by
 rw [YP,YP,List.filter_append];congr 1
 by_cases h:(x==1)=true<;>simp_all
theorem z74.skip {l A:List Int} {i j:Nat} {x:Int} (h:z74 l i A j) (hx:l[i]?=some x) (hb:(x==1)=true):z74 l (i+1) A j:=by
 have e:loose (l.take (i+1))=loose (l.take i):=by
  rw [w1f,hx];show loose (l.take i++[x])=_;rw [z0I,w0e hb,w1j]
 refine ⟨h.len,by rw [e,h.tk],?_,by have:=h.ji;omega,by rw [e];exact h.jl⟩
 have:=congrArg (List.drop 1) h.dr;simpa [w2c] using this
theorem z74.ZX {l A:List Int} {i j:Nat} {x:Int} (h:z74 l i A j) (hx:l[i]?=some x) (hb:¬ (x==1)=true):z74 l (i+1) (A.set j x) (j+1):=by
 have hil:=(w02.1 hx).1;have hji:=h.ji;have hAl:=h.len
 have e:loose (l.take (i+1))=loose (l.take i)++[x]:=by
  rw [w1f,hx];show loose (l.take i++[x])=_;rw [z0I,w0g hb]
 refine ⟨by simp [h.len],?_,?_,by omega,by rw [e,w03,←h.jl];rfl⟩
 ·rw [e,←h.tk,w1f,List.take_set_of_le (w09 _),List.getElem?_set_self (by omega)];rfl
 ·rw [List.drop_set_of_lt (by omega)];have:=congrArg (List.drop 1) h.dr;simpa [w2c] using this
theorem zbx (H:zX P) (l:List Int) (hl:l.length<=17592186044416):z6 P 166 [.gsl 0 1 0 l.length 1,.t (.fn 167)] ⟨[(0,.gro 1 (gE (gT nE) l))],1⟩ {v:= .gsl 0 1 0 (loose l).length 1,ob:=[(0,.gro 1 (gE (gT nE) (loose l++List.replicate (l.length - (loose l).length) 0)))],n:=0,rd:=true}:=by
 have hb:=zfp l;have hgl:=z1H l;have hi:=zbk H l (by omega);unfold z5k at hi
 cases hx:l.findIdx? (fun x=>x==1) with
 |none=>
  rw [hx] at hi
  have e:loose l=l:=by
   rw [YP];refine List.filter_eq_self.2 fun y hy=>?_;have:=List.findIdx?_eq_none_iff.1 hx y hy;simp at this⊢;exact this
  rw [e,Nat.sub_self];refine z6.run H.i166 H.mixed Z Z ?_;refine fR Z ?_;refine Mid.z7a (hi) Z Z hb Z ?_;refine fM Z ?_;refine Run.zf Z Z Z ?_;refine fR Z ?_;refine Run.fin Z (z3.chg Z Z ?_ ?_)
  ·exact .le (.same Z)
  ·exact ⟨.inl ⟨w11 Z,_,rfl,.gro (.gE (by simp) fun _=>rfl)⟩,trivial⟩
 |some k=>
  rw [hx] at hi;obtain ⟨hk,hk2,hk3⟩:=List.findIdx?_eq_some_iff_getElem.1 hx;have hx0:l[k]?=some l[k]:=w0f hk
  have g0:loose (l.take k)=l.take k:=by
   rw [YP];refine List.filter_eq_self.2 fun y hy=>?_;obtain ⟨j,hj1,hj2⟩:=List.getElem_of_mem hy;rw [w26] at hj1;have:=hk3 j (by omega);rw [List.getElem_take] at hj2;rw [hj2] at this;simpa using this
  have hD0:z74 l (k+1) l k:=by
   have e:loose (l.take (k+1))=l.take k:=by
    rw [w1f,hx0];show loose (l.take k++[l[k]])=_;rw [z0I,g0,w0e hk2,w1j]
   exact ⟨rfl,e.symm,rfl,by omega,by rw [e];simp;omega⟩
  refine z6.run H.i166 H.mixed Z Z ?_;refine fR Z ?_;refine Mid.z7a (hi) Z Z hb Z ?_;refine fM Z ?_;refine Run.ze Z Z (by simp) ?_;refine fR Z ?_;refine aL Z Z Z Z Z ?_;refine fM Z ?_;refine zu (l.drop (k+1)) (fun i (B:List Int×Nat)=>{env:=[(0,.gsl 0 1 0 l.length 1),(1,.t (.fn 167)),(5,.t (.int .i64 B.2)),(6,.t (.int .i64 (k+1+i:Nat)))],s:=⟨[(0,.gro 1 (gE (gT nE) B.1))],1⟩}) (fun r i B=>z74 l (k+1+i) B.1 B.2) 1 (l,k) Z hD0 Z Z Z ?_ ?_
  ·rintro ⟨A,j⟩ hinv;dsimp only at hinv;dsimp only
   have hlen:k+1+(l.drop (k+1)).length=l.length:=by simp;omega
   have hdl:(l.drop (k+1)).length=l.length - (k+1):=by simp
   rw [hlen] at hinv;have hji:=hinv.ji;have hAl:=hinv.len;have htk:=hinv.tk;have hjl:=hinv.jl;rw [List.take_length] at htk hjl;have hz:∀x:Int,(gT nE x).length=1:=qE (fun _=>rfl);refine fR Z ?_;refine pu Z ?_;refine fM Z ?_;refine Run.ze Z Z (by simp;omega) ?_;refine fR Z ?_;refine pu Z ?_;refine Mid.z9t (cs':=gE (gT nE) (A.take j)++(List.replicate (l.length - j) [V.t (.int .i64 0)]).flatten) Z Z ?_ ?_ Z ?_
   ·rw [wF hz];simp;omega
   ·simp only [Int.toNat_natCast,w0y];rw [z3p _ _ _ (by rw [wF hz];simp;omega),zeU hz]
   refine fM Z ?_;refine pu Z ?_;refine fM Z ?_;refine Run.fin Z (z3.chg Z Z ?_ ?_)
   ·exact .le (.z1r Z (by simp) (by simp [hjl]) (w11 Z))
   ·exact ⟨.inl ⟨w11 Z,_,rfl,.gro (by rw [z2i,htk,←hjl];exact .app (.gE rfl fun _=>rfl) (z60 _))⟩,trivial⟩
  ·rintro i x r ⟨A,j⟩ h1 hi' hd hinv ih;dsimp only at hinv;dsimp only;rw [w0z] at h1;have hlt:=(w02.1 h1).1;have hji:=hinv.ji;have hAl:=hinv.len
   have hA1:A[k+1+i]?=some x:=by
    have:=congrArg (fun z=>z[0]?) hinv.dr;simpa [h1] using this
   have hAj:A[j]?=some A[j]:=w0f (by omega);refine fR Z ?_;refine pu Z ?_;refine fM Z ?_;refine Run.zf Z Z (by simp;omega) ?_;refine fR Z ?_;refine pu Z ?_;refine Mid.ldG ((k+1+i)) 0 (sz:=1) Z Z (by omega) (by omega) (qE (fun _=>rfl)) (hA1) Z Z ?_;refine fM Z ?_;refine Mid.z0V Z (z7Y H x) Z Z Z Z ?_;refine fM Z ?_;by_cases hbx:(x==1)=true
   ·refine Run.ze Z Z (by simpa using hbx) ?_;refine fR Z ?_;refine aL Z Z Z Z Z ?_;refine fM Z ?_;exact zl 1 Z (ih (A,j) (hinv.skip h1 hbx)) Z Z Z
   ·refine Run.zf Z Z (by simpa using hbx) ?_;refine fR Z ?_;refine pu Z ?_;refine Mid.stG (x) (j) 0 (sz:=1) Z Z Z Z Z (by omega) (qE (fun _=>rfl)) (hAj) (by decide) Z Z ?_;refine fM Z ?_;refine aL Z Z Z Z Z ?_;refine fM Z ?_;refine aL Z Z Z Z Z ?_;refine fM Z ?_;exact zl 1 Z (ih (A.set j x,j+1) (hinv.ZX h1 hbx)) Z Z Z
end Go.GB.C24
namespace Go.GB.C24
open Go.GB Go.GB.C11
variable {P:Program}
theorem zbs (H:zX P):z6 P 177 [.t (.lst (([]:List Int).map nE)),.t (.fn 167)] ⟨[],0⟩ {v:= .t (.int .i64 (-1))}:=by
 refine z6.run H.i177 H.mixed Z Z ?_;refine fR Z ?_;refine lM Z Z Z ?_;refine fM Z ?_;refine zu ([]:List Int) (fun i (_:Unit)=>{env:=[(0,.t (.lst (([]:List Int).map nE))),(1,.t (.fn 167)),(7,.t (.int .i64 0)),(8,.t (.int .i64 i))],s:=⟨[],0⟩}) (fun r i _=>True) 0 () Z trivial Z Z Z ?_ ?_
 ·intro _ _;refine fR Z ?_;refine Run.ze Z Z (by simp) ?_;refine fR Z ?_;refine Run.fin Z (z3.go ?_);exact .t Z
 ·intro i x r _ h1 hi hd hinv ih;simp at hi
theorem z8X (H:zX P):z6 P 166 [.t (.lst (([]:List Int).map nE)),.t (.fn 167)] ⟨[],0⟩ {v:= .t (.lst (([]:List Int).map nE))}:=by
 refine z6.run H.i166 H.mixed Z Z ?_;refine fR Z ?_;refine Mid.call (zbs H) Z Z Z Z ?_;refine fM Z ?_;refine Run.zf Z Z Z ?_;refine fR Z ?_;refine Run.fin Z (z3.go ?_);exact .t Z
theorem zbU (H:zX P) (a:Int) (r:List Int) (hl:(a::r).length*8<=140737488355328):z6 P 79 [.t (.lst ((a::r).map nE))] ⟨[],0⟩ {v:= .gsl 0 1 0 (a::r).length 1,ob:=[(0,.gro 1 (gE (gT nE) (a::r)))],n:=1,rd:=true}:=by
 have hl2:(a::r).length<=17592186044416:=by omega
 refine z6.run H.p13.i79 H.mixed Z Z ?_;refine fR Z ?_;refine p0 Z ?_;refine fM Z ?_;refine Run.z44 Z Z (fun h=>?_) (fun _=>?_)
 ·have:=h (nE a) (by simp);simp [nE] at this
 ·refine fR Z ?_;refine Mid.zgC (gT nE) (a::r) Z (zft Z (fun _=>rfl)) (zbt _) (by first |omega|(simp;omega)|(simp;done)) (by first |omega|(simp;omega)|(simp;done)) Z ?_;refine fM Z ?_;refine Run.fin Z (z3.chg Z Z ?_ ?_)
  ·exact .le (.same Z)
  ·exact ⟨.inl ⟨w11 Z,_,rfl,.gro (.gE Z fun _=>rfl)⟩,trivial⟩
theorem z7R (H:zX P) (l:List Int) (hl:l.length*8<=140737488355328):z6 P 134 [.t (.lst (l.map nE))] ⟨[],0⟩ {v:= .t (.lst ((loose l).map nE))}:=by
 cases l with
 |nil=>
  refine z6.run H.i134 H.mixed Z Z ?_;refine fR Z ?_;refine Mid.call (qf H.p13.toPr [] (by simp)) Z Z Z Z ?_;skip;refine Mid.call (z8X H) Z Z Z Z ?_;refine fM Z ?_;refine Run.fin Z (z3.go ?_);exact .t Z
 |cons a r=>
  have h1:=zbU H a r hl;generalize a::r=l at*;refine z6.run H.i134 H.mixed Z Z ?_;refine fR Z ?_
  refine Mid.yH [] (h1) Z Z Z Z Z (by repeat' (first |exact trivial|exact rfl|refine And.intro ?_ ?_|exact (congrArg some (zd.ren_mE _ _ _ _ _ _)).symm|exact (congrArg some (zd.ren_cE _ _ _)).symm|(refine (congrArg some (zd.Za ?_ _ _)).symm;intro _;rfl))) Z Z (ob':=[(0,.gro 1 (gE (gT nE) l))]) ((by simp only [z2G,zd.Za (f:=gT nE) (f':=gT nE) (fun _=>rfl)];rfl)) Z Z ?_
  skip
  refine Mid.yH [0] (zbx H l (by omega)) Z Z Z Z (zfp l) (by repeat' (first |exact trivial|exact rfl|refine And.intro ?_ ?_|exact (congrArg some (zd.ren_mE _ _ _ _ _ _)).symm|exact (congrArg some (zd.ren_cE _ _ _)).symm|(refine (congrArg some (zd.Za ?_ _ _)).symm;intro _;rfl))) Z Z (ob':=[(0,.gro 1 (gE (gT nE) (loose l++List.replicate (l.length - (loose l).length) 0)))]) ((by simp only [z2G,zd.Za (f:=gT nE) (f':=gT nE) (fun _=>rfl)];rfl)) Z Z ?_
  refine fM Z ?_;refine Run.fin Z (z3.go ?_);exact LeZ.gE nE (loose l) (w11 Z) Z (by simp) (by simp) (fun _=>rfl)
theorem zaN (H:zX P) (a b:Ref) (ha:a.Ok) (hb:b.Ok):z6 P 75 [a.v,b.v] ⟨[],0⟩ {v:= .t (.bool (Zz a b))}:=by
 have h1:=z1H a.za;have h2:=z1H b.za;have h3:=ha.l;have h4:=hb.l;refine z6.run H.i75 H.mixed Z Z ?_;refine fR Z ?_;refine caG Z Z (fun hg=>⟨_,rfl,z7R H a.za h3,rfl⟩) Z Z ?_;refine fM Z ?_;refine caG Z Z (fun hg=>⟨_,rfl,z7R H b.za h4,rfl⟩) Z Z ?_;skip;refine caG Z Z (fun hg=>⟨_,rfl,z5C H.p13.toPr (loose a.za) (loose b.za) (by omega) (by omega),rfl⟩) Z Z ?_;refine fM Z ?_;refine Run.fin Z (z3.go ?_);exact .t Z
theorem z3w (H:zX P) (a b:Ref) (ha:a.Ok) (hb:b.Ok):z6 P 31 [a.v,b.v] ⟨[],0⟩ {v:= .tup [(yq a b).v,.t (.bool (Zz a b))]}:=by
 have hs:=zaN H a b ha hb;have hal:=ha.l;have hbl:=hb.l
 cases hsh:Zz a b with
 |false=>
  rw [hsh] at hs
  have e:yq a b=⟨[],[]⟩:=by unfold yq;rw [hsh];rfl
  rw [e];refine z6.run H.i31 H.mixed Z Z ?_;refine fR Z ?_;refine Mid.call (hs) Z Z Z Z ?_;refine fM Z ?_;refine Run.zf Z Z Z ?_;refine fR Z ?_;refine Run.fin Z (z3.go ?_);exact .Ys (.agg (.cons (.t Z) (.cons (.nil Z) .nil))) (.t Z)
 |true=>
  rw [hsh] at hs
  have e:yq a b=⟨a.name,Z3 (a.za.length+1) a.za b.za⟩:=by unfold yq;rw [hsh];rfl
  rw [e];refine z6.run H.i31 H.mixed Z Z ?_;refine fR Z ?_;refine Mid.call (hs) Z Z Z Z ?_;refine fM Z ?_;refine Run.ze Z Z Z ?_;refine fR Z ?_
  refine z9k (β:=List Int×List Int×List Int) (fun q=>{env:=[(2,.ptr 0 0),(3,.ptr 1 0),(4,.ptr 2 0),(6,.ptr 3 0)],s:=⟨[(0,.cells [.t (.str a.name),.t (.lst (q.1.map nE))]),(1,.cells [.t (.str b.name),.t (.lst (q.2.1.map nE))]),(2,.cells [.t (.str []),.zC]),(3,.cells [.t (.str a.name),.own 4 1 (q.2.2.map nE)]),(4,.arr q.2.2.length)],5⟩})
   (fun q=>Z3 (a.za.length+1) a.za b.za=q.2.2++Z3 (q.1.length+1) q.1 q.2.1/\q.2.2.length+q.1.length<=a.za.length/\q.2.1.length<=b.za.length) (fun q=>q.1.length) 4 (a.za,b.za,[]) rfl ⟨by simp,by simp,by simp⟩ rfl rfl rfl ?_
  rintro ⟨u,v,B⟩ ⟨hR,hBl,hvl⟩ ih;dsimp only at hR hBl hvl⊢
  have hu:(⟨a.name,u⟩:Ref).Ok:=⟨by show u.length*8<=_;omega,ha.nm⟩
  have hv:(⟨b.name,v⟩:Ref).Ok:=⟨by show v.length*8<=_;omega,hb.nm⟩
  have hna:=zcS H.p13.toPr _ hu;have hnb:=zcS H.p13.toPr _ hv;have hk:Z3 (u.length+1) u v=(if (nnF u&&nnF v)=true then [1] else [])++(if (Zv u&&Zv v)=true then 2::Z3 u.length (zB u).tail (zB v).tail else []):=rfl
  have hu1:nnF u=true->1<=u.length:=fun h=>by obtain ⟨r,rfl⟩:=z6b h;simp
  refine fR Z ?_;refine Mid.call (hna) Z Z Z Z ?_;refine fM Z ?_;refine caG Z Z (fun hg=>⟨_,rfl,hnb,rfl⟩) Z Z ?_;refine fM Z ?_;refine Run.cond Z Z (fun hc=>?_) (fun hc=>?_)
  ·have hc':(nnF u&&nnF v)=true:=by simpa using hc
   rw [w0e hc'] at hk;refine fR Z ?_;have hu2:=hu1 (Bool.and_eq_true_iff.1 hc').1;refine apM nE B [(1:Int)] Z Z Z Z Z ?_ (h1:=by first |omega|(simp;omega)|(simp;done)) (h2:=by first |omega|(simp;omega)|(simp;done));refine fM rfl ?_
   cases hla:Zv u with
   |false=>
    refine Mid.call (Wk H.p13.toPr _ hu hla) Z Z Z Z ?_;refine fM Z ?_
    cases hlb:Zv v with
    |false=>
     refine Mid.call (Wk H.p13.toPr _ hv hlb) Z Z Z Z ?_;refine fM Z ?_
     have hW:Z3 (a.za.length+1) a.za b.za=B++[1]:=by rw [hR,hk,hla,hlb];simp
     refine Run.zf Z Z Z ?_;refine fR Z ?_;refine Run.fin Z (z3.go ?_);exact .Ys (.agg (.cons (.t Z) (.cons (.own (by rw [hW])) .nil))) (.t Z)
    |true=>
     refine Mid.call (Wm H.p13.toPr _ hv hlb) Z Z Z Z ?_;refine fM Z ?_
     have hW:Z3 (a.za.length+1) a.za b.za=B++[1]:=by rw [hR,hk,hla,hlb];simp
     refine Run.zf Z Z Z ?_;refine fR Z ?_;refine Run.fin Z (z3.go ?_);exact .Ys (.agg (.cons (.t Z) (.cons (.own (by rw [hW])) .nil))) (.t Z)
   |true=>
    refine Mid.call (Wm H.p13.toPr _ hu hla) Z Z Z Z ?_;refine fM Z ?_
    cases hlb:Zv v with
    |false=>
     refine Mid.call (Wk H.p13.toPr _ hv hlb) Z Z Z Z ?_;refine fM Z ?_
     have hW:Z3 (a.za.length+1) a.za b.za=B++[1]:=by rw [hR,hk,hla,hlb];simp
     refine Run.zf Z Z Z ?_;refine fR Z ?_;refine Run.fin Z (z3.go ?_);exact .Ys (.agg (.cons (.t Z) (.cons (.own (by rw [hW])) .nil))) (.t Z)
    |true=>
     refine Mid.call (Wm H.p13.toPr _ hv hlb) Z Z Z Z ?_;refine fM Z ?_;have hlt:=Yb hla;have hlv:=Yb hlb;rw [hla,hlb,Bool.and_self,w0e rfl,z0v u.length ((zB u).tail.length+1) (zB u).tail (zB v).tail (by omega) (by omega)] at hk;rw [w0e (Bool.and_eq_true_iff.1 hc').1] at hlt;refine Run.ze Z Z Z ?_;refine fR Z ?_;refine apM nE (B++[1]) [(2:Int)] Z Z Z Z Z ?_ (h1:=by first |omega|(simp;omega)|(simp;done)) (h2:=by first |omega|(simp;omega)|(simp;done));refine fM rfl ?_;exact zl 5 rfl (ih ((zB u).tail,(zB v).tail,B++[1]++[2]) (by show (zB u).tail.length<u.length;omega) ⟨by show _=(B++[1]++[2])++_;rw [hR,hk];simp,by show (B++[1]++[2]).length+(zB u).tail.length<=_;simp only [w03,List.length_singleton];omega,by show (zB v).tail.length<=_;omega⟩) rfl rfl rfl
  ·have hc':¬ (nnF u&&nnF v)=true:=by simpa using hc
   rw [w0g hc'] at hk;refine fR Z ?_
   cases hla:Zv u with
   |false=>
    refine Mid.call (Wk H.p13.toPr _ hu hla) Z Z Z Z ?_;refine fM Z ?_
    cases hlb:Zv v with
    |false=>
     refine Mid.call (Wk H.p13.toPr _ hv hlb) Z Z Z Z ?_;refine fM Z ?_
     have hW:Z3 (a.za.length+1) a.za b.za=B:=by rw [hR,hk,hla,hlb];simp
     refine Run.zf Z Z Z ?_;refine fR Z ?_;refine Run.fin Z (z3.go ?_);exact .Ys (.agg (.cons (.t Z) (.cons (.own (by rw [hW])) .nil))) (.t Z)
    |true=>
     refine Mid.call (Wm H.p13.toPr _ hv hlb) Z Z Z Z ?_;refine fM Z ?_
     have hW:Z3 (a.za.length+1) a.za b.za=B:=by rw [hR,hk,hla,hlb];simp
     refine Run.zf Z Z Z ?_;refine fR Z ?_;refine Run.fin Z (z3.go ?_);exact .Ys (.agg (.cons (.t Z) (.cons (.own (by rw [hW])) .nil))) (.t Z)
   |true=>
    refine Mid.call (Wm H.p13.toPr _ hu hla) Z Z Z Z ?_;refine fM Z ?_
    cases hlb:Zv v with
    |false=>
     refine Mid.call (Wk H.p13.toPr _ hv hlb) Z Z Z Z ?_;refine fM Z ?_
     have hW:Z3 (a.za.length+1) a.za b.za=B:=by rw [hR,hk,hla,hlb];simp
     refine Run.zf Z Z Z ?_;refine fR Z ?_;refine Run.fin Z (z3.go ?_);exact .Ys (.agg (.cons (.t Z) (.cons (.own (by rw [hW])) .nil))) (.t Z)
    |true=>
     refine Mid.call (Wm H.p13.toPr _ hv hlb) Z Z Z Z ?_;refine fM Z ?_;have hlt:=Yb hla;have hlv:=Yb hlb;rw [hla,hlb,Bool.and_self,w0e rfl,z0v u.length ((zB u).tail.length+1) (zB u).tail (zB v).tail (by omega) (by omega)] at hk;refine Run.ze Z Z Z ?_;refine fR Z ?_;refine apM nE (B) [(2:Int)] Z Z Z Z Z ?_ (h1:=by first |omega|(simp;omega)|(simp;done)) (h2:=by first |omega|(simp;omega)|(simp;done));refine fM rfl ?_;exact zl 5 rfl (ih ((zB u).tail,(zB v).tail,B++[2]) (by show (zB u).tail.length<u.length;omega) ⟨by show _=(B++[2])++_;rw [hR,hk];simp,by show (B++[2]).length+(zB u).tail.length<=_;simp only [w03,List.length_singleton];omega,by show (zB v).tail.length<=_;omega⟩) rfl rfl rfl
theorem wy {a b:Ref}:W8 a b=true↔a=b:=by
 cases a;cases b;simp [W8]
def z5V (a b:Ref):Bool:=Zz a b&&W8 (yq a b) b
theorem z6Z {a b:Ref} (ha:a.Ok):(yq a b).Ok:=by
 have h1:=z5W (a.za.length+1) a.za b.za;have h2:=ha.l;unfold yq;split
 ·exact ⟨by show (Z3 (a.za.length+1) a.za b.za).length*8<=_;omega,ha.nm⟩
 ·exact ⟨by simp,by simp⟩
theorem zeI (H:zX P) (a b:Ref) (ha:a.Ok) (hb:b.Ok):z6 P 14 [a.v,b.v] ⟨[],0⟩ {v:= .t (.bool (z5V a b))}:=by
 have h1:=z3w H a b ha hb;have h2:=z0R H.p13.toPr (yq a b) b (z6Z ha) hb;refine z6.run H.i14 H.mixed Z Z ?_;refine fR Z ?_;refine Mid.call (h1) Z Z Z Z ?_;refine fM Z ?_;refine caG Z Z (fun hg=>⟨_,rfl,h2,rfl⟩) Z Z ?_;refine fM Z ?_;refine Run.fin Z (z3.go ?_);exact .t (by simp [z5V])
end Go.GB.C24
namespace Go.GB.C24
open Go.GB Go.GB.C11
variable {P:Program}
section
variable {n m:Nat} {R:St->Prop} {draw:Bool} {all:List AO} {after:List (List Nat)} {live:List Nat} {k:List It} {b:Nat} {fl:List (Bool×Bool)} {ops:List AO} {st st':St} {d:Option Nat}
theorem _root_.Go.GB.Mid.zbT {α:Type} {f:α->List T} {l:List α} {sz:Nat} {z:Int} {s:Nat} {want gc:Bool} {x i:Ar} {v:V} {kd:IntKind} {p1 p2:List Bool} (hg:yD want (look st.env s)=some gc) (hf:gc=false) (hx:rd gc st x=(v,p1)) (hv:v.zw=some (.lst (l.map f))) (hi:rd gc st i=(.t (.int kd z),p2)) (hc:l[z.toNat]?=none)
  (hs:zP st d (.gd false .top) some=some st') (h':Mid P n m R draw all after live k b ((false,false)::fl) ops st'):Mid P n m R draw all after live k b fl (⟨d,some (s,want),.ia sz x i⟩::ops) st:=by
 refine Mid.W4 hg hf ?_ (by simp only [Z2];exact Yc hx hv) hs h';simp only [zk,hx,hi]
 have hn:(l.map f)[z.toNat]?=none:=by rw [w0c,hc];rfl
 cases v<;>simp_all [V.zw]
theorem _root_.Go.GB.Mid.zc3 {α:Type} {f:α->List T} {l:List α} {e:α} {sz:Nat} {z:Int} {s:Nat} {want gc:Bool} {x i:Ar} {v:V} {kd:IntKind} {p1 p2:List Bool} (hg:yD want (look st.env s)=some gc) (hx:rd gc st x=(v,p1)) (hv:v.zw=some (.lst (l.map f))) (hi:rd gc st i=(.t (.int kd z),p2)) (hc:l[z.toNat]?=some e) (hz:gc=true->0<=z) (hl:(Nat.beq (f e).length sz&&!(Nat.beq sz 0))=true)
  (hp1:Zg (p1.map fun p=>!gc||p)) (hp2:Zg (p2.map fun p=>!gc||p)) (hs:zP st d (.gd gc (.t (.ptr (f e)))) some=some st') (h':Mid P n m R draw all after live k b ((false,false)::fl) ops st'):Mid P n m R draw all after live k b fl (⟨d,some (s,want),.ia sz x i⟩::ops) st:=by
 have hl1:(f e).length=sz/\sz≠0:=by
  simp only [w07] at hl;refine ⟨w10 hl.1,?_⟩;rintro rfl;simp at hl
 have hn:(l.map f)[z.toNat]?=some (f e):=by rw [w0c,hc];rfl
 have hev:zk gc st (.ia sz x i)=some (.t (.ptr (f e)),p1++(p2++[decide (0<=z)])):=by
  simp only [zk,hx,hi]
  cases v<;>simp_all [V.zw]
 refine Mid.zbz hg hev (by simp only [Z2];exact Yc hx hv) ?_ hs h';simp only [w24,qB];refine ⟨hp1,hp2,?_⟩
 cases gc with
 |false=>simp [Zg]
 |true=>simp [Zg,hz rfl]
end
structure DL (l:List Dir):Prop where
 n:l.length<=1000000
 d:∀y,y∈l->y.Ok
def Zi:List Dir->List Dir->List Dir
 |out,[]=>out
 |out,x::r=>if (wZ x.name||out.any fun y=>eqD y x)=true then Zi out r else Zi (out++[x]) r
def zG (l:List Dir):List Dir:=Zi [] l
def Zw (a b:List Dir):List Dir:=Zi (zG a) b
theorem ye:∀(l out:List Dir) {x:Dir},x∈Zi out l->x∈out∨x∈l
 |[],out,x,h=> .inl h
 |y::r,out,x,h=>by
  simp only [Zi] at h;split at h
  ·rcases ye r out h with h|h
   ·exact .inl h
   ·exact .inr (w0k _ h)
  ·rcases ye r _ h with h|h
   ·rcases w14.1 h with h|h
    ·exact .inl h
    ·exact .inr (by rw [w1i.1 h];simp)
   ·exact .inr (w0k _ h)
theorem qF:∀(l out:List Dir),(Zi out l).length<=out.length+l.length
 |[],out=>by simp [Zi]
 |y::r,out=>by
  simp only [Zi];split
  ·have:=qF r out;simp;omega
  ·have:=qF r (out++[y]);simp at this⊢;omega
theorem Ya {l:List Dir}:(zG l).length<=l.length:=by
 have:=qF l [];unfold zG;simpa using this
theorem z81 {l:List Dir} (h:DL l):DL (zG l):=⟨w0o Ya h.n,fun y hy=>h.d y (by simpa using ye l [] hy)⟩
theorem zbO {a b:List Dir}:(Zw a b).length<=a.length+b.length:=by
 have h1:=qF b (zG a);have h2:=Ya (l:=a);unfold Zw;omega
theorem z6R {a b:List Dir} (ha:∀y,y∈a->y.Ok) (hb:∀y,y∈b->y.Ok):∀y,y∈Zw a b->y.Ok:=fun y hy=>by
 rcases ye b _ hy with h|h
 ·exact ha y (by simpa using ye a [] h)
 ·exact hb y h
def yh (n:Str):List Dir->Option Dir
 |[]=>none
 |x::r=>if (x.name==n)=true then some x else yh n r
theorem z1R (n:Str):∀(l:List Dir) (i:Nat),(YO n l i=-1/\yh n l=none)∨∃j x,YO n l i=((i+j:Nat):Int)/\l[j]?=some x/\yh n l=some x
 |[],i=> .inl ⟨rfl,rfl⟩
 |y::r,i=>by
  simp only [YO,yh];by_cases h:(y.name==n)=true
  ·rw [w0e h,w0e h];exact .inr ⟨0,y,rfl,rfl,rfl⟩
  ·rw [w0g h,w0g h]
   rcases z1R n r (i+1) with ⟨h1,h2⟩|⟨j,x,h1,h2,h3⟩
   ·exact .inl ⟨h1,h2⟩
   ·exact .inr ⟨j+1,x,by rw [show ((i:Int)+1)=((i+1:Nat):Int) from rfl,h1];congr 1;omega,h2,h3⟩
theorem Wj {n:Str}:∀{l:List Dir} {x:Dir},yh n l=some x->x.name=n/\x∈l
 |[],x,h=>by simp [yh] at h
 |y::r,x,h=>by
  simp only [yh] at h;split at h
  ·rename_i e;simp at h;subst h
   exact ⟨by simpa using e,by simp⟩
  ·exact ⟨(Wj h).1,w0k _ (Wj h).2⟩
theorem z2k {n:Str}:∀{l:List Dir} {x:Dir},x∈l->x.name=n->∃y,yh n l=some y
 |y::r,x,h,e=>by
  simp only [yh];by_cases h2:(y.name==n)=true
  ·exact ⟨y,by rw [w0e h2]⟩
  ·rw [w0g h2]
   rcases w0t.1 h with h|h
   ·subst h;exact absurd (by simp [e]) h2
   ·exact z2k h e
def z4H:Str:=[116,97,103]
def cfl (x y:List Dir) (d:Dir):Bool:=
 d.name !=z4H&&(match yh d.name y,yh d.name x with|some v,some u=>!eqD u v|_,_=>false)
def Z4 (a b:List Dir):Bool:=(zG a).any (cfl (zG a) (zG b))
end Go.GB.C24
namespace Go.GB
section
variable {P:Program} {n m:Nat} {R:St->Prop}
theorem Run.zf9 {β:Type} (stf:β->St) (Good:β->Prop) {k k' k'':List It} {z:Ar} {a b c:zL} {st:St} {t:Bool} (hk:ZW 200 k= .c (.cond z a b)::k') (hk2:ZW 200 k'= .c c::k'') (hz:z.v st= .t (.bool t))
  (hj:∀x,Good x->Run P n m R (.c c::k'') (stf x)) (h1:t=true->(∀x,Good x->Run P n m R (.c c::k'') (stf x))->Run P n m R (.c a::k') st)
  (h2:t=false->(∀x,Good x->Run P n m R (.c c::k'') (stf x))->Run P n m R (.c b::k') st):Run P n m R k st:=
 Run.cond hk hz (fun h=>h1 h hj) (fun h=>h2 h hj)
end
end Go.GB
namespace Go.GB.C24
open Go.GB Go.GB.C11
variable {P:Program}
structure FB (n:Nat) (f:Field):Prop where
 ok:f.Ok
 al:f.args.length<=1000
 dl:f.zg.length<=n
structure DB (n:Nat) (d:Def):Prop where
 ok:d.Ok
 il:d.implements.length<=n
 dl:d.zg.length<=n
 fl:d.fields.length<=n
 f:∀y,y∈d.fields->FB n y
 ml:d.members.length<=1000
 m:∀y,y∈d.members->y.zg.length<=n
 nl:d.zi.length<=1000
theorem FB.d {n:Nat} {f:Field} (h:FB n f) (hn:n<=1000000):DL f.zg:=⟨w0o h.dl hn,h.ok.d⟩
theorem FB.mono {n k:Nat} {f:Field} (h:FB n f) (hn:n<=k):FB k f:=⟨h.ok,h.al,w0o h.dl hn⟩
theorem DB.d {n:Nat} {d:Def} (h:DB n d) (hn:n<=1000000):DL d.zg:=⟨w0o h.dl hn,h.ok.d⟩
theorem DB.md {n:Nat} {d:Def} (h:DB n d) (hn:n<=1000000) {x:zh} (hx:x∈d.members):DL x.zg:=⟨w0o (h.m x hx) hn,(h.ok.m x hx).d⟩
theorem z05 {n:Str}:∀{l:List Field} {d:Field},z5 n l=some d->d∈l
 |[],d,h=>by simp [z5] at h
 |x::r,d,h=>by
  simp only [z5] at h;split at h
  ·cases h;exact w1x ..
  ·exact w0k _ (z05 h)
theorem zdI {n:Nat} {l:List Field} (h:∀y,y∈l->FB n y) (s:Str):FB n ((z5 s l).getD Field.zero):=by
 cases e:z5 s l with
 |none=>exact ⟨Field.wI,by simp [Field.zero],by simp [Field.zero]⟩
 |some x=>exact h x (z05 e)
theorem zez {l:List zh} (h:∀y,y∈l->y.Ok) (s:Str):((zo s l).getD zh.zero).Ok:=by
 cases e:zo s l with
 |none=>exact zh.wI
 |some x=>exact h x (ZS e)
def one (c:Bool) (f:z4):List z4:=if c=true then [f] else []
theorem q7 (c:Bool) (f:z4):(one c f).length<=1:=by unfold one;split<;>simp
theorem z3R (f:z4):one true f=[f]:=rfl
theorem z5o (f:z4):one false f=[]:=rfl
def zE {α:Type} (c:α->Bool) (f:α->z4):List α->List z4
 |[]=>[]
 |x::r=>one (c x) (f x)++zE c f r
theorem ZC {α:Type} (c:α->Bool) (f:α->z4):∀l:List α,(zE c f l).length<=l.length
 |[]=>by simp [zE]
 |x::r=>by
  have h1:=q7 (c x) (f x);have h2:=ZC c f r;simp only [zE,w03,w0d];omega
def yt (l:List Input) (x:Input):Bool:=!(zn x.name l).isSome||!alike ((zn x.name l).getD Input.zero) x
def Yd (l:List Input) (x:Input):Bool:=!(zn x.name l).isSome
def yo (at_:Str) (e:Int) (x:Input):z4:=⟨e,at_++[40]++x.name++[41]⟩
def W5 (a b:Field) (at_:Str):List z4:=
 one (!Zz a.ty b.ty) ⟨10,at_⟩++(zE (yt b.args) (yo at_ 22) a.args++(zE (Yd a.args) (yo at_ 22) b.args++one (Z4 a.zg b.zg) ⟨29,at_⟩))
theorem z8F (a b:Field) (at_:Str):(W5 a b at_).length<=2+a.args.length+b.args.length:=by
 have h1:=q7 (!Zz a.ty b.ty) ⟨10,at_⟩;have h2:=ZC (yt b.args) (yo at_ 22) a.args;have h3:=ZC (Yd a.args) (yo at_ 22) b.args;have h4:=q7 (Z4 a.zg b.zg) ⟨29,at_⟩;simp only [W5,w03];omega
end Go.GB.C24
namespace Go.GB.C24
open Go.GB Go.GB.C11
variable {P:Program}
def zK (n:Str) (e:Int) (s:Str):z4:=⟨e,n++[46]++s⟩
def ym (l:List zh) (n:Str) (x:zh):List z4:=
 if (zo x.name l).isSome=true then one (Z4 x.zg ((zo x.name l).getD zh.zero).zg) (zK n 29 x.name) else [zK n 45 x.name]
def wU (l:List zh) (x:zh):Bool:=!(zo x.name l).isSome
def Wx (a b:Def):List z4:=a.members.flatMap (ym b.members a.name)++zE (wU a.members) (fun y=>zK a.name 45 y.name) b.members
def yy (l:List Input) (n:Str) (x:Input):List z4:=
 if (zn x.name l).isSome=true then (if W8 ((zn x.name l).getD Input.zero).ty x.ty=true then one (!alike ((zn x.name l).getD Input.zero) x) (zK n 22 x.name) else [zK n 10 x.name]) else [zK n 45 x.name]
def QT (a b:Def):List z4:=a.zi.flatMap (yy b.zi a.name)++zE (Yd a.zi) (fun y=>zK a.name 45 y.name) b.zi
def Zk (l:List Field) (n:Str) (x:Field):List z4:=
 if (z5 x.name l).isSome=true then W5 x ((z5 x.name l).getD Field.zero) (n++[46]++x.name) else []
def Ze (l:List Field) (x:Field):Bool:=!(z5 x.name l).isSome
def kF (k:Int) (l:List Field):List Field:=if k=2 then l else []
def WW (a b:Def):List z4:=
 a.fields.flatMap (Zk b.fields a.name)++(zE (Ze b.fields) (fun y=>zK a.name 45 y.name) (kF a.kind a.fields)++zE (Ze a.fields) (fun y=>zK a.name 45 y.name) (kF a.kind b.fields))
theorem z3i (l:List zh) (n:Str) (x:zh):(ym l n x).length<=1:=by
 unfold ym;split
 ·exact q7 _ _
 ·simp
theorem z4k (l:List Input) (n:Str) (x:Input):(yy l n x).length<=1:=by
 unfold yy;split
 ·split
  ·exact q7 _ _
  ·simp
 ·simp
theorem zO {α:Type} {g:α->List z4} {k:Nat}:∀{l:List α},(∀x,x∈l->(g x).length<=k)->(l.flatMap g).length<=l.length*k
 |[],_=>by simp
 |x::r,h=>by
  have h1:=h x (by simp);have h2:=zO (l:=r) (g:=g) (k:=k) fun y hy=>h y (by simp [hy]);simp only [List.flatMap_cons,w03,w0d,w13];omega
theorem Qp {n:Nat} {l:List Field} (hl:∀y,y∈l->FB n y) (s:Str) {x:Field} (hx:FB n x):(Zk l s x).length<=2002:=by
 unfold Zk;split
 ·have h1:=z8F x ((z5 x.name l).getD Field.zero) (s++[46]++x.name);have h2:=(zdI hl x.name).al;have h3:=hx.al;omega
 ·simp
theorem zcQ (k:Int) (l:List Field):(kF k l).length<=l.length:=by unfold kF;split<;>simp
theorem z6w {n:Nat} {a b:Def} (ha:DB n a) (hb:DB n b):(Wx a b).length<=2000:=by
 have h1:=zO (l:=a.members) (g:=ym b.members a.name) fun x _=>z3i _ _ x;have h2:=ZC (wU a.members) (fun y=>zK a.name 45 y.name) b.members;have h3:=ha.ml;have h4:=hb.ml;simp only [Wx,w03];omega
theorem z7O {n:Nat} {a b:Def} (ha:DB n a) (hb:DB n b):(QT a b).length<=2000:=by
 have h1:=zO (l:=a.zi) (g:=yy b.zi a.name) fun x _=>z4k _ _ x;have h2:=ZC (Yd a.zi) (fun y=>zK a.name 45 y.name) b.zi;have h3:=ha.nl;have h4:=hb.nl;simp only [QT,w03];omega
theorem z87 {n:Nat} {a b:Def} (ha:DB n a) (hb:DB n b):(WW a b).length<=2004*n:=by
 have h1:=zO (l:=a.fields) (g:=Zk b.fields a.name) fun x hx=>Qp hb.f _ (ha.f x hx);have h2:=ZC (Ze b.fields) (fun y=>zK a.name 45 y.name) (kF a.kind a.fields);have h3:=ZC (Ze a.fields) (fun y=>zK a.name 45 y.name) (kF a.kind b.fields);have h4:=zcQ a.kind a.fields;have h5:=zcQ a.kind b.fields;have h6:=ha.fl;have h7:=hb.fl;have:a.fields.length*2002<=n*2002:=w0s _ h6;simp only [WW,w03];omega
end Go.GB.C24
namespace Go.GB.C24
open Go.GB Go.GB.C11
variable {P:Program}
def Zs (a b:List Str):List Str:=a++b.filter fun x=>!decide (x∈a)
theorem z0C (a b:List Str):(Zs a b).length<=a.length+b.length:=by
 have:=List.length_filter_le (fun x=>!decide (x∈a)) b;simp only [Zs,w03];omega
def Y5 (l:List Field) (x:Field):Field:=⟨x.name,x.args,match z5 x.name l with|some y=>yq x.ty y.ty|none=>x.ty,Zw x.zg ((z5 x.name l).getD Field.zero).zg⟩
def zH (x:Field):Field:=⟨x.name,x.args,x.ty,zG x.zg⟩
def yz (x:zh):zh:=⟨x.name,zG x.zg⟩
def WO (l:List zh) (x:zh):zh:=⟨x.name,Zw x.zg ((zo x.name l).getD zh.zero).zg⟩
def Zu (a:List Field):List Field->List Field
 |[]=>[]
 |x::r=>if Ze a x=true then zH x::Zu a r else Zu a r
theorem z28 (a:List Field):∀l:List Field,(Zu a l).length<=l.length
 |[]=>by simp [Zu]
 |x::r=>by
  have:=z28 a r
  simp only [Zu];split<;>simp<;>omega
theorem Yw {a:List Field}:∀{l:List Field} {y:Field},y∈Zu a l->∃x,x∈l/\Ze a x=true/\y=zH x
 |[],y,h=>by simp [Zu] at h
 |x::r,y,h=>by
  simp only [Zu] at h;split at h
  ·rename_i e
   rcases w0t.1 h with h|h
   ·exact ⟨x,by simp,e,h⟩
   ·obtain ⟨z,h1,h2⟩:=Yw h
    exact ⟨z,by simp [h1],h2⟩
  ·obtain ⟨z,h1,h2⟩:=Yw h
   exact ⟨z,by simp [h1],h2⟩
def yQ (a b:Def):Def:=⟨a.kind,a.name,Zs a.implements b.implements,Zw a.zg b.zg,a.fields.map (Y5 b.fields)++Zu a.fields b.fields,a.members.map (WO b.members),a.zi⟩
def zZ (a b:Def):List z4:=if a.kind=b.kind then one (Z4 a.zg b.zg) ⟨29,a.name⟩++(WW a b++(Wx a b++QT a b)) else [⟨9,a.name⟩]
def z0D (a b:Def):Def:=if zZ a b=[] then yQ a b else Def.zero
def zW (d:Def):Def:=⟨d.kind,d.name,d.implements,zG d.zg,d.fields.map zH,d.members.map yz,d.zi⟩
theorem z3M {n k:Nat} {a b:List Dir} (ha:a.length<=n) (hb:b.length<=k):(Zw a b).length<=n+k:=by
 have:=zbO (a:=a) (b:=b);omega
theorem zfs {n k:Nat} (hnk:n+k<=1000000) {l:List Field} (hl:∀y,y∈l->FB k y) {x:Field} (hx:FB n x):FB (n+k) (Y5 l x):=by
 have hy:=zdI hl x.name;have hlen:(Y5 l x).zg.length<=n+k:=z3M hx.dl hy.dl;refine ⟨⟨hx.ok.al,hx.ok.a,?_,w0o hlen (by omega),z6R hx.ok.d hy.ok.d,hx.ok.nm⟩,hx.al,hlen⟩;show Ref.Ok (Y5 l x).ty;unfold Y5
 cases z5 x.name l with
 |none=>exact hx.ok.t
 |some y=>exact z6Z hx.ok.t
theorem zdK {n:Nat} {x:Field} (hx:FB n x):FB n (zH x):=by
 have hlen:(zG x.zg).length<=x.zg.length:=Ya;refine ⟨⟨hx.ok.al,hx.ok.a,hx.ok.t,w0o hlen hx.ok.l,fun y hy=>hx.ok.d y (by simpa using ye x.zg [] hy),hx.ok.nm⟩,hx.al,w0o hlen hx.dl⟩
theorem zeF {x:zh} (hx:x.Ok):(yz x).Ok:=⟨w0o Ya hx.l,fun y hy=>hx.d y (by simpa using ye x.zg [] hy),hx.nm⟩
theorem z8C {a b:List Str} {x:Str} (h:x∈Zs a b):x∈a∨x∈b:=by
 rcases w14.1 h with h|h
 ·exact .inl h
 ·exact .inr (List.mem_filter.1 h).1
theorem zdF {k:Nat} {l:List zh} (h:∀y,y∈l->y.zg.length<=k) (s:Str):((zo s l).getD zh.zero).zg.length<=k:=by
 cases e:zo s l with
 |none=>simp [zh.zero]
 |some x=>exact h x (ZS e)
theorem z5P {n k:Nat} (hnk:n+k<=1000000) {a b:Def} (ha:DB n a) (hb:DB k b):DB (n+k) (yQ a b):=by
 have h1:=z0C a.implements b.implements;have h2:=z3M ha.dl hb.dl;have h3:=z28 a.fields b.fields;have hil:=ha.il;have hil2:=hb.il;have hfl:=ha.fl;have hfl2:=hb.fl;have hml:=ha.ml;have hnl:=ha.nl
 have hf:∀y,y∈a.fields.map (Y5 b.fields)++Zu a.fields b.fields->FB (n+k) y:=fun y hy=>by
  rcases w14.1 hy with hy|hy
  ·obtain ⟨x,hx,rfl⟩:=w0m.1 hy;exact zfs hnk hb.f (ha.f x hx)
  ·obtain ⟨x,hx,_,rfl⟩:=Yw hy;exact (zdK (hb.f x hx)).mono (Nat.le_add_left ..)
 have hm:∀y,y∈a.members.map (WO b.members)->y.zg.length<=n+k/\y.Ok:=fun y hy=>by
  obtain ⟨x,hx,rfl⟩:=w0m.1 hy;have hl:(WO b.members x).zg.length<=n+k:=z3M (ha.m x hx) (zdF hb.m x.name)
  exact ⟨hl,⟨by omega,z6R (ha.ok.m x hx).d (zez hb.ok.m x.name).d,(ha.ok.m x hx).nm⟩⟩
 refine ⟨⟨?_,?_,z6R ha.ok.d hb.ok.d,?_,fun y hy=>(hf y hy).ok,?_,fun y hy=>(hm y hy).2,ha.ok.nl,ha.ok.n,ha.ok.nm,fun y hy=>?_⟩,?_,h2,?_,hf,?_,fun y hy=>(hm y hy).1,hnl⟩
 ·show (Zs a.implements b.implements).length<=_;omega
 ·show (Zw a.zg b.zg).length<=_;omega
 ·show (a.fields.map (Y5 b.fields)++Zu a.fields b.fields).length<=_;simp only [w03,w0r];omega
 ·show (a.members.map (WO b.members)).length<=_;simp only [w0r];omega
 ·rcases z8C hy with h|h
  ·exact ha.ok.im y h
  ·exact hb.ok.im y h
 ·show (Zs a.implements b.implements).length<=_;omega
 ·show (a.fields.map (Y5 b.fields)++Zu a.fields b.fields).length<=_;simp only [w03,w0r];omega
 ·show (a.members.map (WO b.members)).length<=_;simp only [w0r];omega
theorem z9R {n:Nat} {a:Def} (ha:DB n a):DB n (zW a):=by
 have h2:(zG a.zg).length<=a.zg.length:=Ya
 have hf:∀y,y∈a.fields.map zH->FB n y:=fun y hy=>by
  obtain ⟨x,hx,rfl⟩:=w0m.1 hy;exact zdK (ha.f x hx)
 have hm:∀y,y∈a.members.map yz->y.zg.length<=n/\y.Ok:=fun y hy=>by
  obtain ⟨x,hx,rfl⟩:=w0m.1 hy;exact ⟨w0o Ya (ha.m x hx),zeF (ha.ok.m x hx)⟩
 refine ⟨⟨ha.ok.il,w0o h2 ha.ok.dl,fun y hy=>ha.ok.d y (by simpa using ye a.zg [] hy),?_,fun y hy=>(hf y hy).ok,?_,fun y hy=>(hm y hy).2,ha.ok.nl,ha.ok.n,ha.ok.nm,ha.ok.im⟩,ha.il,w0o h2 ha.dl,?_,hf,?_,fun y hy=>(hm y hy).1,ha.nl⟩
 ·show (a.fields.map zH).length<=_;rw [w0r];exact ha.ok.fl
 ·show (a.members.map yz).length<=_;rw [w0r];exact ha.ok.ml
 ·show (a.fields.map zH).length<=_;rw [w0r];exact ha.fl
 ·show (a.members.map yz).length<=_;rw [w0r];exact ha.ml
end Go.GB.C24
namespace Go.GB.C24
open Go.GB Go.GB.C11
variable {P:Program}
theorem z0w {n:Nat} {a b:Def} (ha:DB n a) (hb:DB n b):(zZ a b).length<=2004*n+4001:=by
 have h1:=q7 (Z4 a.zg b.zg) ⟨29,a.name⟩;have h2:=z87 ha hb;have h3:=z6w ha hb;have h4:=z7O ha hb;unfold zZ;split
 ·simp only [w03];omega
 ·simp
end Go.GB.C24
namespace Go.GB.C24
open Go.GB Go.GB.C11
variable {P:Program}
structure Gr where
 name:Str
 doc:List Def
def Gr.enc (g:Gr):List T:=[.str g.name,.lst (g.doc.map Def.enc)]
structure GL (gs:List Gr):Prop where
 n:gs.length<=8
 g:∀g,g∈gs->zV g.doc/\g.doc.length<=64/\∀d,d∈g.doc->DB 100 d
def z0e (o:List Str) (n:Str):List Str:=if n∈o then o else o++[n]
def Zr:List Str->List Def->List Str
 |o,[]=>o
 |o,d::r=>Zr (z0e o d.name) r
def ZK:List Str->List Gr->List Str
 |o,[]=>o
 |o,g::r=>ZK (Zr o g.doc) r
def Zo (gs:List Gr):List Str:=ZK [] gs
theorem zco (o:List Str) (n:Str):(z0e o n).length<=o.length+1:=by
 unfold z0e;split<;>simp
theorem z0Y:∀(l:List Def) (o:List Str),(Zr o l).length<=o.length+l.length
 |[],o=>by simp [Zr]
 |d::r,o=>by
  have h1:=zco o d.name;have h2:=z0Y r (z0e o d.name);simp only [Zr,w0d];omega
theorem z0L:∀(l:List Gr) (o:List Str),(∀g,g∈l->g.doc.length<=64)->(ZK o l).length<=o.length+l.length*64
 |[],o,_=>by simp [ZK]
 |g::r,o,h=>by
  have h1:=z0Y g.doc o;have h2:=z0L r (Zr o g.doc) fun x hx=>h x (by simp [hx]);have h3:=h g (by simp);simp only [ZK,w0d];omega
theorem z3B {gs:List Gr} (h:GL gs):(Zo gs).length<=512:=by
 have:=z0L gs [] fun g hg=>(h.g g hg).2.1;have:=h.n;unfold Zo;simp at*;omega
def qw (nm:Str) (g:Gr) (o:Option Def) (B:List z4):Option Def×List z4:=
 match z7 nm g.doc,o with
 |none,o=>(o,B)
 |some d,none=>(some (zW d),B)
 |some d,some x=>if zZ x d=[] then (some (yQ x d),B) else (some x,B++zZ x d)
def ya (nm:Str):List Gr->Option Def->List z4->Option Def×List z4
 |[],o,B=>(o,B)
 |g::r,o,B=>ya nm r (qw nm g o B).1 (qw nm g o B).2
theorem wK {nm:Str} {g:Gr} {o:Option Def} {B:List z4} (h:z7 nm g.doc=none):qw nm g o B=(o,B):=by simp [qw,h]
theorem wR {nm:Str} {g:Gr} {d:Def} {B:List z4} (h:z7 nm g.doc=some d):qw nm g none B=(some (zW d),B):=by simp [qw,h]
theorem WR {nm:Str} {g:Gr} {d x:Def} {B:List z4} (h:z7 nm g.doc=some d) (hb:zZ x d=[]):qw nm g (some x) B=(some (yQ x d),B):=by simp [qw,h,hb]
theorem Ws {nm:Str} {g:Gr} {d x:Def} {B:List z4} (h:z7 nm g.doc=some d) (hb:¬ zZ x d=[]):qw nm g (some x) B=(some x,B++zZ x d):=by simp [qw,h,hb]
def tyD (gs:List Gr) (nm:Str):Def:=(ya nm gs none []).1.getD Def.zero
def tyB (gs:List Gr) (nm:Str):List z4:=(ya nm gs none []).2
theorem DB.mono {n k:Nat} {d:Def} (h:DB n d) (hn:n<=k):DB k d:=⟨h.ok,w0o h.il hn,w0o h.dl hn,w0o h.fl hn,fun y hy=>(h.f y hy).mono hn,h.ml,fun y hy=>w0o (h.m y hy) hn,h.nl⟩
theorem DB.zero (n:Nat):DB n Def.zero:=⟨Def.wI,by simp [Def.zero],by simp [Def.zero],by simp [Def.zero],by simp [Def.zero],by simp [Def.zero],by simp [Def.zero],by simp [Def.zero]⟩
theorem YC {n:Str}:∀{l:List Def} {d:Def},z7 n l=some d->d∈l
 |[],d,h=>by simp [z7] at h
 |x::r,d,h=>by
  simp only [z7] at h;split at h
  ·cases h;exact w1x ..
  ·exact w0k _ (YC h)
theorem z4t (nm:Str):∀(gs:List Gr) (i:Nat) (o:Option Def) (B:List z4),(∀g,g∈gs->∀d,d∈g.doc->DB 100 d)->i+gs.length<=8->DB (100*(i+1)) (o.getD Def.zero)->B.length<=3000000*i->
  DB 900 ((ya nm gs o B).1.getD Def.zero)/\(ya nm gs o B).2.length<=24000000
 |[],i,o,B,_,hi,ho,hB=>⟨ho.mono (by simp at hi;omega),by simp only [ya];simp at hi;omega⟩
 |g::r,i,o,B,hg,hi,ho,hB=>by
  have hg2:∀x,x∈r->∀d,d∈x.doc->DB 100 d:=fun x hx=>hg x (by simp [hx]);simp only [w0d] at hi;simp only [ya]
  cases hf:z7 nm g.doc with
  |none=>
   rw [wK hf];exact z4t nm r (i+1) o B hg2 (by omega) (ho.mono (by omega)) (by omega)
  |some d=>
   have hd:=hg g (by simp) d (YC hf)
   cases o with
   |none=>
    rw [wR hf];exact z4t nm r (i+1) (some (zW d)) B hg2 (by omega) ((z9R hd).mono (by omega)) (by omega)
   |some x=>
    have hx:DB (100*(i+1)) x:=ho;have hl:=z0w hx (hd.mono (by omega));by_cases hb:zZ x d=[]
    ·rw [WR hf hb];exact z4t nm r (i+1) (some (yQ x d)) B hg2 (by omega) ((z5P (by omega) hx hd).mono (by omega)) (by omega)
    ·rw [Ws hf hb];exact z4t nm r (i+1) (some x) (B++zZ x d) hg2 (by omega) (hx.mono (by omega)) (by simp only [w03];omega)
end Go.GB.C24
namespace Go.GB.C24
open Go.GB Go.GB.C11
variable {P:Program}
def wJ (all:List Str) (nm:Str) (g:Gr):Bool:=
 match z7 nm g.doc with
 |none=>true
 |some _=>decide ((Y7 g.doc nm).length=all.length)&&(Y7 g.doc nm).all fun s=>decide (s∈all)
def z6Y (gs:List Gr) (ds:List Def) (nm:Str):Bool:=gs.all (wJ (Y7 ds nm) nm)
def wg (d:Def):Bool:=((decide ((d.implements.length:Int)>64)||decide ((d.fields.length:Int)>64))||decide ((d.zg.length:Int)>16))||((d.fields.any fun f=>decide ((f.zg.length:Int)>16))||d.members.any fun x=>decide ((x.zg.length:Int)>16))
def z2Z (gs:List Gr) (ds:List Def) (d:Def):Bool:=d.kind==2&&!z6Y gs ds d.name
def z0i (gs:List Gr) (ds:List Def):List z4:=
 zE (z2Z gs ds) (fun d=>⟨45,d.name⟩) ds++(one (decide ((ds.length:Int)>64)) ⟨4,[]⟩++zE wg (fun d=>⟨4,d.name⟩) ds)
def yv (gs:List Gr):List Def:=(Zo gs).map (tyD gs)
def z1J (gs:List Gr):List z4:=(Zo gs).flatMap (tyB gs)
def Yt (gs:List Gr):List z4:=if z1J gs=[] then z0i gs (yv gs) else z1J gs
def wm (gs:List Gr):List Def:=if Yt gs=[] then yv gs else []
theorem z3z (gs:List Gr) (ds:List Def):(z0i gs ds).length<=2*ds.length+1:=by
 have h1:=ZC (z2Z gs ds) (fun d=>⟨45,d.name⟩) ds;have h2:=q7 (decide ((ds.length:Int)>64)) ⟨4,[]⟩;have h3:=ZC wg (fun d=>⟨4,d.name⟩) ds;simp only [z0i,w03];omega
theorem zeP {gs:List Gr} (hG:GL gs) (nm:Str):DB 900 (tyD gs nm)/\(tyB gs nm).length<=24000000:=
 z4t nm gs 0 none [] (fun g hg=>(hG.g g hg).2.2) (by have:=hG.n;omega) (DB.zero _) (by simp)
theorem z7b {gs:List Gr} (hG:GL gs):(z1J gs).length<=12288000000:=by
 have h1:=zO (l:=Zo gs) (g:=tyB gs) (k:=24000000) fun x _=>(zeP hG x).2;have h2:=z3B hG;have:(Zo gs).length*24000000<=512*24000000:=w0s _ h2;unfold z1J;omega
theorem z4r {gs:List Gr} (hG:GL gs):(yv gs).length<=512:=by
 unfold yv;rw [w0r];exact z3B hG
theorem zfX {gs:List Gr} (hG:GL gs):∀d,d∈yv gs->DB 900 d:=fun d hd=>by
 obtain ⟨n,_,rfl⟩:=w0m.1 hd;exact (zeP hG n).1
theorem z9G {gs:List Gr} (hG:GL gs):zV (yv gs):=by
 have:=z4r hG
 exact ⟨by omega,fun d hd=>(zfX hG d hd).ok,by omega⟩
end Go.GB.C24
namespace Go.GB.C24
open Go.GB Go.GB.C11
mutual
def cn:Val->Val
 | .mk k i t its ks=> .mk k i t (cns its) ((List.range its.length).map (C35.YF ks))
def cns:List Val->List Val
 |[]=>[]
 |x::r=>cn x::cns r
end
theorem z6h:∀l:List Val,(cns l).length=l.length
 |[]=>rfl
 |x::r=>by simp [cns,z6h r]
theorem zfk (a:Val):cn a= .mk a.kind a.int a.text (cns a.items) ((List.range a.items.length).map (C35.YF a.keys)):=by
 cases a;rfl
theorem zdN:∀k:Nat,(∀a b:Val,SizeOf.sizeOf a<=k->(C35.z0b C35.z5T a b=0↔cn a=cn b))/\
  ∀(l m:List Val) (ka kb:List Str) (j:Nat) (z:Int),SizeOf.sizeOf l<=k->(z=0↔l.length=m.length)->(C35.Yi C35.z5T l m ka kb j z=0↔cns l=cns m/\∀i,i<l.length->C35.YF ka (j+i)=C35.YF kb (j+i))
 |0=>⟨fun a b h=>by cases a;simp at h,fun l m ka kb j z h=>by cases l<;>simp at h⟩
 |k+1=>by
  have ih:=zdN k;refine ⟨fun a b h=>?_,fun l m ka kb j z h hz=>?_⟩
  ·have h2:=ih.2 a.items b.items a.keys b.keys 0 (C35.wQ a.items.length b.items.length) (by cases a;simp only [Val.items];simp only [Val.mk.sizeOf_spec] at h;omega) (by rw [C35.Wg];omega);rw [C35.z19,zfk,zfk];simp only [C35.nz,h2,C35.Wg,C35.z0Z,Val.mk.injEq];constructor
   ·rintro ⟨h1,h3,h4,h5,h6⟩
    have hl:a.items.length=b.items.length:=by have:=congrArg List.length h5;simpa [z6h] using this
    refine ⟨h1,h3,h4,h5,?_⟩;rw [←hl]
    exact w2d fun i hi=>by have:=h6 i (w20.1 hi);simpa using this
   ·rintro ⟨h1,h3,h4,h5,h6⟩
    have hl:a.items.length=b.items.length:=by have:=congrArg List.length h5;simpa [z6h] using this
    refine ⟨h1,h3,h4,h5,fun i hi=>?_⟩;rw [←hl] at h6;have:=List.map_inj_left.1 h6 i (w20.2 hi);simpa using this
  ·cases l with
   |nil=>
    cases m with
    |nil=>simpa [C35.Yi,cns] using hz
    |cons y s=>simpa [C35.Yi,cns] using hz
   |cons x r=>
    cases m with
    |nil=>simpa [C35.Yi,cns] using hz
    |cons y s=>
     have h1:=ih.1 x y (by simp only [List.cons.sizeOf_spec] at h;omega);have h2:=ih.2 r s ka kb (j+1) z (by simp only [List.cons.sizeOf_spec] at h;omega) (by rw [hz];simp);simp only [C35.Yi,C35.nz,h1,h2,C35.z0Z,cns,List.cons.injEq];constructor
     ·rintro ⟨e1,e2,e3,e4⟩;refine ⟨⟨e2,e3⟩,fun i hi=>?_⟩
      cases i with
      |zero=>exact e1
      |succ i=>rw [show j+(i+1)=j+1+i by omega];exact e4 i (by simpa using hi)
     ·rintro ⟨⟨e2,e3⟩,e4⟩
      exact ⟨by simpa using e4 0 (by simp),e2,e3,fun i hi=>by rw [show j+1+i=j+(i+1) by omega];exact e4 (i+1) (by simpa using hi)⟩
theorem z7u (a b:Val):C35.z2p a b=true↔cn a=cn b:=by
 unfold C35.z2p;rw [decide_eq_true_iff];exact (zdN _).1 a b (w09 _)
def cnA (a:Arg):Arg:=⟨a.name,cn a.val⟩
def cnD (d:Dir):Dir:=⟨d.name,d.args.map cnA⟩
def cnM (m:zh):zh:=⟨m.name,m.zg.map cnD⟩
def cnI (x:Input):Input:=⟨x.name,x.ty,x.has,cn x.YL,x.zg.map cnD⟩
def cnL (x:Input):Ref×Bool×Val:=(x.ty,x.has,cn x.YL)
theorem WB {α β:Type} {p:α->α->Bool} {f:α->β} (h:∀a b,p a b=true↔f a=f b):∀a b:List α,ZO p a b=true↔a.map f=b.map f
 |[],[]=>by simp [ZO]
 |[],b::s=>by simp [ZO]
 |a::r,[]=>by simp [ZO]
 |a::r,b::s=>by
  simp only [ZO,w07,w0n,List.cons.injEq,h a b,WB h r s]
theorem zfQ (a b:Arg):eqA a b=true↔cnA a=cnA b:=by
 simp [eqA,cnA,z7u]
theorem WG (a b:Dir):eqD a b=true↔cnD a=cnD b:=by
 simp [eqD,cnD,WB zfQ]
theorem zg7 (a b:zh):eqM a b=true↔cnM a=cnM b:=by
 simp [eqM,cnM,WB WG]
theorem QC (a b:Input):alike a b=true↔cnL a=cnL b:=by
 simp [alike,cnL,z7u,wy,and_assoc]
theorem zfx (a b:Input):eqI a b=true↔cnI a=cnI b:=by
 have h:=QC a b;simp only [cnL,w05] at h;simp only [eqI,cnI,w07,beq_iff_eq,h,WB WG,Input.mk.injEq];constructor
 ·rintro ⟨⟨h1,h2,h3,h4⟩,h5⟩;exact ⟨h1,h2,h3,h4,h5⟩
 ·rintro ⟨h1,h2,h3,h4,h5⟩;exact ⟨⟨h1,h2,h3,h4⟩,h5⟩
theorem Yl (a b:Dir):eqD a b=eqD b a:=by
 rw [w1n,WG,WG];exact eq_comm
theorem z3x (a b:Input):alike a b=alike b a:=by
 rw [w1n,QC,QC];exact eq_comm
theorem zdb (a:Dir):eqD a a=true:=(WG a a).2 rfl
end Go.GB.C24
namespace Go.GB.C24
open Go.GB Go.GB.C11
variable {P:Program}
theorem z3r (H:zX P) (a:List Dir) (ha:a.length<=140737488355328) (hao:∀x,x∈a->x.Ok):z6 P 52 [.t (.lst (a.map Dir.enc)),.t (.lst (a.map Dir.enc))] ⟨[],0⟩ {v:= .t (.bool true)}:=by
 have:=QM H a a ha ha hao hao
 rwa [(WB WG a a).2 rfl] at this
theorem z14 (H:zX P) (a:List Input) (ha:a.length<=140737488355328) (hao:∀x,x∈a->x.Ok):z6 P 54 [.t (.lst (a.map Input.enc)),.t (.lst (a.map Input.enc))] ⟨[],0⟩ {v:= .t (.bool true)}:=by
 have:=z4M H a a ha ha hao hao
 rwa [(WB zfx a a).2 rfl] at this
theorem z4N (H:zX P) (a:List zh) (ha:a.length<=140737488355328) (hao:∀x,x∈a->x.Ok):z6 P 55 [.t (.lst (a.map zh.enc)),.t (.lst (a.map zh.enc))] ⟨[],0⟩ {v:= .t (.bool true)}:=by
 have:=z3E H a a ha ha hao hao
 rwa [(WB zg7 a a).2 rfl] at this
theorem z5w (H:zX P) (a:Ref) (ha:a.Ok):z6 P 53 [a.v,a.v] ⟨[],0⟩ {v:= .t (.bool true)}:=by
 have:=QI H.p13 a a ha ha
 rwa [wy.2 rfl] at this
theorem zaS (H:zX P) (a:List Str) (ha:a.length<=140737488355328):z6 P 51 [.t (.lst (a.map sE)),.t (.lst (a.map sE))] ⟨[],0⟩ {v:= .t (.bool true)}:=by
 have:=qO H.p13.toPr a a ha ha
 rwa [show decide (a=a)=true by simp] at this
theorem z2a (H:zX P) (a:Def) (ha:a.Ok):z6 P 19 [a.v,a.v] ⟨[],0⟩ {v:= .t (.bool true)}:=by
 have hfl:=ha.fl;refine z6.run H.i19 H.mixed Z Z ?_;refine fR Z ?_;refine caG Z Z (fun hg=>⟨_,rfl,zaS H a.implements ha.il,rfl⟩) Z Z ?_;refine fM Z ?_;refine caG Z Z (fun hg=>⟨_,rfl,z3r H a.zg ha.dl ha.d,rfl⟩) Z Z ?_;refine fM Z ?_;refine lMG Z Z Z Z ?_;refine fM Z ?_;refine lMG Z Z Z Z ?_;refine fM Z ?_;refine Run.ze Z Z (by simp) ?_;refine fR Z ?_;refine zu a.fields (fun i (_:Unit)=>{env:=[(2,.ptr 0 0),(3,.ptr 1 0),(5,.t (.int .i64 i))],s:=⟨[(0,(TCo a)),(1,(TCo a))],2⟩}) (fun r i _=>True) 2 () Z trivial Z Z Z ?_ ?_
 ·intro _ _;refine fR Z ?_;refine lM Z Z Z ?_;refine fM Z ?_;refine Run.ze Z Z (by simp) ?_;refine fR Z ?_;refine Mid.call (z4N H a.members ha.ml ha.m) Z Z Z Z ?_;refine fM Z ?_;refine caG Z Z (fun hg=>⟨_,rfl,z14 H a.zi ha.nl ha.n,rfl⟩) Z Z ?_;refine fM Z ?_;refine Run.fin Z (z3.go ?_);exact .t Z
 ·intro i x r _ h1 hi hdr _ ih;have hx:=ha.f x (zMG h1);refine fR Z ?_;refine lM Z Z Z ?_;refine fM Z ?_;refine Run.zf Z Z (by simp;omega) ?_;refine fR Z ?_;refine Mid.zb Z Z Z h1 Z Z ?_;refine fM Z ?_;refine Mid.zb Z Z Z h1 Z Z ?_;refine fM Z ?_;refine caG Z Z (fun hg=>⟨_,rfl,z5w H x.ty hx.t,rfl⟩) Z Z ?_;refine fM Z ?_;refine caG Z Z (fun hg=>⟨_,rfl,z14 H x.args hx.al hx.a,rfl⟩) Z Z ?_;refine fM Z ?_;refine caG Z Z (fun hg=>⟨_,rfl,z3r H x.zg hx.l hx.d,rfl⟩) Z Z ?_;refine fM Z ?_;refine Run.ze Z Z (by simp) ?_;refine fR Z ?_;refine aL Z Z Z Z Z ?_;refine fM Z ?_;exact zl 2 Z (ih () trivial) Z Z Z
theorem zfF (H:zX P) (ds:List Def) (hD:zV ds):z6 P 11 [Y8 ds,Y8 ds] ⟨[],0⟩ {v:= .t (.bool true)}:=by
 have hl:=hD.l;refine z6.run H.i11 H.mixed Z Z ?_;refine fR Z ?_;refine lM Z Z Z ?_;refine fM Z ?_;refine lM Z Z Z ?_;refine fM Z ?_;refine Run.ze Z Z (by simp) ?_;refine fR Z ?_;refine zu ds (fun i (_:Unit)=>{env:=[(2,.ptr 0 0),(3,.ptr 1 0),(5,.t (.int .i64 i))],s:=⟨[(0,.cells [.t (.lst (ds.map Def.enc))]),(1,.cells [.t (.lst (ds.map Def.enc))])],2⟩}) (fun r i _=>True) 2 () Z trivial Z Z Z ?_ ?_
 ·intro _ _;refine fR Z ?_;refine lM Z Z Z ?_;refine fM Z ?_;refine Run.ze Z Z (by simp) ?_;refine fR Z ?_;refine Run.fin Z (z3.go ?_);exact .t Z
 ·intro i x r _ h1 hi hdr _ ih;have hx:=hD.d x (zMG h1);refine fR Z ?_;refine lM Z Z Z ?_;refine fM Z ?_;refine Run.zf Z Z (by simp;omega) ?_;refine fR Z ?_;refine Mid.zb Z Z Z h1 Z Z ?_;refine fM Z ?_;refine Mid.zb Z Z Z h1 Z Z ?_;refine fM Z ?_;refine Mid.call (z2a H x hx) Z Z Z Z ?_;refine fM Z ?_;refine Run.ze Z Z Z ?_;refine fR Z ?_;refine aL Z Z Z Z Z ?_;refine fM Z ?_;exact zl 2 Z (ih () trivial) Z Z Z
end Go.GB.C24
namespace Go.GB.C24
open Go.GB Go.GB.C11
variable {P:Program}
theorem zeg (H:zX P) (a b:Arg) (ha:a.Ok) (hb:b.Ok):z6 P 162 [a.v,b.v] ⟨[],0⟩ {v:= .t (.bool (eqA a b))}:=by
 have h:=C35.z7h H.p35 a.val b.val ha hb;refine z6.run H.i162 H.mixed Z Z ?_;refine fR Z ?_;refine caG Z Z (fun hg=>⟨_,rfl,h,rfl⟩) Z Z ?_;refine fM Z ?_;refine Run.fin Z (z3.go ?_);exact .t (by simp [eqA])
theorem z8E (H:zX P) (a b:List Arg) (ha:a.length<=140737488355328) (hb:b.length<=140737488355328) (hao:∀x,x∈a->x.Ok) (hbo:∀x,x∈b->x.Ok):z6 P 161 [.t (.lst (a.map Arg.enc)),.t (.lst (b.map Arg.enc)),.t (.fn 162)] ⟨[],0⟩ {v:= .t (.bool (ZO eqA a b))}:=by
 refine z6.run H.i161 H.mixed Z Z ?_;refine fR Z ?_;refine lM Z Z Z ?_;refine fM Z ?_;refine lM Z Z Z ?_;refine fM Z ?_;refine Run.cond Z Z (fun h=>?_) (fun h=>?_)
 ·have h':¬ a.length=b.length:=by simp at h;omega
  refine fR Z ?_;refine Run.fin Z (z3.go ?_);exact .t (by rw [z1a h'])
 ·have h':a.length=b.length:=by simp at h;omega
  refine fR Z ?_;refine lM Z Z Z ?_;refine fM Z ?_;refine zu a (fun i (_:Unit)=>{env:=[(1,.t (.lst (b.map Arg.enc))),(2,.t (.fn 162)),(15,.t (.lst (a.map Arg.enc))),(16,.t (.int .i64 a.length)),(17,.t (.int .i64 i))],s:=⟨[],0⟩}) (fun r i _=>ZO eqA a b=ZO eqA r (b.drop i)) 0 () Z (by simp) Z Z Z ?_ ?_
  ·intro _ hinv;refine fR Z ?_;refine Run.ze Z Z (by simp) ?_;refine fR Z ?_;refine Run.fin Z (z3.go ?_);exact .t (by rw [hinv,w1m (by omega)];rfl)
  ·intro i x r _ h1 hi hd hinv ih;obtain ⟨y,hy⟩:=Y3 h' hi;have hxo:=hao x (zMG h1);have hyo:=hbo y (zMG hy);have hinv':ZO eqA a b=ZO eqA (x::r) (b.drop i):=hinv;rw [C11.y9 hy] at hinv';have hinv':ZO eqA a b=(eqA x y&&ZO eqA r (b.drop (i+1))):=hinv';refine fR Z ?_;refine Run.zf Z Z (by simp;omega) ?_;refine fR Z ?_;refine Mid.zb Z Z Z h1 Z Z ?_;refine fM Z ?_;refine Mid.zb Z Z Z hy Z Z ?_;refine fM Z ?_;refine Mid.z0V Z (zeg H x y hxo hyo) Z Z Z Z ?_;refine fM Z ?_;refine Run.cond Z Z (fun hc=>?_) (fun hc=>?_)
   ·have hc':eqA x y=false:=by simpa using hc
    refine fR Z ?_;refine Run.fin Z (z3.go ?_);exact .t (by rw [hinv',hc'];rfl)
   ·have hc':eqA x y=true:=by simpa using hc
    refine fR Z ?_;refine aL Z Z Z Z Z ?_;refine fM Z ?_;exact zl 0 Z (ih () (by rw [hinv',hc'];rfl)) Z Z Z
theorem QY (H:zX P) (a b:Dir) (ha:a.Ok) (hb:b.Ok):z6 P 124 [a.v,b.v] ⟨[],0⟩ {v:= .t (.bool (eqD a b))}:=by
 have h1:=z8E H a.args b.args ha.l hb.l ha.a hb.a;refine z6.run H.i124 H.mixed Z Z ?_;refine fR Z ?_;refine caG Z Z (fun hg=>⟨_,rfl,h1,rfl⟩) Z Z ?_;refine fM Z ?_;refine Run.fin Z (z3.go ?_);exact .t (by simp [eqD])
theorem ze4 (H:zX P) (x y:Dir) (hx:x.Ok) (hy:y.Ok):z6 P 123 [y.v,.ptr 0 0] ⟨[(0,.cells [.t (.str x.name),.t (.lst (x.args.map Arg.enc))])],1⟩ {v:= .t (.bool (eqD x y)),rd:=true}:=by
 refine z6.run H.i123 H.mixed Z Z ?_;refine fR Z ?_;refine Mid.call (QY H x y hx hy) Z Z Z Z ?_;refine fM Z ?_;refine Run.fin Z (z3.we Z Z Z (by first |exact rfl|exact nSto_bd|exact tSto_bd) (.t (rfl)))
theorem z1M (H:zX P) (x y:Dir) (hx:x.Ok) (hy:y.Ok):z6 P 139 [y.v,.ptr 0 0] ⟨[(0,.cells [.t (.str x.name),.t (.lst (x.args.map Arg.enc))])],1⟩ {v:= .t (.bool (eqD y x)),rd:=true}:=by
 refine z6.run H.i139 H.mixed Z Z ?_;refine fR Z ?_;refine Mid.call (QY H y x hy hx) Z Z Z Z ?_;refine fM Z ?_;refine Run.fin Z (z3.we Z Z Z (by first |exact rfl|exact nSto_bd|exact tSto_bd) (.t (rfl)))
theorem zbY (H:zX P) (n:Str) (y:Dir):z6 P 168 [y.v,.ptr 0 0] ⟨[(0,.cells [.t (.str n)])],1⟩ {v:= .t (.bool (y.name==n)),rd:=true}:=by
 refine z6.run H.i168 H.mixed Z Z ?_;refine fR Z ?_;refine Run.fin Z (z3.we Z Z Z (by first |exact rfl|exact nSto_bd|exact tSto_bd) (.t (rfl)))
def z2e (p:Dir->Bool):List Dir->Int->Int
 |[],_=>-1
 |x::r,i=>if p x=true then i else z2e p r (i+1)
theorem z9V (p:Dir->Bool):∀(l:List Dir) (i:Int),0<=i->decide (z2e p l i≥0)=l.any p
 |[],i,_=>by simp [z2e]
 |x::r,i,h=>by
  by_cases hx:p x=true
  ·have e:z2e p (x::r) i=i:=by simp only [z2e];rw [w0e hx]
   rw [e];simp [h,hx]
  ·have e:z2e p (x::r) i=z2e p r (i+1):=by simp only [z2e];rw [w0g hx]
   rw [e,z9V p r (i+1) (by omega)];simp [hx]
theorem zba (H:zX P) (f:FuncId) (x:Dir) (p:Dir->Bool) (l:List Dir) (hl:l.length<=140737488355328) (hp:∀y,y∈l->z6 P f [y.v,.ptr 0 0] ⟨[(0,.cells [.t (.str x.name),.t (.lst (x.args.map Arg.enc))])],1⟩ {v:= .t (.bool (p y)),rd:=true}):z6 P 160 [.t (.lst (l.map Dir.enc)),.fn f [(0,0)]] ⟨[(0,.cells [.t (.str x.name),.t (.lst (x.args.map Arg.enc))])],1⟩ {v:= .t (.int .i64 (z2e p l 0)),rd:=true}:=by
 refine z6.run H.i160 H.mixed Z Z ?_;refine fR Z ?_;refine lM Z Z Z ?_;refine fM Z ?_;refine zu l (fun i (_:Unit)=>{env:=[(0,.t (.lst (l.map Dir.enc))),(1,.fn f [(0,0)]),(7,.t (.int .i64 l.length)),(8,.t (.int .i64 i))],s:=⟨[(0,.cells [.t (.str x.name),.t (.lst (x.args.map Arg.enc))])],1⟩}) (fun r i _=>z2e p l 0=z2e p r i) 1 () Z Z Z Z Z ?_ ?_
 ·intro _ hinv;refine fR Z ?_;refine Run.ze Z Z (by simp) ?_;refine fR Z ?_;refine Run.fin Z (z3.we Z Z Z (by first |exact rfl|exact nSto_bd|exact tSto_bd) (.t ((by rw [hinv];rfl))))
 ·intro i y r _ h1 hi hd hinv ih;refine fR Z ?_;refine Run.zf Z Z (by simp;omega) ?_;refine fR Z ?_;refine Mid.zb Z Z Z h1 Z Z ?_;refine fM Z ?_;refine Mid.z6q Z (hp y (zMG h1)) Z Z Z Z ?_;refine fM Z ?_;refine Run.cond Z Z (fun hc=>?_) (fun hc=>?_)
  ·refine fR Z ?_;refine Run.fin Z (z3.we Z Z Z (by first |exact rfl|exact nSto_bd|exact tSto_bd) (.t ((by rw [hinv];simp only [z2e];rw [w0e hc]))))
  ·refine fR Z ?_;refine aL Z Z Z Z Z ?_;refine fM Z ?_
   have h':¬ p y=true:=by rw [hc];simp
   exact zl 1 Z (ih () (by rw [hinv];simp only [z2e];rw [w0g h'];rfl)) Z Z Z
theorem zbh (H:zX P) (n:Str) (l:List Dir) (hl:l.length<=140737488355328):z6 P 160 [.t (.lst (l.map Dir.enc)),.fn 168 [(0,0)]] ⟨[(0,.cells [.t (.str n)])],1⟩ {v:= .t (.int .i64 (YO n l 0)),rd:=true}:=by
 refine z6.run H.i160 H.mixed Z Z ?_;refine fR Z ?_;refine lM Z Z Z ?_;refine fM Z ?_;refine zu l (fun i (_:Unit)=>{env:=[(0,.t (.lst (l.map Dir.enc))),(1,.fn 168 [(0,0)]),(7,.t (.int .i64 l.length)),(8,.t (.int .i64 i))],s:=⟨[(0,.cells [.t (.str n)])],1⟩}) (fun r i _=>YO n l 0=YO n r i) 1 () Z Z Z Z Z ?_ ?_
 ·intro _ hinv;refine fR Z ?_;refine Run.ze Z Z (by simp) ?_;refine fR Z ?_;refine Run.fin Z (z3.we Z Z Z (by first |exact rfl|exact nSto_bd|exact tSto_bd) (.t ((by rw [hinv];rfl))))
 ·intro i y r _ h1 hi hd hinv ih;refine fR Z ?_;refine Run.zf Z Z (by simp;omega) ?_;refine fR Z ?_;refine Mid.zb Z Z Z h1 Z Z ?_;refine fM Z ?_;refine Mid.z6q Z (zbY H n y) Z Z Z Z ?_;refine fM Z ?_;refine Run.cond Z Z (fun hc=>?_) (fun hc=>?_)
  ·refine fR Z ?_;refine Run.fin Z (z3.we Z Z Z (by first |exact rfl|exact nSto_bd|exact tSto_bd) (.t ((by rw [hinv];simp only [YO];rw [w0e hc]))))
  ·refine fR Z ?_;refine aL Z Z Z Z Z ?_;refine fM Z ?_
   have h':¬ (y.name==n)=true:=by rw [hc];simp
   exact zl 1 Z (ih () (by rw [hinv];simp only [YO];rw [w0g h'];rfl)) Z Z Z
theorem YN (H:zX P) (f:FuncId) (x:Dir) (p:Dir->Bool) (l:List Dir) (hl:l.length<=140737488355328) (hp:∀y,y∈l->z6 P f [y.v,.ptr 0 0] ⟨[(0,.cells [.t (.str x.name),.t (.lst (x.args.map Arg.enc))])],1⟩ {v:= .t (.bool (p y)),rd:=true}):z6 P 122 [.t (.lst (l.map Dir.enc)),.fn f [(0,0)]] ⟨[(0,.cells [.t (.str x.name),.t (.lst (x.args.map Arg.enc))])],1⟩ {v:= .t (.bool (l.any p)),rd:=true}:=by
 refine z6.run H.i122 H.mixed Z Z ?_;refine fR Z ?_;refine Mid.z7a (zba H f x p l hl hp) Z Z (by first |exact rfl|exact nSto_bd|exact tSto_bd) Z ?_;refine fM Z ?_;refine Run.fin Z (z3.we Z Z Z (by first |exact rfl|exact nSto_bd|exact tSto_bd) (.t ((by rw [←z9V p l 0 (by omega)]))))
theorem z1b (H:zX P) (l:List Dir) (hl:l.length<=140737488355328) (n:Str):z6 P 138 [.t (.lst (l.map Dir.enc)),.t (.str n)] ⟨[],0⟩ {v:= .t (.int .i64 (YO n l 0))}:=by
 refine z6.run H.i138 H.mixed Z Z ?_;refine fR Z ?_
 refine Mid.Ql [0] (zbh H n l hl) Z Z Z Z (by simp [Z1];simp [zd.bd,V.bds,V.bd]) (by repeat' (first |exact trivial|exact rfl|refine And.intro ?_ ?_|exact (congrArg some (zd.ren_mE _ _ _ _ _ _)).symm|exact (congrArg some (zd.ren_cE _ _ _)).symm|(refine (congrArg some (zd.Za ?_ _ _)).symm;intro _;rfl))) Z ?_
 refine fM Z ?_;refine Run.fin Z (z3.go ?_);exact .t Z
end Go.GB.C24
namespace Go.GB.C24
open Go.GB Go.GB.C11
variable {P:Program}
def Qu (l:List Dir):List Dir:=l.filter fun x=>!wZ x.name
theorem Y2 (x:Dir) (r:List Dir):Qu (x::r)=if wZ x.name=true then Qu r else x::Qu r:=by
 unfold Qu;rw [List.filter_cons];cases wZ x.name<;>rfl
theorem zed (H:zX P) (l:List Dir) (hl:l.length<=2199023255552):z6 P 121 [.t (.lst (l.map Dir.enc))] ⟨[],0⟩ {v:= .t (.lst ((Qu l).map Dir.enc))}:=by
 have hR:∀R,Qu l=R->z6 P 121 [.t (.lst (l.map Dir.enc))] ⟨[],0⟩ {v:= .t (.lst (R.map Dir.enc))}:=by
  intro R hR;refine z6.run H.i121 H.mixed Z Z ?_;refine fR Z ?_;refine lM Z Z Z ?_;refine fM Z ?_
  refine zu l (fun i (B:List Dir)=>{env:=[(3,.own 0 2 (B.map Dir.enc)),(6,.t (.lst (l.map Dir.enc))),(7,.t (.int .i64 l.length)),(8,.t (.int .i64 i))],s:=⟨[(0,.arr B.length)],1⟩}) (fun r i B=>B.length<=i/\B++Qu r=R) 0 [] Z ⟨by simp,hR⟩ rfl rfl rfl ?_ ?_
  ·rintro B ⟨_,hB⟩
   have hB':B=R:=by rw [←hB];simp [Qu]
   subst hB';refine fR Z ?_;refine Run.ze Z Z (by simp) ?_;refine fR Z ?_;refine Run.fin Z (z3.go ?_);exact .own Z
  ·rintro i x r B h1 hi hdr ⟨hBl,hB⟩ ih;have hBl':B.length<=i:=hBl;refine fR Z ?_;refine Run.zf Z Z (by simp;omega) ?_;refine fR Z ?_;refine Mid.zb Z Z Z h1 Z Z ?_;refine fM Z ?_;by_cases e0:x.name=([107,101,121]:Str)
   ·refine Run.zf Z Z (by simp [e0]) ?_;refine Run.zf Z Z (by simp [e0]) ?_;refine fR Z ?_;refine aL Z Z Z Z Z ?_;refine fM Z ?_;exact zl 1 Z (ih B ⟨by omega,by rw [←hB,Y2,w0e (by unfold wZ;simp [e0])]⟩) rfl rfl rfl
   ·refine Run.ze Z Z (by simp [e0]) ?_;refine fR Z ?_;by_cases e1:x.name=([101,120,116,101,114,110,97,108]:Str)
    ·refine Run.zf Z Z (by simp [e1]) ?_;refine Run.zf Z Z (by simp [e1]) ?_;refine fR Z ?_;refine aL Z Z Z Z Z ?_;refine fM Z ?_;exact zl 1 Z (ih B ⟨by omega,by rw [←hB,Y2,w0e (by unfold wZ;simp [e1])]⟩) rfl rfl rfl
    ·refine Run.ze Z Z (by simp [e1]) ?_;refine fR Z ?_;by_cases e2:x.name=([115,104,97,114,101,97,98,108,101]:Str)
     ·refine Run.zf Z Z (by simp [e2]) ?_;refine Run.zf Z Z (by simp [e2]) ?_;refine fR Z ?_;refine aL Z Z Z Z Z ?_;refine fM Z ?_;exact zl 1 Z (ih B ⟨by omega,by rw [←hB,Y2,w0e (by unfold wZ;simp [e2])]⟩) rfl rfl rfl
     ·refine Run.ze Z Z (by simp [e2]) ?_;refine fR Z ?_;by_cases e3:x.name=([114,101,113,117,105,114,101,115]:Str)
      ·refine Run.zf Z Z (by simp [e3]) ?_;refine Run.zf Z Z (by simp [e3]) ?_;refine fR Z ?_;refine aL Z Z Z Z Z ?_;refine fM Z ?_;exact zl 1 Z (ih B ⟨by omega,by rw [←hB,Y2,w0e (by unfold wZ;simp [e3])]⟩) rfl rfl rfl
      ·refine Run.ze Z Z (by simp [e3]) ?_;refine fR Z ?_;by_cases e4:x.name=([112,114,111,118,105,100,101,115]:Str)
       ·refine Run.zf Z Z (by simp [e4]) ?_;refine fR Z ?_;refine aL Z Z Z Z Z ?_;refine fM Z ?_;exact zl 1 Z (ih B ⟨by omega,by rw [←hB,Y2,w0e (by unfold wZ;simp [e4])]⟩) rfl rfl rfl
       ·refine Run.ze Z Z (by simp [e4]) ?_;refine fR Z ?_;refine apM Dir.enc B [x] Z Z Z Z Z ?_ (h1:=by first |omega|(simp;omega)|(simp;done)) (h2:=by first |omega|(simp;omega)|(simp;done));refine fM rfl ?_;refine aL rfl rfl rfl rfl rfl ?_;refine fM rfl ?_;exact zl 1 rfl (ih (B++[x]) ⟨by simp;omega,by rw [←hB,Y2,w0g (by unfold wZ;simp [e0,e1,e2,e3,e4])];simp⟩) rfl rfl rfl
 exact hR _ Z
def Wq:List Dir->List Dir->List Dir
 |out,[]=>out
 |out,x::r=>if (out.any fun y=>eqD x y)=true then Wq out r else Wq (out++[x]) r
theorem z1g:∀(l out:List Dir),Wq out (Qu l)=Zi out l
 |[],out=>rfl
 |x::r,out=>by
  rw [Y2]
  have e:(out.any fun y=>eqD x y)=out.any fun y=>eqD y x:=by congr 1;funext y;exact Yl x y
  cases ho:wZ x.name with
  |true=>simp only [Zi,ho,Bool.true_or,w17];exact z1g r out
  |false=>
   simp only [Zi,ho,w1z,Wq,e,w0h,w0x];split
   ·exact z1g r out
   ·exact z1g r _
theorem z1X (x:Dir):∀(l out:List Dir),Wq out (l++[x])=if ((Wq out l).any fun y=>eqD x y)=true then Wq out l else Wq out l++[x]
 |[],out=>rfl
 |z::r,out=>by
  simp only [w1y,Wq];split
  ·exact z1X x r out
  ·exact z1X x r _
theorem z3A (x:Dir):∀(l out:List Dir),((Wq out l).any fun y=>eqD x y)=(out++l).any fun y=>eqD x y
 |[],out=>by simp [Wq]
 |z::r,out=>by
  simp only [Wq];split
  ·rename_i h;rw [z3A x r out,w1n];obtain ⟨w,hw,hw2⟩:=w1v.1 h;simp only [w1v,w14,w0t];constructor
   ·rintro ⟨y,hy,h2⟩
    exact ⟨y,by rcases hy with hy|hy;exact .inl hy;exact .inr (.inr hy),h2⟩
   ·rintro ⟨y,hy|rfl|hy,h2⟩
    ·exact ⟨y,.inl hy,h2⟩
    ·exact ⟨w,.inl hw,by rw [WG] at*;exact h2.trans hw2⟩
    ·exact ⟨y,.inr hy,h2⟩
  ·rw [z3A x r];simp
theorem qP:∀(b Z X:List Dir),Wq X (Zi Z b)=Zi (Wq X Z) b
 |[],Z,X=>rfl
 |x::r,Z,X=>by
  have e:∀l:List Dir,(l.any fun y=>eqD y x)=l.any fun y=>eqD x y:=fun l=>by congr 1;funext y;exact Yl y x
  simp only [Zi,e]
  cases ho:wZ x.name with
  |true=>simp only [Bool.true_or,w17];exact qP r Z X
  |false=>
   simp only [w1z];by_cases hz:(Z.any fun y=>eqD x y)=true
   ·rw [w0e hz,w0e (by rw [z3A,List.any_append,hz,Bool.or_true])];exact qP r Z X
   ·rw [w0g hz,qP r (Z++[x]) X,z1X]
    split<;>rfl
theorem z5c (X b:List Dir):Wq X (zG b)=Zi X b:=qP b [] X
def DA (l:List Dir):Prop:=∀y,y∈l->y.args.length<=1000000
theorem DA.rest {l:List Dir} (h:DA l):DA (zG l):=fun y hy=>h y (by simpa using ye l [] hy)
theorem DA.join {a b:List Dir} (ha:DA a) (hb:DA b):DA (Zw a b):=fun y hy=>by
 rcases ye b _ hy with h|h
 ·exact ha.rest y h
 ·exact hb y h
theorem z4Y (H:zX P) (l:List Dir) (hd:∀y,y∈l->y.Ok) (hda:DA l) (hl:l.length<=3000000):z6 P 68 [.t (.lst (l.map Dir.enc))] ⟨[],0⟩ {v:= .own 0 2 ((zG l).map Dir.enc),ob:=[(0,.arr (zG l).length)],n:=1,rd:=true}:=by
 have g0:=zed H l (by omega);have hpl:(Qu l).length<=l.length:=List.length_filter_le _ _;have hpd:∀y,y∈Qu l->y.Ok:=fun y hy=>hd y (List.mem_filter.1 hy).1;have hpa:DA (Qu l):=fun y hy=>hda y (List.mem_filter.1 hy).1;have e0:Wq [] (Qu l)=zG l:=z1g l [];generalize zG l=R at e0⊢;generalize Qu l=D at e0 g0 hpl hpd hpa;refine z6.run H.i68 H.mixed Z Z ?_;refine fR Z ?_;refine Mid.call (g0) Z Z Z Z ?_;refine lM Z Z Z ?_;refine fM Z ?_
 refine zu D (fun i (B:List Dir)=>{env:=[(3,.own 0 2 (B.map Dir.enc)),(10,.t (.lst (D.map Dir.enc))),(11,.t (.int .i64 D.length)),(12,.t (.int .i64 i))],s:=⟨[(0,.arr B.length)],1⟩}) (fun r i B=>B.length+r.length<=3000000/\(∀y,y∈B->y.Ok)/\Wq B r=R) 0 [] Z ⟨by simp;omega,by simp,e0⟩ rfl rfl rfl ?_ ?_
 ·rintro B ⟨_,_,hB⟩;have hB':B=R:=hB;subst hB';refine fR Z ?_;refine Run.ze Z Z (by simp) ?_;refine fR Z ?_;refine Run.fin Z (z3.chg Z Z ?_ ?_)
  ·exact .le (.same Z)
  ·exact leSA
 ·rintro i x r B h1 hi hdr ⟨hBl,hBo,hB⟩ ih;simp only [w0d] at hBl;have hxo:=hpd x (zMG h1);have hxl:=hpa x (zMG h1);simp only [Wq] at hB;refine fR Z ?_;refine Run.zf Z Z (by simp;omega) ?_;refine fR Z ?_;refine Mid.zb Z Z Z h1 Z Z ?_;refine fM Z ?_
  refine Mid.Ql [1] (YN H 123 x (fun y=>eqD x y) B (by omega) (fun y hy=>ze4 H x y hxo (hBo y hy))) Z Z Z Z (by simp [Z1];simp [zd.bd,V.bds,V.bd]) (by repeat' (first |exact trivial|exact rfl|refine And.intro ?_ ?_|exact (congrArg some (zd.ren_mE _ _ _ _ _ _)).symm|exact (congrArg some (zd.ren_cE _ _ _)).symm|(refine (congrArg some (zd.Za ?_ _ _)).symm;intro _;rfl))) Z ?_
  refine fM Z ?_;refine Run.cond Z Z (fun hc=>?_) (fun hc=>?_)
  ·rw [w0e hc] at hB;refine fR Z ?_;refine aL Z Z Z Z Z ?_;refine fM Z ?_;exact zl 1 Z (ih B ⟨by omega,hBo,hB⟩) rfl rfl rfl
  ·rw [w0g (by rw [hc];simp)] at hB;refine fR Z ?_;refine lM Z Z Z ?_;refine fM Z ?_;refine zu x.args (fun k (A:List Arg)=>{env:=[(3,.own 0 2 (B.map Dir.enc)),(6,.ptr 2 0),(10,.t (.lst (D.map Dir.enc))),(11,.t (.int .i64 D.length)),(12,.t (.int .i64 i)),(23,.t (.lst (x.args.map Arg.enc))),(24,.t (.int .i64 x.args.length)),(25,.t (.int .i64 k))],s:=⟨[(0,.arr B.length),(2,.cells [.t (.str x.name),.own 3 6 (A.map Arg.enc)]),(3,.arr A.length)],4⟩}) (fun q k A=>A++q=x.args) 3 [] Z Z Z Z Z ?_ ?_
   ·intro A hA
    have hA2:x=⟨x.name,A⟩:=by
     have:A=x.args:=by simpa using hA
     rw [this]
    refine fR Z ?_;refine Run.ze Z Z (by simp) ?_;refine fR Z ?_;refine apM Dir.enc B [(⟨x.name,A⟩:Dir)] Z Z Z Z Z ?_ (h1:=by first |omega|(simp;omega)|(simp;done)) (h2:=by first |omega|(simp;omega)|(simp;done));refine fM rfl ?_;refine aL rfl rfl rfl rfl rfl ?_;refine fM rfl ?_
    exact zl 1 Z (ih (B++[⟨x.name,A⟩]) ⟨by simp;omega,fun y hy=>by rcases w14.1 hy with hy|hy;exact hBo y hy;rw [w1i.1 hy,←hA2];exact hxo,by rw [←hA2];exact hB⟩) rfl rfl rfl
   ·intro k a q A h2 hk hdq hA ih2;have hA:A++(a::q)=x.args:=hA
    have hAl:A.length+1<=x.args.length:=by have:=congrArg List.length hA;simp only [w03,w0d] at this;omega
    have hao:=hxo.a a (zMG h2);have hcp:=C35.za7 H.p35 a.val hao;refine fR Z ?_;refine Run.zf Z Z (by simp;omega) ?_;refine fR Z ?_;refine Mid.zb Z Z Z h2 Z Z ?_;refine fM Z ?_;refine Mid.call (hcp) Z Z Z Z ?_;refine fM Z ?_;refine apM Arg.enc A [a] Z Z Z Z Z ?_ (h1:=by first |omega|(simp;omega)|(simp;done)) (h2:=by first |omega|(simp;omega)|(simp;done));refine fM rfl ?_;refine aL rfl rfl rfl rfl rfl ?_;refine fM rfl ?_;exact zl 4 rfl (ih2 (A++[a]) (by rw [←hA];simp)) rfl rfl rfl
end Go.GB.C24
namespace Go.GB
theorem z6.toT {P:Program} {f:FuncId} {vs:List V} {sz n:Nat} {xs:List (List T)} (h:z6 P f vs ⟨[],0⟩ {v:= .own 0 sz xs,ob:=[(0,.arr n)],n:=1,rd:=true}):z6 P f vs ⟨[],0⟩ {v:= .t (.lst xs)}:=by
 refine ⟨h.1,fun Λ args h1 h2 h3 h4=>?_⟩;refine Calls.mono (h.2 Λ args h1 h2 h3 h4) ?_;rintro e w' ⟨v,Λ',e1,e2,e3,e4,e5,e6⟩;exact ⟨v,Λ'.cut 0 0,e1,e2,e3.cut (by rw [h2];exact w09 _) (w09 _),rfl,e5.qT (Nat.zero_le _) (w09 _) trivial,LeX.yR.cut (w09 _) (Nat.zero_le _) e6⟩
end Go.GB
namespace Go.GB.C24
open Go.GB Go.GB.C11
variable {P:Program}
theorem Q4 (H:zX P) (l:List Dir) (hd:∀y,y∈l->y.Ok) (hda:DA l) (hl:l.length<=3000000):z6 P 68 [.t (.lst (l.map Dir.enc))] ⟨[],0⟩ {v:= .t (.lst ((zG l).map Dir.enc))}:=
 (z4Y H l hd hda hl).toT
def cf2 (X Y:List Dir) (n:Str):Bool:=n !=z4H&&(match yh n Y,yh n X with|some v,some u=>!eqD u v|_,_=>false)
theorem za0 {X Y Z:List Dir} {p:Str->Bool} (h:∀n,p n=true->∃y,yh n Y=some y):(X.any fun d=>p d.name)=true->(Y.any fun d=>p d.name)=true:=by
 intro hx;obtain ⟨d,_,hd⟩:=w1v.1 hx;obtain ⟨y,hy⟩:=h d.name hd;obtain ⟨e,hm⟩:=Wj hy
 exact w1v.2 ⟨y,hm,by rw [e];exact hd⟩
theorem zd2 (a b:List Dir):Z4 a b=(zG b).any fun d=>cf2 (zG a) (zG b) d.name:=by
 have e:Z4 a b=(zG a).any fun d=>cf2 (zG a) (zG b) d.name:=rfl;rw [e,w1n];constructor
 ·refine za0 (Z:=[]) fun n hn=>?_;unfold cf2 at hn
  cases h:yh n (zG b) with
  |some y=>exact ⟨y,rfl⟩
  |none=>simp [h] at hn
 ·refine za0 (Z:=[]) fun n hn=>?_;unfold cf2 at hn
  cases h:yh n (zG a) with
  |some y=>exact ⟨y,rfl⟩
  |none=>cases h2:yh n (zG b)<;>simp [h,h2] at hn
theorem QV (H:zX P) (a b:List Dir) (ha:DL a) (hb:DL b) (haa:DA a) (hba:DA b):z6 P 82 [.t (.lst (a.map Dir.enc)),.t (.lst (b.map Dir.enc))] ⟨[],0⟩ {v:= .tup [.t (.lst ((Zw a b).map Dir.enc)),.t (.bool (Z4 a b))]}:=by
 have hal:=ha.n;have hbl:=hb.n;have g1:=z4Y H a ha.d haa (by omega);have g2:=Q4 H b hb.d hba (by omega);have hX:=z81 ha;have hY:=z81 hb;have hXa:=haa.rest;have hYa:=hba.rest;have e0:Wq (zG a) (zG b)=Zw a b:=z5c _ _;have e1:=zd2 a b;generalize Zw a b=J at e0⊢;generalize Z4 a b=K at e1⊢;generalize zG a=X at*;generalize zG b=Y at*;have hXl:=hX.n;have hYl:=hY.n;refine z6.run H.i82 H.mixed Z Z ?_;refine fR Z ?_
 refine Mid.yH [] (g1) Z Z Z Z Z (by repeat' (first |exact trivial|exact rfl|refine And.intro ?_ ?_|exact (congrArg some (zd.ren_mE _ _ _ _ _ _)).symm|exact (congrArg some (zd.ren_cE _ _ _)).symm|(refine (congrArg some (zd.Za ?_ _ _)).symm;intro _;rfl))) Z Z (ob':=[(0,.arr X.length)]) (rfl) Z Z ?_
 refine fM Z ?_;refine Mid.call (g2) Z Z Z Z ?_;refine fM Z ?_;refine lM Z Z Z ?_;refine fM Z ?_;refine lM Z Z Z ?_;refine fM Z ?_
 refine zu Y (fun i (q:List Dir×Bool)=>{env:=[(6,.own 0 2 ((X++q.1).map Dir.enc)),(7,.t (.lst (Y.map Dir.enc))),(8,.t (.int .i64 X.length)),(9,.t (.bool q.2)),(19,.t (.lst (Y.map Dir.enc))),(20,.t (.int .i64 Y.length)),(21,.t (.int .i64 i))],s:=⟨[(0,.arr (X++q.1).length)],1⟩}) (fun r i q=>Wq (X++q.1) r=J/\(q.2||r.any fun d=>cf2 X Y d.name)=K/\X.length+q.1.length+r.length<=2000000/\∀y,y∈q.1->y.Ok) 1 ([],false) Z ⟨by simpa using e0,by simpa using e1.symm,by simp;omega,by simp⟩ rfl rfl rfl ?_ ?_
 ·rintro ⟨E,c⟩ ⟨hE,hcc,_,_⟩;have hE2:X++E=J:=hE
  have hc2:c=K:=by simpa using hcc
  dsimp only;rw [hE2,hc2];refine fR Z ?_;refine Run.ze Z Z (by simp) ?_;refine fR Z ?_;refine Run.fin Z (z3.go ?_);exact .Ys (.own Z) (.t Z)
 ·rintro i y r ⟨E,c⟩ h1 hi hdr ⟨hE,hcc,hEl,hEo⟩ ih;dsimp only at hE hcc hEl hEo⊢;simp only [w0d] at hEl;simp only [Wq] at hE;have hyo:=hY.d y (zMG h1)
  have hXE:∀z,z∈X++E->z.Ok:=fun z hz=>by
   rcases w14.1 hz with hz|hz
   ·exact hX.d z hz
   ·exact hEo z hz
  have hle:X.length<=(X++E).length:=by simp
  have hle2:(X++E).length<=2000000:=by simp;omega
  have hcc:(c||cf2 X Y y.name||r.any fun d=>cf2 X Y d.name)=K:=by rw [←hcc,w1d,Bool.or_assoc]
  have gX:z6 P 138 [.t (.lst (((X++E).take X.length).map Dir.enc)),.t (.str y.name)] ⟨[],0⟩ {v:= .t (.int .i64 (YO y.name X 0))}:=by
   rw [List.take_left];exact z1b H X (by omega) y.name
  have gY:=z1b H Y (by omega) y.name;obtain ⟨v,hv⟩:=z2k (zMG h1) (rfl:y.name=y.name)
  rcases z1R y.name Y 0 with ⟨_,h⟩|⟨k,v',hk,hk2,hk3⟩
  ·rw [hv] at h;cases h
  have:v=v':=by rw [hv] at hk3;exact Option.some.inj hk3
  subst this
  rw [show YO y.name Y 0=(k:Int) by rw [show (0:Int)=((0:Nat):Int) from rfl,hk];simp] at gY
  have hvo:=hY.d v (zMG hk2);refine fR Z ?_;refine Run.zf Z Z (by simp;omega) ?_;refine fR Z ?_;refine Mid.zb Z Z Z h1 Z Z ?_;refine fM Z ?_;refine lTo Z Z Z Z ?_;refine fM Z ?_
  rcases z1R y.name X 0 with ⟨h5,h6⟩|⟨j,u,h5,h6,h7⟩
  ·rw [show YO y.name X 0=(-1:Int) from h5] at gX
   have e:cf2 X Y y.name=false:=by simp [cf2,h6,hv]
   rw [e,Bool.or_false] at hcc;refine Mid.call (gX) Z Z Z Z ?_;refine fM Z ?_
   cases hY0:(X++E)[(-1:Int).toNat]? with
   |none=>
    refine Mid.zbT Z (by simp) Z Z Z hY0 Z ?_;skip;refine Mid.W4 Z (by simp) Z Z Z ?_;refine fM Z ?_;refine caG Z Z (fun hg=>⟨_,rfl,gY,rfl⟩) Z Z ?_;skip;refine elG Z Z Z Z hk2 Z Z ?_;refine fM Z ?_;refine Mid.W4 Z (by first |rfl|(simp;done)) Z Z Z ?_;refine Mid.W4 Z (by first |rfl|(simp;done)) Z Z Z ?_;refine fM Z ?_;refine Run.ze Z Z Z ?_;refine fR Z ?_
    refine Mid.Ql [1] (YN H 139 y (fun z=>eqD z y) (X++E) (by omega) (fun z hz=>z1M H y z hyo (hXE z hz))) Z Z Z Z (by simp [Z1];simp [zd.bd,V.bds,V.bd]) (by repeat' (first |exact trivial|exact rfl|refine And.intro ?_ ?_|exact (congrArg some (zd.ren_mE _ _ _ _ _ _)).symm|exact (congrArg some (zd.ren_cE _ _ _)).symm|(refine (congrArg some (zd.Za ?_ _ _)).symm;intro _;rfl))) Z ?_
    refine fM Z ?_;refine Run.cond Z Z (fun hc2=>?_) (fun hc2=>?_)
    ·have hq:¬ ((X++E).any fun z=>eqD y z)=true:=by
      rw [show ((X++E).any fun z=>eqD y z)=(X++E).any fun z=>eqD z y by congr 1;funext z;exact Yl y z]
      simpa using hc2
     rw [w0g hq] at hE;refine fR Z ?_;refine apM Dir.enc (X++E) [y] Z Z Z Z Z ?_ (h1:=by first |omega|(simp;omega)|(simp;done)) (h2:=by first |omega|(simp;omega)|(simp;done));refine fM rfl ?_;refine aL rfl rfl rfl rfl rfl ?_;refine fM rfl ?_
     exact zl 1 Z (ih (E++[y],c) ⟨by rw [←hE];simp,by simpa using hcc,by simp;omega,fun z hz=>by rcases w14.1 hz with hz|hz;exact hEo z hz;rw [w1i.1 hz];exact hyo⟩) rfl rfl rfl
    ·have hq:((X++E).any fun z=>eqD y z)=true:=by
      rw [show ((X++E).any fun z=>eqD y z)=(X++E).any fun z=>eqD z y by congr 1;funext z;exact Yl y z]
      revert hc2
      cases ((X++E).any fun z=>eqD z y)<;>simp
     rw [w0e hq] at hE;refine fR Z ?_;refine aL Z Z Z Z Z ?_;refine fM Z ?_;exact zl 1 Z (ih (E,c) ⟨hE,hcc,by show X.length+E.length+r.length<=_;omega,hEo⟩) rfl rfl rfl
   |some w=>
    have hq:=QY H w v (hXE w (zMG hY0)) hvo
    refine Mid.zc3 Z Z Z Z hY0 (fun hg=>by simp at hg) rfl (by (repeat' (first |exact trivial|exact w12 _|exact Qi _|exact Qg _|exact grd3 _ _|exact Qk _ _|refine And.intro ?_ ?_|exact rfl|(simp;done)|(simp<;>omega)));done) (by (repeat' (first |exact trivial|exact w12 _|exact Qi _|exact Qg _|exact grd3 _ _|exact Qk _ _|refine And.intro ?_ ?_|exact rfl|(simp;done)|(simp<;>omega)));done) rfl ?_
    refine fM Z ?_;refine caG Z Z (fun hg=>⟨_,rfl,gY,rfl⟩) Z Z ?_;skip;refine elG Z Z Z Z hk2 Z Z ?_;refine fM Z ?_;refine caG Z Z (fun hg=>⟨_,rfl,hq,rfl⟩) Z Z ?_;refine fM Z ?_;refine Run.ze Z Z (by simp) ?_;refine fR Z ?_
    refine Mid.Ql [1] (YN H 139 y (fun z=>eqD z y) (X++E) (by omega) (fun z hz=>z1M H y z hyo (hXE z hz))) Z Z Z Z (by simp [Z1];simp [zd.bd,V.bds,V.bd]) (by repeat' (first |exact trivial|exact rfl|refine And.intro ?_ ?_|exact (congrArg some (zd.ren_mE _ _ _ _ _ _)).symm|exact (congrArg some (zd.ren_cE _ _ _)).symm|(refine (congrArg some (zd.Za ?_ _ _)).symm;intro _;rfl))) Z ?_
    refine fM Z ?_;refine Run.cond Z Z (fun hc2=>?_) (fun hc2=>?_)
    ·have hq:¬ ((X++E).any fun z=>eqD y z)=true:=by
      rw [show ((X++E).any fun z=>eqD y z)=(X++E).any fun z=>eqD z y by congr 1;funext z;exact Yl y z]
      simpa using hc2
     rw [w0g hq] at hE;refine fR Z ?_;refine apM Dir.enc (X++E) [y] Z Z Z Z Z ?_ (h1:=by first |omega|(simp;omega)|(simp;done)) (h2:=by first |omega|(simp;omega)|(simp;done));refine fM rfl ?_;refine aL rfl rfl rfl rfl rfl ?_;refine fM rfl ?_
     exact zl 1 Z (ih (E++[y],c) ⟨by rw [←hE];simp,by simpa using hcc,by simp;omega,fun z hz=>by rcases w14.1 hz with hz|hz;exact hEo z hz;rw [w1i.1 hz];exact hyo⟩) rfl rfl rfl
    ·have hq:((X++E).any fun z=>eqD y z)=true:=by
      rw [show ((X++E).any fun z=>eqD y z)=(X++E).any fun z=>eqD z y by congr 1;funext z;exact Yl y z]
      revert hc2
      cases ((X++E).any fun z=>eqD z y)<;>simp
     rw [w0e hq] at hE;refine fR Z ?_;refine aL Z Z Z Z Z ?_;refine fM Z ?_;exact zl 1 Z (ih (E,c) ⟨hE,hcc,by show X.length+E.length+r.length<=_;omega,hEo⟩) rfl rfl rfl
  ·rw [show YO y.name X 0=(j:Int) by rw [show (0:Int)=((0:Nat):Int) from rfl,h5];simp] at gX
   have h6':(X++E)[j]?=some u:=by rw [w0a (w02.1 h6).1];exact h6
   have hq:=QY H u v (hX.d u (zMG h6)) hvo
   have e:cf2 X Y y.name=(y.name !=z4H&&!eqD u v):=by simp [cf2,h7,hv]
   rw [e] at hcc;refine Mid.call (gX) Z Z Z Z ?_;refine fM Z ?_;refine elG Z Z Z Z h6' Z Z ?_;refine fM Z ?_;refine caG Z Z (fun hg=>⟨_,rfl,gY,rfl⟩) Z Z ?_;skip;refine elG Z Z Z Z hk2 Z Z ?_;refine fM Z ?_;refine caG Z Z (fun hg=>⟨_,rfl,hq,rfl⟩) Z Z ?_;refine fM Z ?_;refine Run.cond Z Z (fun hc=>?_) (fun hc=>?_)
   ·rw [show (y.name !=z4H&&!eqD u v)=true by simpa [z4H] using hc,Bool.or_true] at hcc
    refine fR Z ?_
    refine Mid.Ql [1] (YN H 139 y (fun z=>eqD z y) (X++E) (by omega) (fun z hz=>z1M H y z hyo (hXE z hz))) Z Z Z Z (by simp [Z1];simp [zd.bd,V.bds,V.bd]) (by repeat' (first |exact trivial|exact rfl|refine And.intro ?_ ?_|exact (congrArg some (zd.ren_mE _ _ _ _ _ _)).symm|exact (congrArg some (zd.ren_cE _ _ _)).symm|(refine (congrArg some (zd.Za ?_ _ _)).symm;intro _;rfl))) Z ?_
    refine fM Z ?_;refine Run.cond Z Z (fun hc2=>?_) (fun hc2=>?_)
    ·have hq:¬ ((X++E).any fun z=>eqD y z)=true:=by
      rw [show ((X++E).any fun z=>eqD y z)=(X++E).any fun z=>eqD z y by congr 1;funext z;exact Yl y z]
      simpa using hc2
     rw [w0g hq] at hE;refine fR Z ?_;refine apM Dir.enc (X++E) [y] Z Z Z Z Z ?_ (h1:=by first |omega|(simp;omega)|(simp;done)) (h2:=by first |omega|(simp;omega)|(simp;done));refine fM rfl ?_;refine aL rfl rfl rfl rfl rfl ?_;refine fM rfl ?_
     exact zl 1 Z (ih (E++[y],true) ⟨by rw [←hE];simp,by simpa using hcc,by simp;omega,fun z hz=>by rcases w14.1 hz with hz|hz;exact hEo z hz;rw [w1i.1 hz];exact hyo⟩) rfl rfl rfl
    ·have hq:((X++E).any fun z=>eqD y z)=true:=by
      rw [show ((X++E).any fun z=>eqD y z)=(X++E).any fun z=>eqD z y by congr 1;funext z;exact Yl y z]
      revert hc2
      cases ((X++E).any fun z=>eqD z y)<;>simp
     rw [w0e hq] at hE;refine fR Z ?_;refine aL Z Z Z Z Z ?_;refine fM Z ?_;exact zl 1 Z (ih (E,true) ⟨hE,hcc,by show X.length+E.length+r.length<=_;omega,hEo⟩) rfl rfl rfl
   ·rw [show (y.name !=z4H&&!eqD u v)=false by rw [←hc];simp [z4H,bne],Bool.or_false] at hcc
    refine fR Z ?_
    refine Mid.Ql [1] (YN H 139 y (fun z=>eqD z y) (X++E) (by omega) (fun z hz=>z1M H y z hyo (hXE z hz))) Z Z Z Z (by simp [Z1];simp [zd.bd,V.bds,V.bd]) (by repeat' (first |exact trivial|exact rfl|refine And.intro ?_ ?_|exact (congrArg some (zd.ren_mE _ _ _ _ _ _)).symm|exact (congrArg some (zd.ren_cE _ _ _)).symm|(refine (congrArg some (zd.Za ?_ _ _)).symm;intro _;rfl))) Z ?_
    refine fM Z ?_;refine Run.cond Z Z (fun hc2=>?_) (fun hc2=>?_)
    ·have hq:¬ ((X++E).any fun z=>eqD y z)=true:=by
      rw [show ((X++E).any fun z=>eqD y z)=(X++E).any fun z=>eqD z y by congr 1;funext z;exact Yl y z]
      simpa using hc2
     rw [w0g hq] at hE;refine fR Z ?_;refine apM Dir.enc (X++E) [y] Z Z Z Z Z ?_ (h1:=by first |omega|(simp;omega)|(simp;done)) (h2:=by first |omega|(simp;omega)|(simp;done));refine fM rfl ?_;refine aL rfl rfl rfl rfl rfl ?_;refine fM rfl ?_
     exact zl 1 Z (ih (E++[y],c) ⟨by rw [←hE];simp,by simpa using hcc,by simp;omega,fun z hz=>by rcases w14.1 hz with hz|hz;exact hEo z hz;rw [w1i.1 hz];exact hyo⟩) rfl rfl rfl
    ·have hq:((X++E).any fun z=>eqD y z)=true:=by
      rw [show ((X++E).any fun z=>eqD y z)=(X++E).any fun z=>eqD z y by congr 1;funext z;exact Yl y z]
      revert hc2
      cases ((X++E).any fun z=>eqD z y)<;>simp
     rw [w0e hq] at hE;refine fR Z ?_;refine aL Z Z Z Z Z ?_;refine fM Z ?_;exact zl 1 Z (ih (E,c) ⟨hE,hcc,by show X.length+E.length+r.length<=_;omega,hEo⟩) rfl rfl rfl
def wi (n part:Str):Str:=if part=[] then n else n++([46]++part)
theorem wx (H:zX P) (n:Str) (F:List z4) (hF:F.length<=4398046511104) (is:Bool) (e:Int) (part:Str) (hn:n.length<=1125899906842624) (hp:part.length<=1125899906842624):z6 P 83 [.ptr 0 0,.t (.bool is),.t (.int .i64 e),.t (.str part)] ⟨[(0,.cells [.t (.str n),.own 1 2 ((F).map z4.enc)]),(1,.arr (F).length)],2⟩ {v:= .tup [],ob:=[(0,.cells [.t (.str n),.own 1 2 ((F++one is ⟨e,wi n part⟩).map z4.enc)]),(1,.arr (F++one is ⟨e,wi n part⟩).length)],rd:=true}:=by
 refine z6.run H.i83 H.mixed Z Z ?_;refine fR Z ?_
 cases is with
 |false=>
  rw [z5o,w1j];refine Run.ze Z Z Z ?_;skip;refine Run.fin Z (z3.chg Z Z ?_ ?_)
  ·exact .le (.same Z)
  ·exact leSA
 |true=>
  rw [z3R];refine Run.zf Z Z Z ?_;refine fR Z ?_;refine Run.cond Z Z (fun hc=>?_) (fun hc=>?_)
  ·have e1:wi n part=n++([46]++part):=by unfold wi;rw [w0g (by rintro rfl;simp at hc)]
   rw [e1];refine fR Z ?_;refine pu Z ?_;refine pu Z ?_;refine fM Z ?_;refine apM z4.enc F [(⟨e,n++([46]++part)⟩:z4)] Z Z Z Z Z ?_ (h1:=by first |omega|(simp;omega)|(simp;done)) (h2:=by first |omega|(simp;omega)|(simp;done));refine fM rfl ?_;refine Run.fin rfl (z3.chg rfl rfl ?_ ?_)
   ·exact .le (.same Z)
   ·exact leSA
  ·have hp0:part=[]:=by simpa using hc
   have e1:wi n part=n:=by unfold wi;rw [w0e hp0]
   rw [e1];refine fR Z ?_;refine apM z4.enc F [(⟨e,n⟩:z4)] Z Z Z Z Z ?_ (h1:=by first |omega|(simp;omega)|(simp;done)) (h2:=by first |omega|(simp;omega)|(simp;done));refine fM rfl ?_;refine Run.fin rfl (z3.chg rfl rfl ?_ ?_)
   ·exact .le (.same Z)
   ·exact leSA
theorem z3D (H:zX P) (n:Str) (F:List z4) (hF:F.length<=4398046511104) (a b:List Dir) (ha:DL a) (hb:DL b) (haa:DA a) (hba:DA b) (part:Str) (hn:n.length<=1125899906842624) (hp:part.length<=1125899906842624):z6 P 35 [.ptr 0 0,.t (.lst (a.map Dir.enc)),.t (.lst (b.map Dir.enc)),.t (.str part)] ⟨[(0,.cells [.t (.str n),.own 1 2 ((F).map z4.enc)]),(1,.arr (F).length)],2⟩ {v:= .t (.lst ((Zw a b).map Dir.enc)),ob:=[(0,.cells [.t (.str n),.own 1 2 ((F++one (Z4 a b) ⟨29,wi n part⟩).map z4.enc)]),(1,.arr (F++one (Z4 a b) ⟨29,wi n part⟩).length)],rd:=true}:=by
 have g1:=QV H a b ha hb haa hba;have g2:=wx H n F hF (Z4 a b) 29 part hn hp;refine z6.run H.i35 H.mixed Z Z ?_;refine fR Z ?_;refine Mid.call (g1) Z Z Z Z ?_;refine fM Z ?_
 refine Mid.yH [0,1] (g2) Z Z Z Z (by simp [Z1];simp [zd.bd,V.bds,V.bd]) (by repeat' (first |exact trivial|exact rfl|refine And.intro ?_ ?_|exact (congrArg some (zd.ren_mE _ _ _ _ _ _)).symm|exact (congrArg some (zd.ren_cE _ _ _)).symm|(refine (congrArg some (zd.Za ?_ _ _)).symm;intro _;rfl))) Z Z (ob':=[(0,.cells [.t (.str n),.own 1 2 ((F++one (Z4 a b) ⟨29,wi n part⟩).map z4.enc)]),(1,.arr (F++one (Z4 a b) ⟨29,wi n part⟩).length)]) (rfl) Z Z ?_
 refine fM Z ?_;refine Run.fin Z (z3.chg Z Z ?_ ?_)
 ·exact .le (.same Z)
 ·exact leSA
theorem z5A (H:zX P) (a b:Input) (ha:a.Ok) (hb:b.Ok):z6 P 89 [Input.v a,Input.v b] ⟨[],0⟩ {v:= .t (.bool (alike a b))}:=by
 have h1:=z0R H.p13.toPr a.ty b.ty ha.t hb.t;have h2:=C35.z7h H.p35 a.YL b.YL ha.v hb.v;refine z6.run H.i89 H.mixed Z Z ?_;refine fR Z ?_;refine Mid.call (h1) Z Z Z Z ?_;refine fM Z ?_;refine caG Z Z (fun hg=>⟨_,rfl,h2,rfl⟩) Z Z ?_;refine fM Z ?_;refine Run.fin Z (z3.go ?_);exact .t (by simp [alike])
end Go.GB.C24
namespace Go.GB.C24
open Go.GB Go.GB.C11
variable {P:Program}
theorem z6x (H:zX P) (l:List Dir) (hl:l.length<=1000000):z6 P 81 [.t (.lst (l.map Dir.enc))] ⟨[],0⟩ {v:= .t (.lst (l.map Dir.enc))}:=by
 refine z6.run H.i81 H.mixed Z Z ?_;refine fR Z ?_;refine p0 Z ?_;refine fM Z ?_;refine Run.z44 Z Z (fun h=>?_) (fun _=>?_)
 ·have hn:l=[]:=by
   cases l with
   |nil=>rfl
   |cons x r=>
    have:=h (Dir.enc x) (by simp);simp [Dir.enc] at this
  subst hn;refine fR Z ?_;refine Run.fin Z (z3.go ?_);exact .nil Z
 ·refine fR Z ?_;refine apN Dir.enc l Z Z Z ?_ (h1:=by first |omega|(simp;omega)|(simp;done)) (h2:=by first |omega|(simp;omega)|(simp;done));refine fM rfl ?_;refine Run.fin rfl (z3.go ?_);exact .own rfl
theorem z5u (H:zX P) (l:List Str) (hl:l.length<=1000000):z6 P 33 [.t (.lst (l.map sE))] ⟨[],0⟩ {v:= .own 0 1 (l.map sE),ob:=[(0,.arr l.length)],n:=1,rd:=true}:=by
 refine z6.run H.p35.i33 H.mixed Z Z ?_;refine fR Z ?_;refine p0 Z ?_;refine fM Z ?_;refine Run.z44 Z Z (fun h=>?_) (fun _=>?_)
 ·have hn:l=[]:=by
   cases l with
   |nil=>rfl
   |cons x r=>
    have:=h (sE x) (by simp);simp [sE] at this
  subst hn;refine Run.region Z Z ?_;refine Mid.val (v:= .zC) (ps:=[]) Z Z trivial Z ?_;refine Mid.z0m Z ?_
  refine Run.zeJ (st':={env:=[(2,.own 0 1 [])],s:=⟨[(0,.arr 0)],1⟩}) 0 ?_ Z Z Z (by repeat' (first |exact trivial|exact LeX.t|exact LeX.top|exact LeX.Z6 (w11 rfl) (w11 rfl)|exact LeX.yR|exact LeX.yS|exact LeX.same rfl|exact LeX.tEq (by simp)|exact LeX.ZT (by simp) (w11 rfl)|exact LeX.tEq (by congr 1<;>omega)|exact Or.inr ⟨w11 rfl,w11 rfl,rfl⟩|refine Or.inl ⟨w11 rfl,_,rfl,?_⟩|refine LeO.cells ?_|exact LeO.arr rfl|exact LeO.arr (by simp)|exact LeO.mE (by first |rfl|simp) (by first |exact Or.inl rfl|exact Or.inr rfl)|exact LeO.cE (by first |rfl|simp)|exact zA.cE (by first |rfl|simp)|refine LeO.map (by first |rfl|simp) ?_ (by first |exact Or.inl rfl|exact Or.inr rfl)|exact LeO.iter (by first |rfl|simp) (w11 rfl)|refine zA.cons ?_ ?_|exact zA.nil|refine And.intro ?_ ?_)) (by repeat' (first |exact trivial|exact LeX.t|exact LeX.top|exact LeX.Z6 (w11 rfl) (w11 rfl)|exact LeX.yR|exact LeX.yS|exact LeX.same rfl|exact LeX.tEq (by simp)|exact LeX.ZT (by simp) (w11 rfl)|exact LeX.tEq (by congr 1<;>omega)|exact Or.inr ⟨w11 rfl,w11 rfl,rfl⟩|refine Or.inl ⟨w11 rfl,_,rfl,?_⟩|refine LeO.cells ?_|exact LeO.arr rfl|exact LeO.arr (by simp)|exact LeO.mE (by first |rfl|simp) (by first |exact Or.inl rfl|exact Or.inr rfl)|exact LeO.cE (by first |rfl|simp)|exact zA.cE (by first |rfl|simp)|refine LeO.map (by first |rfl|simp) ?_ (by first |exact Or.inl rfl|exact Or.inr rfl)|exact LeO.iter (by first |rfl|simp) (w11 rfl)|refine zA.cons ?_ ?_|exact zA.nil|refine And.intro ?_ ?_))
  refine z3.chg Z Z (.le (.same Z)) ?_;exact leSA
 ·refine fR Z ?_;refine apN sE l Z Z Z ?_ (h1:=by first |omega|(simp;omega)|(simp;done)) (h2:=by first |omega|(simp;omega)|(simp;done));refine fM rfl ?_;refine Run.fin rfl (z3.chg rfl rfl ?_ ?_)
  ·exact .le (.same Z)
  ·exact leSA
theorem qb (H:zX P) (l:List Input) (hl:l.length<=1000) (hi:∀x,x∈l->x.Ok/\x.zg.length<=1000000):z6 P 34 [.t (.lst (l.map Input.enc))] ⟨[],0⟩ {v:= .t (.lst (l.map Input.enc))}:=by
 refine z6.run H.i34 H.mixed Z Z ?_;refine fR Z ?_;refine lM Z Z Z ?_;refine fM Z ?_;refine zu l (fun i (B:List Input)=>{env:=[(3,.own 0 10 (B.map Input.enc)),(6,.t (.lst (l.map Input.enc))),(7,.t (.int .i64 l.length)),(8,.t (.int .i64 i))],s:=⟨[(0,.arr B.length)],1⟩}) (fun r i B=>B++r=l) 0 [] Z Z Z Z Z ?_ ?_
 ·intro B hB
  have hB2:B=l:=by simpa using hB
  refine fR Z ?_;refine Run.ze Z Z (by simp) ?_;refine fR Z ?_;refine Run.fin Z (z3.go ?_);exact .own (by rw [hB2])
 ·intro i x r B h1 hil hdr hB ih;have hxo:=hi x (zMG h1)
  have hBl:B.length<=1000:=by have:=congrArg List.length hB;simp only [w03] at this;omega
  have g1:=qf H.p13.toPr x.ty.za hxo.1.t.l;have g2:=C35.za7 H.p35 x.YL hxo.1.v;have g3:=z6x H x.zg hxo.2;refine fR Z ?_;refine Run.zf Z Z (by simp;omega) ?_;refine fR Z ?_;refine Mid.zb Z Z Z h1 Z Z ?_;refine fM Z ?_;refine Mid.call (g1) Z Z Z Z ?_;refine fM Z ?_;refine Mid.call (g2) Z Z Z Z ?_;refine fM Z ?_;refine Mid.call (g3) Z Z Z Z ?_;refine fM Z ?_;refine apM Input.enc B [x] Z Z Z Z Z ?_ (h1:=by first |omega|(simp;omega)|(simp;done)) (h2:=by first |omega|(simp;omega)|(simp;done));refine fM rfl ?_;refine aL rfl rfl rfl rfl rfl ?_;refine fM rfl ?_;exact zl 1 rfl (ih (B++[x]) (by rw [←hB];simp)) rfl rfl rfl
structure NM (d:Def):Prop where
 fN:∀y,y∈d.fields->y.name≠[]
 mN:∀y,y∈d.members->y.name≠[]
 nN:∀y,y∈d.zi->y.name≠[]
 da:DA d.zg
 fa:∀y,y∈d.fields->DA y.zg
 ma:∀y,y∈d.members->DA y.zg
 fi:∀y,y∈d.fields->∀x,x∈y.args->x.zg.length<=1000000
 ni:∀x,x∈d.zi->x.zg.length<=1000000
theorem qY (H:zX P) {n:Nat} (hn:n<=1000000) (f:Field) (hf:FB n f) (hd:DA f.zg) (hi:∀x,x∈f.args->x.zg.length<=1000000):z6 P 69 [f.v] ⟨[],0⟩ {v:=(zH f).v}:=by
 have g1:=qb H f.args hf.al fun x hx=>⟨hf.ok.a x hx,hi x hx⟩;have g2:=qf H.p13.toPr f.ty.za hf.ok.t.l;have g3:=Q4 H f.zg hf.ok.d hd (by have:=hf.dl;omega);refine z6.run H.i69 H.mixed Z Z ?_;refine fR Z ?_;refine Mid.call (g1) Z Z Z Z ?_;refine fM Z ?_;refine Mid.call (g2) Z Z Z Z ?_;refine fM Z ?_;refine Mid.call (g3) Z Z Z Z ?_;refine fM Z ?_;refine Run.fin Z (z3.go ?_);exact .agg (.cons (.t Z) (.cons (.t Z) (.cons (.t Z) (.cons (.t Z) (.cons (.t Z) .nil)))))
theorem z4u (H:zX P) (l:List zh) (hl:l.length<=140737488355328) (n:Str):z6 P 87 [.t (.lst (l.map zh.enc)),.t (.str n)] ⟨[],0⟩ {v:= .tup [zh.v ((zo n l).getD zh.zero),.t (.bool (zo n l).isSome)]}:=by
 refine z6.run H.i87 H.mixed Z Z ?_;refine fR Z ?_;refine lM Z Z Z ?_;refine fM Z ?_;refine zu l (fun i (_:Unit)=>{env:=[(1,.t (.str n)),(4,.ptr 0 0),(8,.t (.lst (l.map zh.enc))),(9,.t (.int .i64 l.length)),(10,.t (.int .i64 i))],s:=⟨[(0,.cells [.t (.str []),.zC])],1⟩}) (fun r i _=>zo n l=zo n r) 1 () Z Z Z Z Z ?_ ?_
 ·intro _ hinv;refine fR Z ?_;refine Run.ze Z Z (by simp) ?_;refine fR Z ?_
  have e:zo n l=none:=by rw [hinv];rfl
  rw [e];refine Run.fin Z (z3.go ?_);exact .Ys (.agg (.cons (.t Z) (.cons (.nil Z) .nil))) (.t Z)
 ·intro i x r _ h1 hi hd hinv ih;refine fR Z ?_;refine Run.zf Z Z (by simp;omega) ?_;refine fR Z ?_;refine Mid.zb Z Z Z h1 Z Z ?_;refine fM Z ?_;refine Run.cond Z Z (fun h=>?_) (fun h=>?_)
  ·refine fR Z ?_
   have e:zo n l=some x:=by rw [hinv];simp only [zo];rw [w0e h]
   rw [e];refine Run.fin Z (z3.go ?_);exact .Ys (.le (.same Z)) (.t Z)
  ·refine fR Z ?_;refine aL Z Z Z Z Z ?_;refine fM Z ?_
   have h':¬ (x.name==n)=true:=by rw [h];simp
   exact zl 1 Z (ih () (by rw [hinv];simp only [zo];rw [w0g h'])) Z Z Z
theorem yp (n s:Str) (e:Int) (h:s≠[]):(⟨e,wi n s⟩:z4)=zK n e s:=by
 unfold wi zK;rw [w0g h];simp
theorem z5U (n f:Str) (x:Input):(⟨22,wi n (f++[40]++x.name++[41])⟩:z4)=yo (n++[46]++f) 22 x:=by
 unfold wi yo;rw [w0g (by simp)];simp
def Yv (a b:Field) (at_:Str):List z4:=zE (yt b.args) (yo at_ 22) a.args++zE (Yd a.args) (yo at_ 22) b.args
theorem z9b (a b:Field) (at_:Str):(Yv a b at_).length<=a.args.length+b.args.length:=by
 have h2:=ZC (yt b.args) (yo at_ 22) a.args;have h3:=ZC (Yd a.args) (yo at_ 22) b.args;simp only [Yv,w03];omega
theorem zeB (H:zX P) {k:Nat} (n:Str) (hn:n.length<=140737488355328) (F:List z4) (hF:F.length<=4398046500000) (a b:Field) (ha:FB k a) (hb:FB k b):z6 P 86 [.ptr 0 0,a.v,b.v] ⟨[(0,.cells [.t (.str n),.own 1 2 ((F).map z4.enc)]),(1,.arr (F).length)],2⟩ {v:= .tup [],ob:=[(0,.cells [.t (.str n),.own 1 2 ((F++Yv a b (n++[46]++a.name)).map z4.enc)]),(1,.arr (F++Yv a b (n++[46]++a.name)).length)],rd:=true}:=by
 have hal:=ha.al;have hbl:=hb.al;have hao:=ha.ok.a;have hbo:=hb.ok.a;have hnm:=ha.ok.nm;have e0:F++(zE (yt b.args) (yo (n++[46]++a.name) 22) a.args++zE (Yd a.args) (yo (n++[46]++a.name) 22) b.args)=F++Yv a b (n++[46]++a.name):=rfl;have hlen:=z9b a b (n++[46]++a.name)
 have hTl:(F++Yv a b (n++[46]++a.name)).length<=4398046511104:=by simp only [w03];omega
 generalize F++Yv a b (n++[46]++a.name)=tot at e0 hTl⊢;refine z6.run H.i86 H.mixed Z Z ?_;refine fR Z ?_;refine lM Z Z Z ?_;refine fM Z ?_;refine zu a.args (fun i (C:List z4)=>{env:=[(0,.ptr 0 0),(4,.ptr 2 0),(5,.ptr 3 0),(15,.t (.lst (a.args.map Input.enc))),(16,.t (.int .i64 a.args.length)),(17,.t (.int .i64 i))],s:=⟨[(0,.cells [.t (.str n),.own 1 2 (C.map z4.enc)]),(1,.arr C.length),(2,.cells [.t (.str a.name),.t (.lst (a.args.map Input.enc)),.t (.str a.ty.name),.t (.lst (a.ty.za.map nE)),.t (.lst (a.zg.map Dir.enc))]),(3,.cells [.t (.str b.name),.t (.lst (b.args.map Input.enc)),.t (.str b.ty.name),.t (.lst (b.ty.za.map nE)),.t (.lst (b.zg.map Dir.enc))])],4⟩}) (fun r i C=>C++(zE (yt b.args) (yo (n++[46]++a.name) 22) r++zE (Yd a.args) (yo (n++[46]++a.name) 22) b.args)=tot) 4 F Z e0 Z Z Z ?_ ?_
 ·intro C hC;refine fR Z ?_;refine Run.ze Z Z (by simp) ?_;refine fR Z ?_;refine lM Z Z Z ?_;refine fM Z ?_;refine zu b.args (fun i (C:List z4)=>{env:=[(0,.ptr 0 0),(4,.ptr 2 0),(48,.t (.lst (b.args.map Input.enc))),(49,.t (.int .i64 b.args.length)),(50,.t (.int .i64 i))],s:=⟨[(0,.cells [.t (.str n),.own 1 2 (C.map z4.enc)]),(1,.arr C.length),(2,.cells [.t (.str a.name),.t (.lst (a.args.map Input.enc)),.t (.str a.ty.name),.t (.lst (a.ty.za.map nE)),.t (.lst (a.zg.map Dir.enc))])],3⟩}) (fun r i C=>C++zE (Yd a.args) (yo (n++[46]++a.name) 22) r=tot) 3 C Z (by simpa [zE] using hC) Z Z Z ?_ ?_
  ·intro D hD
   have hD2:D=tot:=by simpa [zE] using hD
   rw [hD2];refine fR Z ?_;refine Run.ze Z Z (by simp) ?_;skip;refine Run.fin Z (z3.chg Z Z ?_ ?_)
   ·exact .le (.same Z)
   ·exact leSA
  ·intro i x r D h1 hi hdr hD ih
   have hD:D++(one (Yd a.args x) (yo (n++[46]++a.name) 22 x)++zE (Yd a.args) (yo (n++[46]++a.name) 22) r)=tot:=by rw [←hD];simp [zE]
   have hDl:D.length<=4398046511104:=by have:=congrArg List.length hD;simp only [w03] at this;omega
   have hxn:=(hbo x (zMG h1)).nm;have g1:=wx H n D hDl (Yd a.args x) 22 (a.name++[40]++x.name++[41]) (by omega) (by simp;omega);rw [z5U] at g1;refine fR Z ?_;refine Run.zf Z Z (by simp;omega) ?_;refine fR Z ?_;refine Mid.zb Z Z Z h1 Z Z ?_;refine fM Z ?_;refine Mid.call (qU H.p13.toPr a.args (by omega) x.name) Z Z Z Z ?_;refine fM Z ?_;refine pu Z ?_;refine fM Z ?_;refine pu Z ?_;refine pu Z ?_
   refine Mid.yH [0,1] (g1) Z Z Z Z (by simp [Z1];simp [zd.bd,V.bds,V.bd]) (by repeat' (first |exact trivial|exact rfl|refine And.intro ?_ ?_|exact (congrArg some (zd.ren_mE _ _ _ _ _ _)).symm|exact (congrArg some (zd.ren_cE _ _ _)).symm|(refine (congrArg some (zd.Za ?_ _ _)).symm;intro _;rfl))) Z Z (ob':=[(0,.cells [.t (.str n),.own 1 2 ((D++one (Yd a.args x) (yo (n++[46]++a.name) 22 x)).map z4.enc)]),(1,.arr (D++one (Yd a.args x) (yo (n++[46]++a.name) 22 x)).length)]) (rfl) Z Z ?_
   refine fM Z ?_;refine aL Z Z Z Z Z ?_;refine fM Z ?_;exact zl 3 Z (ih (D++one (Yd a.args x) (yo (n++[46]++a.name) 22 x)) (by rw [←hD];simp)) Z Z Z
 ·intro i x r D h1 hi hdr hD ih
  have hD:D++(one (yt b.args x) (yo (n++[46]++a.name) 22 x)++(zE (yt b.args) (yo (n++[46]++a.name) 22) r++zE (Yd a.args) (yo (n++[46]++a.name) 22) b.args))=tot:=by rw [←hD];simp [zE]
  have hDl:D.length<=4398046511104:=by have:=congrArg List.length hD;simp only [w03] at this;omega
  have hxo:=hao x (zMG h1);have hxn:=hxo.nm;have hal:=z5A H x ((zn x.name b.args).getD Input.zero) hxo (zgw hbo x.name);have g1:=wx H n D hDl (!(zn x.name b.args).isSome||!alike x ((zn x.name b.args).getD Input.zero)) 22 (a.name++[40]++x.name++[41]) (by omega) (by simp;omega)
  have e1:(!(zn x.name b.args).isSome||!alike x ((zn x.name b.args).getD Input.zero))=yt b.args x:=by unfold yt;rw [z3x]
  have e2:one (!(zn x.name b.args).isSome||!alike x ((zn x.name b.args).getD Input.zero)) ⟨22,wi n (a.name++[40]++x.name++[41])⟩=one (yt b.args x) (yo (n++[46]++a.name) 22 x):=by rw [e1,z5U]
  rw [e2] at g1;refine fR Z ?_;refine Run.zf Z Z (by simp;omega) ?_;refine fR Z ?_;refine Mid.zb Z Z Z h1 Z Z ?_;refine fM Z ?_;refine Mid.call (qU H.p13.toPr b.args (by omega) x.name) Z Z Z Z ?_;refine fM Z ?_;refine caG Z Z (fun hg=>⟨_,rfl,hal,rfl⟩) Z Z ?_;refine fM Z ?_;refine pu Z ?_;refine fM Z ?_;refine pu Z ?_;refine pu Z ?_
  refine Mid.yH [0,1] (g1) Z Z Z Z (by simp [Z1];simp [zd.bd,V.bds,V.bd]) (by repeat' (first |exact trivial|exact rfl|refine And.intro ?_ ?_|exact (congrArg some (zd.ren_mE _ _ _ _ _ _)).symm|exact (congrArg some (zd.ren_cE _ _ _)).symm|(refine (congrArg some (zd.Za ?_ _ _)).symm;intro _;rfl))) Z Z (ob':=[(0,.cells [.t (.str n),.own 1 2 ((D++one (yt b.args x) (yo (n++[46]++a.name) 22 x)).map z4.enc)]),(1,.arr (D++one (yt b.args x) (yo (n++[46]++a.name) 22 x)).length)]) (rfl) Z Z ?_
  refine fM Z ?_;refine aL Z Z Z Z Z ?_;refine fM Z ?_;exact zl 4 Z (ih (D++one (yt b.args x) (yo (n++[46]++a.name) 22 x)) (by rw [←hD];simp)) Z Z Z
def qy (a b:Def) (n:Str):List z4:=zE (Ze b.fields) (fun y=>zK n 45 y.name) a.fields++zE (Ze a.fields) (fun y=>zK n 45 y.name) b.fields
theorem zbS (a b:Def) (n:Str):(qy a b n).length<=a.fields.length+b.fields.length:=by
 have h2:=ZC (Ze b.fields) (fun y=>zK n 45 y.name) a.fields;have h3:=ZC (Ze a.fields) (fun y=>zK n 45 y.name) b.fields;simp only [qy,w03];omega
theorem zet (H:zX P) {k:Nat} (hk:k<=1000000) (n:Str) (hn:n.length<=140737488355328) (F:List z4) (hF:F.length<=4398000000000) (a b:Def) (ha:DB k a) (hb:DB k b) (na:NM a) (nb:NM b):z6 P 38 [.ptr 0 0,a.v,b.v] ⟨[(0,.cells [.t (.str n),.own 1 2 ((F).map z4.enc)]),(1,.arr (F).length)],2⟩ {v:= .tup [],ob:=[(0,.cells [.t (.str n),.own 1 2 ((F++qy a b n).map z4.enc)]),(1,.arr (F++qy a b n).length)],rd:=true}:=by
 have hal:=ha.fl;have hbl:=hb.fl;have e0:F++(zE (Ze b.fields) (fun y=>zK n 45 y.name) a.fields++zE (Ze a.fields) (fun y=>zK n 45 y.name) b.fields)=F++qy a b n:=rfl;have hlen:=zbS a b n
 have hTl:(F++qy a b n).length<=4398046511104:=by simp only [w03];omega
 generalize F++qy a b n=tot at e0 hTl⊢;refine z6.run H.i38 H.mixed Z Z ?_;refine fR Z ?_;refine lM Z Z Z ?_;refine fM Z ?_;refine zu a.fields (fun i (C:List z4)=>{env:=[(0,.ptr 0 0),(4,.ptr 2 0),(5,.ptr 3 0),(15,.t (.lst (a.fields.map Field.enc))),(16,.t (.int .i64 a.fields.length)),(17,.t (.int .i64 i))],s:=⟨[(0,.cells [.t (.str n),.own 1 2 (C.map z4.enc)]),(1,.arr C.length),(2,(TCo a)),(3,(TCo b))],4⟩}) (fun r i C=>C++(zE (Ze b.fields) (fun y=>zK n 45 y.name) r++zE (Ze a.fields) (fun y=>zK n 45 y.name) b.fields)=tot) 4 F Z e0 Z Z Z ?_ ?_
 ·intro C hC;refine fR Z ?_;refine Run.ze Z Z (by simp) ?_;refine fR Z ?_;refine lM Z Z Z ?_;refine fM Z ?_;refine zu b.fields (fun i (C:List z4)=>{env:=[(0,.ptr 0 0),(4,.ptr 2 0),(36,.t (.lst (b.fields.map Field.enc))),(37,.t (.int .i64 b.fields.length)),(38,.t (.int .i64 i))],s:=⟨[(0,.cells [.t (.str n),.own 1 2 (C.map z4.enc)]),(1,.arr C.length),(2,(TCo a))],3⟩}) (fun r i C=>C++zE (Ze a.fields) (fun y=>zK n 45 y.name) r=tot) 3 C Z (by simpa [zE] using hC) Z Z Z ?_ ?_
  ·intro D hD
   have hD2:D=tot:=by simpa [zE] using hD
   rw [hD2];refine fR Z ?_;refine Run.ze Z Z (by simp) ?_;skip;refine Run.fin Z (z3.chg Z Z ?_ ?_)
   ·exact .le (.same Z)
   ·exact leSA
  ·intro i x r D h1 hi hdr hD ih
   have hD:D++(one (Ze a.fields x) (zK n 45 x.name)++zE (Ze a.fields) (fun y=>zK n 45 y.name) r)=tot:=by rw [←hD];simp [zE]
   have hDl:D.length<=4398046511104:=by have:=congrArg List.length hD;simp only [w03] at this;omega
   have hxm:=zMG h1;have hxn:=(hb.ok.f x hxm).nm;have g1:=wx H n D hDl (Ze a.fields x) 45 x.name (by omega) (by omega);rw [yp _ _ _ (nb.fN x hxm)] at g1;refine fR Z ?_;refine Run.zf Z Z (by simp;omega) ?_;refine fR Z ?_;refine Mid.zb Z Z Z h1 Z Z ?_;refine fM Z ?_;refine Mid.call (qW H.p13.toPr a (by omega) x.name) Z Z Z Z ?_;refine fM Z ?_
   refine Mid.yH [0,1] (g1) Z Z Z Z (by simp [Z1];simp [zd.bd,V.bds,V.bd]) (by repeat' (first |exact trivial|exact rfl|refine And.intro ?_ ?_|exact (congrArg some (zd.ren_mE _ _ _ _ _ _)).symm|exact (congrArg some (zd.ren_cE _ _ _)).symm|(refine (congrArg some (zd.Za ?_ _ _)).symm;intro _;rfl))) Z Z (ob':=[(0,.cells [.t (.str n),.own 1 2 ((D++one (Ze a.fields x) (zK n 45 x.name)).map z4.enc)]),(1,.arr (D++one (Ze a.fields x) (zK n 45 x.name)).length)]) (rfl) Z Z ?_
   refine fM Z ?_;refine aL Z Z Z Z Z ?_;refine fM Z ?_;exact zl 3 Z (ih (D++one (Ze a.fields x) (zK n 45 x.name)) (by rw [←hD];simp)) Z Z Z
 ·intro i x r D h1 hi hdr hD ih
  have hD:D++(one (Ze b.fields x) (zK n 45 x.name)++(zE (Ze b.fields) (fun y=>zK n 45 y.name) r++zE (Ze a.fields) (fun y=>zK n 45 y.name) b.fields))=tot:=by rw [←hD];simp [zE]
  have hDl:D.length<=4398046511104:=by have:=congrArg List.length hD;simp only [w03] at this;omega
  have hxm:=zMG h1;have hxn:=(ha.ok.f x hxm).nm;have g1:=wx H n D hDl (Ze b.fields x) 45 x.name (by omega) (by omega);rw [yp _ _ _ (na.fN x hxm)] at g1;refine fR Z ?_;refine Run.zf Z Z (by simp;omega) ?_;refine fR Z ?_;refine Mid.zb Z Z Z h1 Z Z ?_;refine fM Z ?_;refine Mid.call (qW H.p13.toPr b (by omega) x.name) Z Z Z Z ?_;refine fM Z ?_
  refine Mid.yH [0,1] (g1) Z Z Z Z (by simp [Z1];simp [zd.bd,V.bds,V.bd]) (by repeat' (first |exact trivial|exact rfl|refine And.intro ?_ ?_|exact (congrArg some (zd.ren_mE _ _ _ _ _ _)).symm|exact (congrArg some (zd.ren_cE _ _ _)).symm|(refine (congrArg some (zd.Za ?_ _ _)).symm;intro _;rfl))) Z Z (ob':=[(0,.cells [.t (.str n),.own 1 2 ((D++one (Ze b.fields x) (zK n 45 x.name)).map z4.enc)]),(1,.arr (D++one (Ze b.fields x) (zK n 45 x.name)).length)]) (rfl) Z Z ?_
  refine fM Z ?_;refine aL Z Z Z Z Z ?_;refine fM Z ?_;exact zl 4 Z (ih (D++one (Ze b.fields x) (zK n 45 x.name)) (by rw [←hD];simp)) Z Z Z
end Go.GB.C24
