/-
  YtpakhiccblfcmaaGreatP8: lemmas. No conditions.
-/
import Derived.Test.YtpakhiccblfcmaaGreatP7
import Derived.Test.YtpakhiccblfcmaaGreatP6
import Derived.Test.YtpakhiccblfcmaaGreatP5
set_option linter.all false
set_option maxRecDepth 100000
set_option maxHeartbeats 16000000
namespace Go.GB.C29
open Go.GB Go.GB.C11 Go.GB.C18
variable {P:Program}
def zcP (P:Program) (l:List zg):Prop:=z6 P 17 [.t (.lst (l.map zg.enc))] ⟨[],0⟩ {v:= .t (.int .i64 ((zg.Zm l:Nat):Int))}
theorem z0j {p:zg}:∀{l:List zg},p∈l->zg.Zm p.z7<zg.Zm l
 |[],h=>by simp at h
 |q::r,h=>by
  simp only [w17] at h;simp only [zg.Zm]
  rcases h with rfl|h
  ·have:=zg.z06 p;omega
  ·have:=z0j h;omega
theorem z7J (H:PrP P) (l:List zg) (hb:zg.Zm l<=1099511627776) (hrec:∀p,p∈l->zcP P p.z7):zcP P l:=by
 have hl:=zg.z2C l;unfold zcP;refine z6.run H.i17 H.mixed Z Z ?_;refine fR Z ?_;refine lM Z Z Z ?_;refine fM Z ?_;refine zu l (fun i (n:Nat)=>{env:=[(0,.t (.lst (l.map zg.enc))),(3,.t (.int .i64 n)),(4,.t (.int .i64 i))],s:=⟨[],0⟩}) (fun r i n=>n+zg.Zm r=zg.Zm l+r.length) 0 l.length Z (w25 _ _) Z Z Z ?_ ?_
 ·intro n hn;simp only [zg.Zm,w16,w1s] at hn;have hn':n=zg.Zm l:=hn;refine fR Z ?_;refine lM Z Z Z ?_;refine fM Z ?_;refine Run.zf Z Z (by simp) ?_;refine fR Z ?_;refine Run.fin Z (z4.go ?_);exact .t (by rw [hn'])
 ·intro i x r n h1 hi hd hn ih;have hc:=hrec x (zMG h1);unfold zcP at hc;have hx:=zg.z06 x;have hxm:=z0j (zMG h1);have hlr:=zg.z2C r
  have hlr2:r.length<=l.length:=by rw [←hd];simp
  simp only [zg.Zm,w0b] at hn;refine fR Z ?_;refine lM Z Z Z ?_;refine fM Z ?_;refine Run.zj Z Z (by simp;omega) ?_;refine fR Z ?_;refine Mid.Z2 (zg.zx x) Z Z Z h1 Z Z ?_;refine fM Z ?_;refine Mid.call (hc) Z Z Z Z ?_;refine aN Z Z Z ?_;refine fM Z ?_;refine aL Z Z Z Z Z ?_;refine fM Z ?_;exact zh 0 Z (ih (n+zg.Zm x.z7) (by omega)) Z Z Z
theorem z4T (H:PrP P):∀(k:Nat) (l:List zg),zg.Zm l<k->zg.Zm l<=1099511627776->zcP P l
 |0,l,h,_=>by omega
 |k+1,l,h,hb=>z7J H l hb fun p hp=>z4T H k p.z7 (by have:=z0j hp;omega) (by have:=z0j hp;omega)
theorem z79 (H:PrP P) (l:List zg) (hb:zg.Zm l<=1099511627776):z6 P 17 [.t (.lst (l.map zg.enc))] ⟨[],0⟩ {v:= .t (.int .i64 ((zg.Zm l:Nat):Int))}:=z4T H _ l (w2r _) hb
structure SzF (x:Field):Prop where
 a:x.args.length<=1048576
 d:x.Zp.length<=1048576
structure SzD (t:Def):Prop where
 i:t.implements.length<=1048576
 d:t.Zp.length<=1048576
 f:t.fields.length<=1048576
 m:t.members.length<=1048576
 n:t.zp.length<=1048576
 x:∀x,x∈t.fields->SzF x
def szF:List Field->Nat->Nat
 |[],n=>n
 |x::r,n=>if n<=400 then szF r (n+x.args.length+x.Zp.length) else n
def szD:List Def->Nat->Nat
 |[],n=>n
 |t::r,n=>if n<=400 then szD r (szF t.fields (n+t.implements.length+t.Zp.length+t.fields.length+t.members.length+t.zp.length)) else n
theorem zar (H:PrP P) (ds:List Def) (hl:ds.length<=1048576) (hs:∀t,t∈ds->SzD t):z6 P 19 [yT ds,.t (.int .i64 400)] ⟨[],0⟩ {v:= .t (.int .i64 ((szD ds ds.length:Nat):Int))}:=by
 refine z6.run H.i19 H.mixed Z Z ?_;refine fR Z ?_;refine lM Z Z Z ?_;refine fM Z ?_
 refine zu ds (fun i (n:Nat)=>{env:=[(1,.t (.int .i64 400)),(2,.ptr 0 0),(5,.t (.int .i64 n)),(6,.t (.int .i64 i))],s:=⟨[(0,.cells [.t (.lst (ds.map Def.enc))])],1⟩}) (fun r i n=>szD ds ds.length=szD r n/\n<=10000000) 1 ds.length Z ⟨rfl,by omega⟩ rfl rfl rfl ?_ ?_
 ·rintro n ⟨hn,_⟩;have hn':szD ds ds.length=n:=hn;refine fR Z ?_;refine lM Z Z Z ?_;refine fM Z ?_;refine Run.zf Z Z (by simp) ?_;refine fR Z ?_;refine Run.fin Z (z4.go ?_);exact .t (by rw [hn'])
 ·rintro i t r n h1 hi hd ⟨hn,hn2⟩ ih;have ht:=hs t (zMG h1);have t1:=ht.i;have t2:=ht.d;have t3:=ht.f;have t4:=ht.m;have t5:=ht.n;refine fR Z ?_;refine lM Z Z Z ?_;refine fM Z ?_;by_cases hc:n<=400
  ·rw [szD,w0c hc] at hn;refine Run.zj Z Z (by simp;omega) ?_;refine fR Z ?_;refine Mid.za Z Z Z h1 Z Z ?_;refine fM Z ?_;refine lM Z Z Z ?_;refine aN Z Z Z ?_;refine fM Z ?_;refine lM Z Z Z ?_;refine aN Z Z Z ?_;refine fM Z ?_;refine lM Z Z Z ?_;refine aN Z Z Z ?_;refine fM Z ?_;refine lM Z Z Z ?_;refine aN Z Z Z ?_;refine fM Z ?_;refine lM Z Z Z ?_;refine aN Z Z Z ?_;refine fM Z ?_
   refine zu t.fields (fun j (m:Nat)=>{env:=[(1,.t (.int .i64 400)),(2,.ptr 0 0),(5,.t (.int .i64 m)),(6,.t (.int .i64 i)),(7,.ptr 1 0),(8,.t (.int .i64 j))],s:=⟨[(0,.cells [.t (.lst (ds.map Def.enc))]),(1,((TCo t)))],2⟩}) (fun r2 j m=>szD ds ds.length=szD r (szF r2 m)/\m<=10000000) 2 (n+t.implements.length+t.Zp.length+t.fields.length+t.members.length+t.zp.length) Z ⟨hn,by omega⟩ rfl rfl rfl ?_ ?_
   ·rintro m ⟨hm,hm2⟩;refine fR Z ?_;refine lM Z Z Z ?_;refine fM Z ?_;refine Run.zf Z Z (by simp) ?_;refine fR Z ?_;refine aL Z Z Z Z Z ?_;refine fM Z ?_;exact zh 1 Z (ih m ⟨hm,hm2⟩) Z Z Z
   ·rintro j x r2 m h2 hj hjd ⟨hm,hm2⟩ ih2;have hx:=ht.x x (zMG h2);have x1:=hx.a;have x2:=hx.d;refine fR Z ?_;refine lM Z Z Z ?_;refine fM Z ?_;by_cases hc2:m<=400
    ·rw [szF,w0c hc2] at hm;refine Run.zj Z Z (by simp;omega) ?_;refine fR Z ?_;refine Mid.za Z Z Z h2 Z Z ?_;refine fM Z ?_;refine lM Z Z Z ?_;refine aN Z Z Z ?_;refine fM Z ?_;refine Mid.za Z Z Z h2 Z Z ?_;refine fM Z ?_;refine lM Z Z Z ?_;refine aN Z Z Z ?_;refine fM Z ?_;refine aL Z Z Z Z Z ?_;refine fM Z ?_;exact zh 2 Z (ih2 (m+x.args.length+x.Zp.length) ⟨hm,by omega⟩) rfl rfl rfl
    ·rw [szF,w0d hc2] at hm;refine Run.zf Z Z (by simp;omega) ?_;refine fR Z ?_;refine aL Z Z Z Z Z ?_;refine fM Z ?_;exact zh 1 Z (ih m ⟨hm,hm2⟩) Z Z Z
  ·rw [szD,w0d hc] at hn;refine Run.zf Z Z (by simp;omega) ?_;refine fR Z ?_;refine Run.fin Z (z4.go ?_);exact .t (by rw [hn])
def tTn:Str:=[95,95,116,121,112,101,110,97,109,101]
def z1s (ds:List Def) (on nm:Str):Option Field:=Z5 nm ((zi on ds).getD Def.zero).fields
def z26 (ds:List Def) (p:zg):Bool:=
 if (decide (p.initial< -1)||(decide (p.initial≥0)&&!Wt p.ty.zw))=true then false
 else if (!zt p.key||(zdq p.key&&(!(p.key==tTn)||!(p.name==tTn))))=true then false
 else if (p.name==tTn)=true then (z0E p.ty z9f&&((p.args.length:Int)==0))&&((p.z7.length:Int)==0)
 else if ((!(z1s ds p.on p.name).isSome||!z0E ((z1s ds p.on p.name).getD Field.zero).ty p.ty)||!w9 ds ((z1s ds p.on p.name).getD Field.zero).args p.args)=true then false
 else ((p.z7.length:Int)==0)||!zcQ ds p.ty.name
theorem zbg {ds:List Def} (hD:Z6 ds) (on nm:Str):((z1s ds on nm).getD Field.zero).Ok:=by
 unfold z1s
 cases hg:Z5 nm ((zi on ds).getD Def.zero).fields with
 |none=>exact Field.ZF
 |some y=>
  have hm:=w8 hg
  cases ht:zi on ds with
  |none=>rw [ht] at hm;simp [Def.zero] at hm
  |some t=>rw [ht] at hm;exact (hD.d t (ZN ht)).f y hm
theorem zbU {ds:List Def} (hD:Z6 ds) (on:Str):((zi on ds).getD Def.zero).Ok:=by
 cases ht:zi on ds with
 |none=>exact Def.ZF
 |some t=>exact hD.d t (ZN ht)
theorem zcE:z9f.Ok:=⟨by decide,by decide⟩
theorem zaz (H:PrP P) (ds:List Def) (hD:Z6 ds) (hni:∀d,d∈ds->d.zp.length<=1099511627776) (p:zg) (hp:p.Ok):z6 P 67 [yT ds,p.v] ⟨[],0⟩ {v:= .t (.bool (z26 ds p))}:=by
 have hal:=hp.al;have hpl:=hp.pl;have hdo:=zbU hD p.on;have hfo:=zbg hD p.on p.name;have hfa:=hfo.al;have hff:=Q3 H.s.w.p18.toPr13.toPr ((zi p.on ds).getD Def.zero) hdo.fl p.name;generalize hR:z26 ds p=R;unfold z26 tTn at hR;change z6 P 101 _ _ {v:= .tup [((z1s ds p.on p.name).getD Field.zero).v,.t (.bool (z1s ds p.on p.name).isSome)]} at hff;generalize z1s ds p.on p.name=fo at hR hff hfo hfa;refine z6.run H.i67 H.mixed Z Z ?_;refine fR Z ?_;refine caG Z Z (fun hg=>⟨_,rfl,z0c H.s.w.p18.toPr13.toPr p.ty hp.t,rfl⟩) Z Z ?_;refine fM Z ?_;refine Run.cond Z Z (fun h1=>?_) (fun h1=>?_)
 ·rw [w0c h1] at hR;subst hR;refine fR Z ?_;refine Run.fin Z (z4.go ?_);exact .t Z
 rw [w0d (by rw [h1];simp)] at hR;refine fR Z ?_;refine Mid.call (z6o H.s.w.p18.toPr13.toPr p.key) Z Z Z Z ?_;refine fM Z ?_;refine caG Z Z (fun hg=>⟨_,rfl,zdF H.s.w.p18.toPr13.toPr p.key,rfl⟩) Z Z ?_;refine fM Z ?_;refine Run.cond Z Z (fun h2=>?_) (fun h2=>?_)
 ·rw [w0c h2] at hR;subst hR;refine fR Z ?_;refine Run.fin Z (z4.go ?_);exact .t Z
 rw [w0d (by rw [h2];simp)] at hR;refine fR Z ?_;refine Run.cond Z Z (fun h3=>?_) (fun h3=>?_)
 ·rw [w0c h3] at hR;subst hR;refine fR Z ?_;refine Mid.call (zgj H) Z Z Z Z ?_;skip;refine Mid.call (W8 H.s.w.p18.toPr13 p.ty z9f hp.t zcE) Z Z Z Z ?_;refine fM Z ?_;refine lMG Z Z Z Z ?_;refine fM Z ?_;refine lMG Z Z Z Z ?_;refine fM Z ?_;refine Run.fin Z (z4.go ?_);exact .t Z
 rw [w0d (by rw [h3];simp)] at hR;refine fR Z ?_;refine Mid.call (yh H.s.w.p18.toPr13.toPr ds hD.l p.on) Z Z Z Z ?_;refine fM Z ?_;refine Mid.call (hff) Z Z Z Z ?_;refine fM Z ?_;refine caG Z Z (fun hg=>⟨_,rfl,W8 H.s.w.p18.toPr13 (fo.getD Field.zero).ty p.ty hfo.t hp.t,rfl⟩) Z Z ?_;refine fM Z ?_;refine caG Z Z (fun hg=>⟨_,rfl,zaU H ds hD hni (fo.getD Field.zero).args hfa hfo.a p.args (by omega) hp.aa,rfl⟩) Z Z ?_;refine fM Z ?_;refine Run.cond Z Z (fun h4=>?_) (fun h4=>?_)
 ·rw [w0c h4] at hR;subst hR;refine fR Z ?_;refine Run.fin Z (z4.go ?_);exact .t Z
 rw [w0d (by rw [h4];simp)] at hR;subst hR;refine fR Z ?_;refine lM Z Z Z ?_;refine fM Z ?_;refine caG Z Z (fun hg=>⟨_,rfl,z8L H.s.w.p18.toPr13.toPr ds hD p.ty.name,rfl⟩) Z Z ?_;refine fM Z ?_;refine Run.fin Z (z4.go ?_);exact .t Z
def zen (pre:List zg) (p:zg):Bool:=pre.any fun q=>q.on==p.on&&q.key==p.key
def lrL (ds:List Def) (lv:Nat) (rec:Str->List zg->Bool) (ts:List Str) (l0:List zg):Nat->Int->List zg->Bool
 |_,_,[]=>true
 |i,last,p::r=>if (((decide ((lv:Int)>24)||decide (Zi p.on ts 0<last))||!z26 ds p)||!rec p.ty.name p.z7)=true then false
   else if zen (l0.take i) p=true then false else lrL ds lv rec ts l0 (i+1) (Zi p.on ts 0) r
def lrB (ds:List Def) (lv:Nat) (rec:Str->List zg->Bool):Str->List zg->Bool:=fun nm l=>lrL ds lv rec (Y3 ds nm) l 0 0 l
def LrC (P:Program) (ds:List Def) (lv:Nat) (F:Str->List zg->Bool):Prop:=∀(nm:Str) (l:List zg),l.length*160<=140737488355328->(∀x,x∈l->x.Ok)->
 z6 P 38 [yT ds,.t (.str nm),.t (.lst (l.map zg.enc)),.t (.int .i64 lv)] ⟨[],0⟩ {v:= .t (.bool (F nm l))}
theorem z7D (ds:List Def) (hD:Z6 ds) (nm:Str):(Y3 ds nm).length<=140737488355328:=by
 exact w0u (qO ds nm) hD.l
theorem z47 (H:PrP P) (ds:List Def) (hD:Z6 ds) (hni:∀d,d∈ds->d.zp.length<=1099511627776) (lv:Nat) (hlv:lv<=100) (rec:Str->List zg->Bool) (hrec:lv<=24->LrC P ds (lv+1) rec):LrC P ds lv (lrB ds lv rec):=by
 intro nm l hl ho;generalize hR:lrB ds lv rec nm l=R;unfold lrB at hR;have hpos:=z7D ds hD nm;refine z6.run H.i38 H.mixed Z Z ?_;refine fR Z ?_;refine Mid.call (qg H.s.w.p18.toPr13.toPr ds hD nm) Z Z Z Z ?_;refine fM Z ?_;generalize Y3 ds nm=ts at hR hpos;refine zu l (fun i (n:Int)=>{env:=[(2,.t (.lst (l.map zg.enc))),(3,.t (.int .i64 lv)),(4,.ptr 0 0),(9,.t (.lst (ts.map sE))),(10,.t (.int .i64 n)),(11,.t (.int .i64 i))],s:=⟨[(0,.cells [.t (.lst (ds.map Def.enc))])],1⟩}) (fun r i n=>lrL ds lv rec ts l i n r=R) 1 0 Z hR Z Z Z ?_ ?_
 ·intro n hn;have hR':R=true:=hn.symm;subst hR';refine fR Z ?_;refine lM Z Z Z ?_;refine fM Z ?_;refine Run.zf Z Z (by simp) ?_;refine fR Z ?_;refine Run.fin Z (z4.go ?_);exact .t Z
 ·intro i p r n k1 hi hd hn ih;have hpo:=ho p (zMG k1);have hppl:=hpo.pl;simp only [lrL] at hn;refine fR Z ?_;refine lM Z Z Z ?_;refine fM Z ?_;refine Run.zj Z Z (by simp;omega) ?_;refine fR Z ?_;refine Mid.Z2 (zg.zx p) Z Z Z k1 Z Z ?_;refine fM Z ?_;refine Mid.call (z7E H ts hpos p.on) Z Z Z Z ?_;refine fM Z ?_;generalize Zi p.on ts 0=at_ at hn
  refine Mid.WJ (zg.zx p) Z Z Z Z k1 Z (by (repeat' (first |exact trivial|exact w0j _|exact yY _|exact yX _|exact grd3 _ _|exact yZ _ _|refine And.intro ?_ ?_|exact rfl|(simp;done)|(simp<;>omega)));done) (by (repeat' (first |exact trivial|exact w0j _|exact yY _|exact yX _|exact grd3 _ _|exact yZ _ _|refine And.intro ?_ ?_|exact rfl|(simp;done)|(simp<;>omega)));done) Z ?_
  refine fM Z ?_;refine caG Z Z (fun hg=>⟨_,rfl,zaz H ds hD hni p hpo,rfl⟩) Z Z ?_;refine fM Z ?_
  refine Mid.WJ (zg.zx p) Z Z Z Z k1 Z (by (repeat' (first |exact trivial|exact w0j _|exact yY _|exact yX _|exact grd3 _ _|exact yZ _ _|refine And.intro ?_ ?_|exact rfl|(simp;done)|(simp<;>omega)));done) (by (repeat' (first |exact trivial|exact w0j _|exact yY _|exact yX _|exact grd3 _ _|exact yZ _ _|refine And.intro ?_ ?_|exact rfl|(simp;done)|(simp<;>omega)));done) Z ?_
  refine fM Z ?_
  refine Mid.WJ (zg.zx p) Z Z Z Z k1 Z (by (repeat' (first |exact trivial|exact w0j _|exact yY _|exact yX _|exact grd3 _ _|exact yZ _ _|refine And.intro ?_ ?_|exact rfl|(simp;done)|(simp<;>omega)));done) (by (repeat' (first |exact trivial|exact w0j _|exact yY _|exact yX _|exact grd3 _ _|exact yZ _ _|refine And.intro ?_ ?_|exact rfl|(simp;done)|(simp<;>omega)));done) Z ?_
  refine fM Z ?_;refine aLG Z Z Z Z Z Z ?_;refine caG Z Z (fun hg=>⟨_,rfl,hrec (by simp at hg;omega) p.ty.name p.z7 hppl hpo.p,rfl⟩) Z Z ?_;refine fM Z ?_;refine Run.cond Z Z (fun h1=>?_) (fun h1=>?_)
  ·rw [w0c h1] at hn;subst hn;refine fR Z ?_;refine Run.fin Z (z4.go ?_);exact .t Z
  rw [w0d (by rw [h1];simp)] at hn
  have hl2:(l.take i).length=i:=by simp;omega
  refine fR Z ?_;generalize hD2:zen (l.take i) p=D2 at hn;refine zu (l.take i) (fun k (_:Unit)=>{env:=[(2,.t (.lst (l.map zg.enc))),(3,.t (.int .i64 lv)),(4,.ptr 0 0),(9,.t (.lst (ts.map sE))),(10,.t (.int .i64 at_)),(11,.t (.int .i64 i)),(13,.t (.int .i64 k))],s:=⟨[(0,.cells [.t (.lst (ds.map Def.enc))])],1⟩}) (fun r2 k _=>zen r2 p=D2) 1 () Z hD2 Z Z Z ?_ ?_
  ·intro _ hinv;have hinv':D2=false:=hinv.symm;rw [w0d (by rw [hinv'];simp)] at hn;rw [hl2];refine fR Z ?_;refine Run.zf Z Z (by simp) ?_;refine fR Z ?_;refine aL Z Z Z Z Z ?_;refine fM Z ?_;exact zh 1 Z (ih at_ hn) Z Z Z
  ·intro k q r2 _ j1 hk hd2 hinv ih2
   have hki:k<i:=by omega
   have j2:l[k]?=some q:=by rw [w0p,w0c hki] at j1;exact j1
   have hinv':(q.on==p.on&&q.key==p.key||zen r2 p)=D2:=hinv;refine fR Z ?_;refine Run.zj Z Z (by simp;omega) ?_;refine fR Z ?_;refine Mid.Z2 (zg.zx q) Z Z Z j2 Z Z ?_;refine fM Z ?_;refine Mid.Z2 (zg.zx p) Z Z Z k1 Z Z ?_;refine fM Z ?_
   refine Mid.WJ (zg.zx q) Z Z Z Z j2 Z (by (repeat' (first |exact trivial|exact w0j _|exact yY _|exact yX _|exact grd3 _ _|exact yZ _ _|refine And.intro ?_ ?_|exact rfl|(simp;done)|(simp<;>omega)));done) (by (repeat' (first |exact trivial|exact w0j _|exact yY _|exact yX _|exact grd3 _ _|exact yZ _ _|refine And.intro ?_ ?_|exact rfl|(simp;done)|(simp<;>omega)));done) Z ?_
   refine fM Z ?_
   refine Mid.WJ (zg.zx p) Z Z Z Z k1 Z (by (repeat' (first |exact trivial|exact w0j _|exact yY _|exact yX _|exact grd3 _ _|exact yZ _ _|refine And.intro ?_ ?_|exact rfl|(simp;done)|(simp<;>omega)));done) (by (repeat' (first |exact trivial|exact w0j _|exact yY _|exact yX _|exact grd3 _ _|exact yZ _ _|refine And.intro ?_ ?_|exact rfl|(simp;done)|(simp<;>omega)));done) Z ?_
   refine fM Z ?_;refine Run.cond Z Z (fun h2=>?_) (fun h2=>?_)
   ·rw [h2,w2i] at hinv';rw [w0c hinv'.symm] at hn;subst hn;refine fR Z ?_;refine Run.fin Z (z4.go ?_);exact .t Z
   ·rw [h2,w1x] at hinv';refine fR Z ?_;refine aL Z Z Z Z Z ?_;refine fM Z ?_;exact zh 1 Z (ih2 () hinv') Z Z Z
def lrN (ds:List Def):Nat->Str->List zg->Bool
 |0=>lrB ds 25 fun _ _=>false
 |k+1=>lrB ds (24 - k) (lrN ds k)
theorem zca (H:PrP P) (ds:List Def) (hD:Z6 ds) (hni:∀d,d∈ds->d.zp.length<=1099511627776):∀(k:Nat),k<=24->LrC P ds (25 - k) (lrN ds k)
 |0,_=>z47 H ds hD hni 25 (by omega) _ (fun h=>by omega)
 |k+1,hk=>by
  have h:=zca H ds hD hni k (by omega)
  have e:25 - (k+1)=24 - k:=by omega
  rw [e]
  have e2:25 - k=24 - k+1:=by omega
  rw [e2] at h;exact z47 H ds hD hni (24 - k) (by omega) (lrN ds k) (fun _=>h)
def z2Z (ds:List Def) (kind:Int) (l:List zg):Bool:=
 (((zi (yV kind) ds).isSome&&(((zi (yV kind) ds).getD Def.zero).kind==1))&&decide (((zg.Zm l:Nat):Int)<=2048))&&lrN ds 24 ((zi (yV kind) ds).getD Def.zero).name l
theorem z7Y (H:PrP P) (ds:List Def) (hD:Z6 ds) (hni:∀d,d∈ds->d.zp.length<=1099511627776) (kind:Int) (l:List zg) (hl:l.length*160<=140737488355328) (ho:∀x,x∈l->x.Ok) (hc:zg.Zm l<=1099511627776):
  z6 P 20 [yT ds,.agg [.t (.int .i64 kind),.t (.lst (l.map zg.enc))]] ⟨[],0⟩ {v:= .t (.bool (z2Z ds kind l))}:=by
 have h24:=zca H ds hD hni 24 (w07 _) ((zi (yV kind) ds).getD Def.zero).name l hl ho;refine z6.run H.i20 H.mixed Z Z ?_;refine fR Z ?_;refine Mid.call (z6F H.p29 kind) Z Z Z Z ?_;skip;refine Mid.call (yh H.s.w.p18.toPr13.toPr ds hD.l (yV kind)) Z Z Z Z ?_;refine fM Z ?_;refine caG Z Z (fun hg=>⟨_,rfl,z79 H l hc,rfl⟩) Z Z ?_;refine fM Z ?_;refine caG Z Z (fun hg=>⟨_,rfl,h24,rfl⟩) Z Z ?_;refine fM Z ?_;refine Run.fin Z (z4.go ?_);exact .t Z
end Go.GB.C29
namespace Go.GB.C29
open Go.GB Go.GB.C26
structure PrL (P:Program):Prop where
 r:z2E P
 p:PrP P
 mixed:P.follows .mixedOrders=true
 i7:z9 P 7=some (n7,c7.bare,r7)
 i12:z9 P 12=some (n12,c12.bare,r12)
 i13:z9 P 13=some (n13,c13.bare,r13)
 i18:z9 P 18=some (n18,c18.bare,r18)
variable {P:Program}
theorem z5W (H:PrL P) (l:List ze) (hl:l.length<=140737488355328) (ho:∀x,x∈l->x.Zk.length<=100000):z6 P 12 [.t (.lst (l.map ze.enc)),.t (.lst (l.map ze.enc))] ⟨[],0⟩ {v:= .t (.bool true)}:=by
 refine z6.run H.i12 H.mixed Z Z ?_;refine fR Z ?_;refine lM Z Z Z ?_;refine fM Z ?_;refine lM Z Z Z ?_;refine fM Z ?_;refine Run.zf Z Z (by simp) ?_;refine fR Z ?_;refine zu l (fun i (_:Unit)=>{env:=[(0,.t (.lst (l.map ze.enc))),(1,.t (.lst (l.map ze.enc))),(5,.t (.int .i64 i))],s:=⟨[],0⟩}) (fun r i _=>True) 0 () Z trivial Z Z Z ?_ ?_
 ·intro _ _;refine fR Z ?_;refine lM Z Z Z ?_;refine fM Z ?_;refine Run.zf Z Z (by simp) ?_;refine fR Z ?_;refine Run.fin Z (z4.go ?_);exact .t Z
 ·intro i x r _ h1 hi hd _ ih;have hxo:=ho x (zMG h1);refine fR Z ?_;refine lM Z Z Z ?_;refine fM Z ?_;refine Run.zj Z Z (by simp;omega) ?_;refine fR Z ?_;refine Mid.za Z Z Z h1 Z Z ?_;refine fM Z ?_;refine Mid.za Z Z Z h1 Z Z ?_;refine fM Z ?_;refine elG Z Z Z Z h1 Z Z ?_;refine fM Z ?_;refine elG Z Z Z Z h1 Z Z ?_;refine fM Z ?_;refine elG Z Z Z Z h1 Z Z ?_;refine fM Z ?_;refine lMG Z Z Z Z ?_;refine fM Z ?_;refine elG Z Z Z Z h1 Z Z ?_;refine fM Z ?_;refine lMG Z Z Z Z ?_;refine fM Z ?_;refine Run.zf Z Z (by simp) ?_;refine fR Z ?_;refine zu x.Zk (fun k (_:Unit)=>{env:=[(0,.t (.lst (l.map ze.enc))),(1,.t (.lst (l.map ze.enc))),(5,.t (.int .i64 i)),(6,.t (.int .i64 k))],s:=⟨[],0⟩}) (fun r i _=>True) 0 () Z trivial Z Z Z ?_ ?_
  ·intro _ _;refine fR Z ?_;refine Mid.za Z Z Z h1 Z Z ?_;refine fM Z ?_;refine lM Z Z Z ?_;refine fM Z ?_;refine Run.zf Z Z (by simp) ?_;refine fR Z ?_;refine aL Z Z Z Z Z ?_;refine fM Z ?_;exact zh 0 Z (ih () trivial) Z Z Z
  ·intro k y r2 _ k1 hk kd _ ih2;refine fR Z ?_;refine Mid.za Z Z Z h1 Z Z ?_;refine fM Z ?_;refine lM Z Z Z ?_;refine fM Z ?_;refine Run.zj Z Z (by simp;omega) ?_;refine fR Z ?_;refine Mid.za Z Z Z h1 Z Z ?_;refine fM Z ?_;refine Mid.za Z Z Z k1 Z Z ?_;refine fM Z ?_;refine Mid.za Z Z Z h1 Z Z ?_;refine fM Z ?_;refine Mid.za Z Z Z k1 Z Z ?_;refine fM Z ?_;refine Run.zf Z Z (by simp) ?_;refine fR Z ?_;refine aL Z Z Z Z Z ?_;refine fM Z ?_;exact zh 0 Z (ih2 () trivial) Z Z Z
theorem z6w {c:Str->Str->Int} (hc:∀s,c s s=0):∀k:Nat,(∀a:Val,SizeOf.sizeOf a<=k->C35.z0X c a a=0)/\∀(l:List Val) (ka:List Str) (j:Nat),SizeOf.sizeOf l<=k->C35.YQ c l l ka ka j 0=0
 |0=>⟨fun a h=>by cases a;simp at h,fun l ka j h=>by cases l<;>simp at h⟩
 |k+1=>by
  obtain ⟨h1,h2⟩:=z6w hc k
  have hi:∀z:Int,C35.Wx z z=0:=fun z=>by simp [C35.Wx]
  refine ⟨fun a h=>?_,fun l ka j h=>?_⟩
  ·rw [C35.z27];simp only [hi,hc,ne_eq,not_true_eq_false,w0r]
   exact h2 _ _ _ (by cases a with|mk a1 a2 a3 a4 a5=>simp [Val.items] at h⊢;omega)
  ·cases l with
   |nil=>simp [C35.YQ]
   |cons x r=>
    simp at h;simp only [C35.YQ,hc,h1 x (by omega),ne_eq,not_true_eq_false,w0r];exact h2 r ka (j+1) (by omega)
theorem z8t (a:Val):C35.z4v a a=true:=by
 unfold C35.z4v;rw [(z6w (fun s=>C35.z2W.2 rfl) _).1 a (w07 _)];rfl
theorem z7U (a:Ref):C11.z0E a a=true:=by simp [C11.z0E]
def zbb (P:Program) (l:List zg):Prop:=z6 P 13 [.t (.lst (l.map zg.enc)),.t (.lst (l.map zg.enc))] ⟨[],0⟩ {v:= .t (.bool true)}
theorem z3y (H:PrL P) (l:List zg) (hl:l.length<=140737488355328) (ho:∀p,p∈l->p.Ok) (hrec:∀p,p∈l->zbb P p.z7):zbb P l:=by
 unfold zbb;refine z6.run H.i13 H.mixed Z Z ?_;refine fR Z ?_;refine lM Z Z Z ?_;refine fM Z ?_;refine lM Z Z Z ?_;refine fM Z ?_;refine Run.zf Z Z (by simp) ?_;refine fR Z ?_;refine zu l (fun i (_:Unit)=>{env:=[(0,.t (.lst (l.map zg.enc))),(1,.t (.lst (l.map zg.enc))),(5,.t (.int .i64 i))],s:=⟨[],0⟩}) (fun r i _=>True) 0 () Z trivial Z Z Z ?_ ?_
 ·intro _ _;refine fR Z ?_;refine lM Z Z Z ?_;refine fM Z ?_;refine Run.zf Z Z (by simp) ?_;refine fR Z ?_;refine Run.fin Z (z4.go ?_);exact .t Z
 ·intro i x r _ h1 hi hd _ ih;have hxo:=ho x (zMG h1);have hxa:=hxo.al;have hxl:=hxo.pl;have hc:=hrec x (zMG h1);unfold zbb at hc;have hs:=C11.W8 H.p.s.w.p18.toPr13 x.ty x.ty hxo.t hxo.t;rw [z7U] at hs;refine fR Z ?_;refine lM Z Z Z ?_;refine fM Z ?_;refine Run.zj Z Z (by simp;omega) ?_;refine fR Z ?_;refine Mid.Z2 (zg.zx x) Z Z Z h1 Z Z ?_;refine fM Z ?_;refine Mid.Z2 (zg.zx x) Z Z Z h1 Z Z ?_;refine fM Z ?_;refine caG Z Z (fun hg=>⟨_,rfl,hs,rfl⟩) Z Z ?_;refine fM Z ?_;refine lMG Z Z Z Z ?_;refine fM Z ?_;refine lMG Z Z Z Z ?_;refine fM Z ?_;refine caG Z Z (fun hg=>⟨_,rfl,hc,rfl⟩) Z Z ?_;refine fM Z ?_;refine Run.zf Z Z (by simp) ?_;refine fR Z ?_;refine zu x.args (fun k (_:Unit)=>{env:=[(0,.t (.lst (l.map zg.enc))),(1,.t (.lst (l.map zg.enc))),(5,.t (.int .i64 i)),(6,.ptr 0 0),(7,.ptr 1 0),(8,.t (.int .i64 k))],s:=⟨[(0,(XBo x)),(1,(XBo x))],2⟩}) (fun r i _=>True) 2 () Z trivial Z Z Z ?_ ?_
  ·intro _ _;refine fR Z ?_;refine lM Z Z Z ?_;refine fM Z ?_;refine Run.zf Z Z (by simp) ?_;refine fR Z ?_;refine aL Z Z Z Z Z ?_;refine fM Z ?_;exact zh 0 Z (ih () trivial) Z Z Z
  ·intro k a r2 _ k1 hk kd _ ih2;have hv:=C35.z7r H.p.c a.val a.val (hxo.aa a (zMG k1)) (hxo.aa a (zMG k1));rw [z8t] at hv;refine fR Z ?_;refine lM Z Z Z ?_;refine fM Z ?_;refine Run.zj Z Z (by simp;omega) ?_;refine fR Z ?_;refine Mid.za Z Z Z k1 Z Z ?_;refine fM Z ?_;refine Mid.za Z Z Z k1 Z Z ?_;refine fM Z ?_;refine elG Z Z Z Z k1 Z Z ?_;refine fM Z ?_;refine elG Z Z Z Z k1 Z Z ?_;refine fM Z ?_;refine caG Z Z (fun hg=>⟨_,rfl,hv,rfl⟩) Z Z ?_;refine fM Z ?_;refine Run.zf Z Z (by simp) ?_;refine fR Z ?_;refine aL Z Z Z Z Z ?_;refine fM Z ?_;exact zh 2 Z (ih2 () trivial) Z Z Z
theorem QK (H:PrL P):∀(k:Nat) (l:List zg),SizeOf.sizeOf l<=k->l.length<=140737488355328->(∀p,p∈l->p.Ok)->zbb P l
 |0,l,h,_,_=>by cases l<;>simp at h
 |k+1,l,h,hl,ho=>z3y H l hl ho fun p hp=>QK H k p.z7 (by
   have h1:=List.sizeOf_lt_of_mem hp
   have h2:SizeOf.sizeOf p.z7<SizeOf.sizeOf p:=by cases p with|mk a b c d e f g h=>simp [zg.z7];omega
   omega) (by have:=(ho p hp).pl;omega) (ho p hp).p
theorem z52 (H:PrL P) (l:List zg) (hl:l.length<=140737488355328) (ho:∀p,p∈l->p.Ok):z6 P 13 [.t (.lst (l.map zg.enc)),.t (.lst (l.map zg.enc))] ⟨[],0⟩ {v:= .t (.bool true)}:=QK H _ l (w07 _) hl ho
def zcJ (n:Int) (k:zA):Bool:=(decide (k.graph<0)||decide (k.graph≥n))||decide ((k.fields.length:Int)>10)
def z4F (n:Int) (j:zo):Bool:=((decide (j.graph<0)||decide (j.graph≥n))||decide ((j.req.length:Int)>10))||decide ((j.Zk.length:Int)>10)
def z9M (s:zH) (ds:List Def):Bool:=
 if ((((!z3F C11.zt C11.QZ C11.YW ds||decide (((z9Q ds).length:Int)>0))||decide ((s.z3.length:Int)>8))||decide ((s.keys.length:Int)>100))||decide ((s.zr.length:Int)>300))=true then false
 else !(s.keys.any (zcJ s.z3.length))&&!(s.zr.any (z4F s.z3.length))
structure zeo (ds:List Def):Prop where
 ok:Z6 ds
 ni:∀d,d∈ds->d.zp.length<=1099511627776
 nf:∀d,d∈ds->∀f,f∈d.fields->f.args.length<=1099511627776
 c:(C11.Ym ds true).length<=4398046511104
 f:z3F C11.zt C11.QZ C11.YW ds=true->(C11.WU ds).length<=4398046511104
 d:(W0 ds ds).length<=1000000000000
 l:ds.length<=1048576
 sz:∀t,t∈ds->SzD t
theorem z6Z (H:PrL P) (s:zH) (ds:List Def) (hD:zeo ds) (hd:s.doc= .lst (ds.map Def.enc)) (hg:s.z3.length<=140737488355328) (hk:s.keys.length<=140737488355328) (hj:s.zr.length<=140737488355328)
  (hkf:∀k,k∈s.keys->k.fields.length<=140737488355328) (hjf:∀j,j∈s.zr->j.req.length<=140737488355328/\j.Zk.length<=140737488355328):z6 P 18 [s.v] ⟨[],0⟩ {v:= .t (.bool (z9M s ds))}:=by
 have hr:=z3C H.p.r (zfF H.p.s) ds hD.ok;have hs:z3F C11.zt C11.QZ C11.YW ds=true->z6 P 36 [yT ds] ⟨[],0⟩ {v:= .t (.lst ((z9Q ds).map C11.zn.enc))}:=fun h=>zax H.p.s ds hD.ok hD.ni hD.nf hD.c (hD.f h) hD.d;unfold yT at hr hs;rw [←hd] at hr hs;generalize hR:z9M s ds=R;unfold z9M at hR;generalize z3F C11.zt C11.QZ C11.YW ds=dr at hr hs hR;generalize z9Q ds=sc at hs hR;refine z6.run H.i18 H.mixed Z Z ?_;refine fR Z ?_;refine lM Z Z Z ?_;refine fM Z ?_;refine Mid.call (hr) Z Z Z Z ?_;refine fM Z ?_;refine caG Z Z (fun hg=>⟨_,rfl,hs (by simpa using hg),rfl⟩) Z Z ?_;refine lMG Z Z Z Z ?_;refine fM Z ?_;refine lMG Z Z Z Z ?_;refine fM Z ?_;refine lMG Z Z Z Z ?_;refine fM Z ?_;refine Run.cond Z Z (fun h1=>?_) (fun h1=>?_)
 ·rw [w0c h1] at hR;subst hR;refine fR Z ?_;refine Run.fin Z (z4.go ?_);exact .t Z
 rw [w0d (by rw [h1];simp)] at hR;refine fR Z ?_;refine zu s.keys (fun i (_:Unit)=>{env:=[(1,.ptr 0 0),(3,.t (.int .i64 (s.z3.length:Nat))),(4,.t (.int .i64 i))],s:=⟨[(0,.cells [.t (.lst (s.z3.map sE)),.t s.doc,.t (.lst (s.keys.map zA.enc)),.t (.lst (s.zr.map zo.enc))])],1⟩}) (fun r i _=>(!(r.any (zcJ s.z3.length))&&!(s.zr.any (z4F s.z3.length)))=R) 1 () Z hR Z Z Z ?_ ?_
 ·intro _ hinv;simp only [List.any_nil,w2e,w13] at hinv;refine fR Z ?_;refine lM Z Z Z ?_;refine fM Z ?_;refine Run.zf Z Z (by simp) ?_;refine fR Z ?_;refine zu s.zr (fun i (_:Unit)=>{env:=[(1,.ptr 0 0),(3,.t (.int .i64 (s.z3.length:Nat))),(5,.t (.int .i64 i))],s:=⟨[(0,.cells [.t (.lst (s.z3.map sE)),.t s.doc,.t (.lst (s.keys.map zA.enc)),.t (.lst (s.zr.map zo.enc))])],1⟩}) (fun r i _=>(!(r.any (z4F s.z3.length)))=R) 1 () Z hinv Z Z Z ?_ ?_
  ·intro _ hinv;simp only [List.any_nil,w2e] at hinv;refine fR Z ?_;refine lM Z Z Z ?_;refine fM Z ?_;refine Run.zf Z Z (by simp) ?_;refine fR Z ?_;refine Run.fin Z (z4.go ?_);exact .t (by rw [←hinv])
  ·intro i j r _ k1 hi hd _ ih;have hjj:=hjf j (zMG k1);obtain ⟨hj1,hj2⟩:=hjj;rename_i hinv;refine fR Z ?_;refine lM Z Z Z ?_;refine fM Z ?_;refine Run.zj Z Z (by simp;omega) ?_;refine fR Z ?_;refine Mid.za Z Z Z k1 Z Z ?_;refine fM Z ?_;refine elG Z Z Z Z k1 Z Z ?_;refine fM Z ?_;refine elG Z Z Z Z k1 Z Z ?_;refine fM Z ?_;refine lMG Z Z Z Z ?_;refine fM Z ?_;refine elG Z Z Z Z k1 Z Z ?_;refine fM Z ?_;refine lMG Z Z Z Z ?_;refine fM Z ?_;refine Run.cond Z Z (fun h2=>?_) (fun h2=>?_)
   ·have h2':z4F s.z3.length j=true:=h2;simp only [w14,h2',w2i,Bool.not_true] at hinv;subst hinv;refine fR Z ?_;refine Run.fin Z (z4.go ?_);exact .t Z
   ·have h2':z4F s.z3.length j=false:=h2;simp only [w14,h2',w1x] at hinv;refine fR Z ?_;refine aL Z Z Z Z Z ?_;refine fM Z ?_;exact zh 1 Z (ih () hinv) Z Z Z
 ·intro i k r _ k1 hi hd hinv ih;have hkk:=hkf k (zMG k1);refine fR Z ?_;refine lM Z Z Z ?_;refine fM Z ?_;refine Run.zj Z Z (by simp;omega) ?_;refine fR Z ?_;refine Mid.za Z Z Z k1 Z Z ?_;refine fM Z ?_;refine elG Z Z Z Z k1 Z Z ?_;refine fM Z ?_;refine elG Z Z Z Z k1 Z Z ?_;refine fM Z ?_;refine lMG Z Z Z Z ?_;refine fM Z ?_;refine Run.cond Z Z (fun h2=>?_) (fun h2=>?_)
  ·have h2':zcJ s.z3.length k=true:=h2;simp only [w14,h2',w2i,Bool.not_true,w15] at hinv;subst hinv;refine fR Z ?_;refine Run.fin Z (z4.go ?_);exact .t Z
  ·have h2':zcJ s.z3.length k=false:=h2;simp only [w14,h2',w1x] at hinv;refine fR Z ?_;refine aL Z Z Z Z Z ?_;refine fM Z ?_;exact zh 1 Z (ih () hinv) Z Z Z
def wV (s:zH) (ds:List Def) (kind:Int) (z7:List zg):Bool:=
 ((!z9M s ds||decide (((szD ds ds.length:Nat):Int)>400))||decide (((zg.Zm z7:Nat):Int)>200))||!z2Z ds kind z7
theorem z2T (H:PrL P) (s:zH) (ds:List Def) (hD:zeo ds) (hd:s.doc= .lst (ds.map Def.enc)) (hg:s.z3.length<=140737488355328) (hk:s.keys.length<=140737488355328) (hj:s.zr.length<=140737488355328)
  (hkf:∀k,k∈s.keys->k.fields.length<=140737488355328) (hjf:∀j,j∈s.zr->j.req.length<=140737488355328/\j.Zk.length<=140737488355328)
  (kind:Int) (z7:List zg) (hl:z7.length*160<=140737488355328) (ho:∀x,x∈z7->x.Ok) (hc:zg.Zm z7<=1099511627776):
  z6 P 7 [s.v,.agg [.t (.int .i64 kind),.t (.lst (z7.map zg.enc))]] ⟨[],0⟩ {v:= .t (.bool (wV s ds kind z7))}:=by
 have h1:=z6Z H s ds hD hd hg hk hj hkf hjf;have h2:=zar H.p ds hD.l hD.sz;have h3:=z79 H.p z7 hc;have h4:=z7Y H.p ds hD.ok hD.ni kind z7 hl ho hc;unfold yT at h2 h4;rw [←hd] at h2 h4;generalize hR:wV s ds kind z7=R;unfold wV at hR;refine z6.run H.i7 H.mixed Z Z ?_;refine fR Z ?_;refine Mid.call (h1) Z Z Z Z ?_;refine fM Z ?_;refine caG Z Z (fun hg=>⟨_,rfl,h2,rfl⟩) Z Z ?_;refine fM Z ?_;refine caG Z Z (fun hg=>⟨_,rfl,h3,rfl⟩) Z Z ?_;refine fM Z ?_;refine caG Z Z (fun hg=>⟨_,rfl,h4,rfl⟩) Z Z ?_;refine fM Z ?_;refine Run.fin Z (z4.go ?_);exact .t (by rw [hR])
end Go.GB.C29
namespace Go.GB.C26
open Go.GB
section
variable {s:zH} {name:Str} {here:List ze} {F:List (Str×Int)} {A D A':List Int}
theorem z3Z {n:Nat} {sp:List ze} {ks:List zA} (f:Str) (g:Int):∀(l:List zo) (i:Nat) (acc:List ze),(∀k j,l[k]?=some j->Zh n sp ks F A j=D.getD (i+k) 0)->yz n sp ks F A f g l acc=Wa D f g i l acc
 |[],i,acc,h=>rfl
 |j::r,i,acc,h=>by
  have h0:=h 0 j rfl;simp only [w1s] at h0;simp only [yz,Wa,h0,z0l]
  have e:(if (!(j.field==f)||!(j.graph==g)||j.ext)=true then acc else if D.getD i 0>0 then acc++[⟨g,D.getD i 0,j.Zk⟩] else acc)=
    (if ((j.graph==g)&&(j.field==f)&&!j.ext&&decide (D.getD i 0>0))=true then acc++[⟨g,D.getD i 0,j.Zk⟩] else acc):=by
   cases (j.graph==g)<;>cases (j.field==f)<;>cases j.ext<;>by_cases hd:D.getD i 0>0<;>simp [hd]
  rw [e]
  exact z3Z f g r (i+1) _ fun k y hk=>by rw [show i+1+k=i+(k+1) by omega];exact h (k+1) y (by simpa using hk)
theorem z41 {n:Nat} {sp:List ze} {js:List zo} {ks:List zA} (f:Str) (h:∀k j,js[k]?=some j->Zh n sp ks F A j=D.getD k 0):∀(c i:Nat) (acc:List ze),ZU n sp js ks F A f i c acc=qn js D f i c acc
 |0,i,acc=>rfl
 |c+1,i,acc=>by
  simp only [ZU,qn]
  rw [z3Z f i js 0 acc (fun k j hk=>by rw [w0t];exact h k j hk)]
  exact z41 f h c (i+1) _
theorem z3g (n:Nat) (name:Str):∀(l pre acc:List zo),(∀y,y∈pre->y.ty=name->0<=y.graph->y.graph<n->∃x,x∈acc/\YS x y=true)->
  ∀y,y∈pre++l->y.ty=name->0<=y.graph->y.graph<n->∃x,x∈yo n name pre l acc/\YS x y=true
 |[],pre,acc,h=>by simpa [yo] using h
 |j::r,pre,acc,h=>by
  intro y hy h1 h2 h3;simp only [yo];refine z3g n name r (pre++[j]) _ (fun z hz k1 k2 k3=>?_) y (by simpa using hy) h1 h2 h3
  rcases w19.1 hz with hz|hz
  ·obtain ⟨x,a,b⟩:=h z hz k1 k2 k3;refine ⟨x,?_,b⟩;split
   ·exact w1l _ a
   ·exact a
  ·simp at hz;subst hz;by_cases hb:inR n name z (YF z pre true)=true
   ·rw [w0c hb];exact ⟨z,by simp,by simp [YS]⟩
   ·rw [w0d hb];simp [inR,qk] at hb;obtain ⟨u,hu,hs⟩:=hb k1 k2 k3;have hs':=(wN u z).1 hs;obtain ⟨x,a,b⟩:=h u hu (by rw [hs'.1,k1]) (by omega) (by omega);have hb':=(wN x u).1 b
    exact ⟨x,a,(wN x z).2 ⟨by rw [hb'.1,hs'.1],by rw [hb'.2.1,hs'.2.1],by rw [hb'.2.2,hs'.2.2]⟩⟩
theorem z6e (s:zH) (name:Str) (y:zo) (hy:y∈s.zr) (h1:y.ty=name) (h2:0<=y.graph) (h3:y.graph<s.z3.length):∃x,x∈Z4 s name/\YS x y=true:=
 z3g _ _ s.zr [] [] (fun y hy=>by cases hy) y (by simpa using hy) h1 h2 h3
theorem z6a {s:zH} {name:Str} {x:zo} (h:x∈Z4 s name):x∈s.zr/\x.ty=name/\0<=x.graph/\x.graph<s.z3.length:=by
 rcases qb _ _ _ _ _ x h with e|e
 ·cases e
 ·exact e
theorem z7s (s:zH) (name:Str):∀(c i:Nat) (acc:List ze),i+c=s.z3.length->yU name s.zr i c acc=Wg (Z4 s name) i c acc
 |0,i,acc,h=>rfl
 |c+1,i,acc,h=>by
  have e:s.zr.any (Q8 name i)=(Z4 s name).any fun j=>j.graph==i:=by
   rw [w2b,w2d,w2d];constructor
   ·rintro ⟨y,hy,he⟩;simp [Q8] at he;obtain ⟨x,hx,hs⟩:=z6e s name y hy he.1 (by omega) (by omega)
    exact ⟨x,hx,by rw [wN] at hs;rw [hs.2.2,he.2];simp⟩
   ·rintro ⟨x,hx,he⟩;obtain ⟨a,b,_,_⟩:=z6a hx
    exact ⟨x,a,by simp at he;simp [Q8,b,he]⟩
  simp only [yU,Wg,e];exact z7s s name c (i+1) _ (by omega)
end
section
variable {n:Nat} {sp:List ze} {js:List zo} {ks:List zA}
end
end Go.GB.C26
namespace Go.GB.C26
open Go.GB
theorem zfR {s:zH} {name:Str} {here:List ze} {F:List (Str×Int)} {A D A':List Int} {l l':Str->Int}
  (h:Ans s.z3.length (ZE s.z3.length here) (Z4 s name) (ye s name) (fun g=>A.getD g 0) l (Zh s.z3.length (ZE s.z3.length here) (ye s name) F A))
  (h':Ans s.z3.length (ZE s.z3.length here) (Z4 s name) (ye s name) (fun g=>A'.getD g 0) l' (fun j=>D.getD (zeh (Z4 s name) j) 0)) (k:Nat) (j:zo) (hk:(Z4 s name)[k]?=some j):
  Zh s.z3.length (ZE s.z3.length here) (ye s name) F A j=D.getD k 0:=by
 have:=h.eqJ h' j (zMG hk);rw [this,z8P (QF s name) hk]
theorem z2I {n:Nat} {sp:List ze} {ks:List zA} {F:List (Str×Int)} {A:List Int} (f:Str) (g:Int):∀(l:List zo) (acc:List ze),(∀j,j∈l->j.Zk.length<=100)->(∀x,x∈acc->x.Zk.length<=100)->∀x,x∈yz n sp ks F A f g l acc->x.Zk.length<=100
 |[],acc,_,h,x,hx=>h x hx
 |j::r,acc,hl,h,x,hx=>by
  simp only [yz] at hx;refine z2I f g r _ (fun y hy=>hl y (w08 _ hy)) (fun y hy=>?_) x hx;split at hy
  ·exact h y hy
  ·split at hy
   ·rcases w19.1 hy with hy|hy
    ·exact h y hy
    ·simp at hy;subst hy;exact hl j (w0l ..)
   ·exact h y hy
theorem z2H {n:Nat} {sp:List ze} {js:List zo} {ks:List zA} {F:List (Str×Int)} {A:List Int} (f:Str) (hj:∀j,j∈js->j.Zk.length<=100):∀(c i:Nat) (acc:List ze),(∀x,x∈acc->x.Zk.length<=100)->(∀x,x∈ZU n sp js ks F A f i c acc->x.Zk.length<=100)/\(ZU n sp js ks F A f i c acc).length<=acc.length+c*js.length
 |0,i,acc,h=>⟨h,by simp [ZU]⟩
 |c+1,i,acc,h=>by
  have h1:=z2I (n:=n) (sp:=sp) (ks:=ks) (F:=F) (A:=A) f i js acc hj h;have h2:=z3t n sp ks F A f i js acc;obtain ⟨h3,h4⟩:=z2H (n:=n) (sp:=sp) (js:=js) (ks:=ks) (F:=F) (A:=A) f hj c (i+1) _ h1;refine ⟨h3,?_⟩;simp only [ZU];rw [Nat.succ_mul];omega
theorem z2r (name:Str) (js:List zo):∀(c i:Nat) (acc:List ze),(∀x,x∈acc->x.Zk.length<=100)->(∀x,x∈yU name js i c acc->x.Zk.length<=100)/\(yU name js i c acc).length<=acc.length+c
 |0,i,acc,h=>⟨h,by simp [yU]⟩
 |c+1,i,acc,h=>by
  obtain ⟨h3,h4⟩:=z2r name js c (i+1) (if js.any (Q8 name i)=true then acc++[⟨i,1,[]⟩] else acc) (fun x hx=>by
   split at hx
   ·rcases w19.1 hx with hx|hx
    ·exact h x hx
    ·simp at hx;subst hx;simp
   ·exact h x hx)
  refine ⟨h3,?_⟩;simp only [yU];refine w0u h4 ?_
  split<;>simp<;>omega
end Go.GB.C26
namespace Go.GB.C29
open Go.GB Go.GB.C26
variable {P:Program}
structure zac (s:zH):Prop where
 g:s.z3.length<=8
 j:s.zr.length<=300
 k:s.keys.length<=100
 jr:∀j,j∈s.zr->j.req.length<=10/\j.Zk.length<=10
 kf:∀k,k∈s.keys->k.fields.length<=10
def GG (here:List ze):Prop:=here.length<=4000/\∀x,x∈here->x.Zk.length<=100
theorem zac.small {s:zH} (h:zac s) {here:List ze} (hg:GG here):Small s here:=
 ⟨by have:=h.g;omega,h.j,h.k,hg.1,h.jr,h.kf,fun x hx=>by have:=hg.2 x hx;unfold ze.ok;omega⟩
theorem GG.yl {s:zH} {t:Str} {l:List ze} (h:GG l):GG (yl s t l):=
 ⟨w0u (w1z _ _) h.1,fun x hx=>h.2 x (w2a.1 hx).1⟩
theorem zcz (H:PrL P) (s:zH) (ds:List Def) (hK:zac s) (hd:s.doc= .lst (ds.map Def.enc)) (hD:Z6 ds):∃Ch Lv,Env s ds GG Ch/\zfw s GG Lv/\zbh P s GG Ch Lv/\∀ty here f,GG here->0<=Lv ty here f:=by
 have hg:=hK.g;have hj:=hK.j;have hk:=hK.k
 have key:∀(ty:Str) (here:List ze),∃FA:List (Str×Int)×List Int,GG here->
   Sol s ty here (ZE s.z3.length here) (Z4 s ty) (ye s ty) FA.1 FA.2/\Ans s.z3.length (ZE s.z3.length here) (Z4 s ty) (ye s ty) (fun g=>FA.2.getD g 0) (zZ s.z3.length FA.1 FA.2) (Zh s.z3.length (ZE s.z3.length here) (ye s ty) FA.1 FA.2):=fun ty here=>by
  by_cases h:GG here
  ·obtain ⟨F,A,a1,a2,a3,a4⟩:=zeW (name:=ty) (hK.small h);exact ⟨(F,A),fun _=>⟨a1,a2⟩⟩
  ·exact ⟨([],[]),fun h'=>absurd h' h⟩
 let FA:=fun ty here=>Classical.choose (key ty here)
 have hFA:∀ty here,GG here->_:=fun ty here=>Classical.choose_spec (key ty here)
 have hch:∀ty here f,GG here->GG (ZU s.z3.length (ZE s.z3.length here) (Z4 s ty) (ye s ty) (FA ty here).1 (FA ty here).2 f 0 s.z3.length []):=fun ty here f h=>by
  obtain ⟨c1,c2⟩:=z2H (n:=s.z3.length) (sp:=ZE s.z3.length here) (js:=Z4 s ty) (ks:=ye s ty) (F:=(FA ty here).1) (A:=(FA ty here).2) f (fun j hj=>by have:=wb (hK.small h) hj;omega) s.z3.length 0 [] (fun x hx=>by cases hx)
  have hjl:=Y6 s ty;have c3:s.z3.length*(Z4 s ty).length<=8*300:=Nat.mul_le_mul hg (by omega);simp only [w16,w0t] at c2
  exact ⟨by omega,c1⟩
 refine ⟨fun ty here f=>ZU s.z3.length (ZE s.z3.length here) (Z4 s ty) (ye s ty) (FA ty here).1 (FA ty here).2 f 0 s.z3.length [],fun ty here f=>zZ s.z3.length (FA ty here).1 (FA ty here).2 f,⟨hd,hD,by omega,fun ty here f h=>?_,fun ty here f t h=>(hch ty here f h).yl,fun ty here f h=>by have:=(hch ty here f h).1;omega⟩,⟨fun ty here f h=>⟨_,_,_,_,_,(hFA ty here h).1,rfl⟩⟩,⟨fun ty here f h=>?_,fun ty here f h=>?_,fun ty=>?_⟩,fun ty here f h=>(hFA ty here h).2.nl f⟩
 ·have hjl:=Y6 s ty
  exact ⟨_,_,_,_,_,(hFA ty here h).1,by omega,rfl⟩
 ·obtain ⟨a1,a2⟩:=hFA ty here h;have hjl:=Y6 s ty;obtain ⟨D,A',b1,b2⟩:=zbm (name:=ty) (hK.small h);have e2:=z41 (sp:=ZE s.z3.length here) (js:=Z4 s ty) (ks:=ye s ty) (n:=s.z3.length) (F:=(FA ty here).1) (A:=(FA ty here).2) (D:=D) f (fun k j hk=>zfR a2 b2 k j hk) s.z3.length 0 []
  have:=zaY H.r.p29.p26 b1 (by omega) (fun j hj=>by have:=wb (hK.small h) hj;omega) f
  rw [←e2] at this;exact this
 ·obtain ⟨a1,a2⟩:=hFA ty here h;obtain ⟨D,A',b1,b2⟩:=zbm (name:=ty) (hK.small h);have e1:=a2.eqL b2 f;have:=zex H.r.p29.p26 b1 f;rw [←e1] at this;exact this
 ·have hjl:=Y6 s ty;have e3:=z7s s ty s.z3.length 0 [] (by omega);have:=z9V H.r.p29.p26 s ty _ _ (by omega) (by omega) (by omega) rfl rfl (w0u hjl (by omega));rw [←e3] at this;exact this
theorem Wu {s:zH} (hK:zac s) (kind:Int) (z7:List zg):GG (Y5 s kind z7).zX:=by
 obtain ⟨d1,d2⟩:=z2r (yV kind) s.zr s.z3.length 0 [] (fun x hx=>by cases hx)
 have:=hK.g;simp only [w16,w0t] at d2
 exact ⟨by show (yU (yV kind) s.zr 0 s.z3.length []).length<=4000;omega,d1⟩
section
variable {s:zH} {ds:List Def} {Ch:Str->List ze->Str->List ze}
abbrev child (s:zH) (Ch:Str->List ze->Str->List ze) (n:Nat) (p:Place) (x:zg) (t:Str):Place:=⟨(n:Nat),⟨p.ty,x.key⟩,t,yl s t (Ch p.ty p.zX x.name),onF x.z7 t⟩
theorem z6B {Q:List Place->Prop} (h:∀(o:List Place) (n:Nat) (p:Place) (x:zg) (t:Str),Q o->o[n]?=some p->x∈p.z7->t∈C11.Y3 ds x.ty.name->onF x.z7 t≠[]->Q (o++[child s Ch n p x t])):
  ∀(k:Nat) (p:Place) (o:List Place),Q (o++[p])->Q (W5 s ds Ch (k+1) p o)/\∃l,W5 s ds Ch (k+1) p o=o++[p]++l:=by
 intro k
 induction k with
 |zero=>
  intro p o hq
  have hz:∀(xs:List zg) (o':List Place),(∀x,x∈xs->x∈p.z7)->Q o'->xs.foldl (yc s ds Ch 0 p o.length) o'=o':=by
   intro xs
   induction xs with
   |nil=>intro o' _ _;rfl
   |cons x r ih=>
    intro o' hx hq'
    have:yc s ds Ch 0 p o.length o' x=o':=by
     unfold yc;generalize C11.Y3 ds x.ty.name=ts
     induction ts with
     |nil=>rfl
     |cons t r ih2=>
      rw [w1t]
      have:stepT s ds Ch 0 p o.length x o' t=o':=by unfold stepT;split<;>rfl
      rw [this,ih2]
    rw [w1t,this];exact ih o' (fun y hy=>hx y (w08 _ hy)) hq'
  rw [Wr,hz p.z7 (o++[p]) (fun x hx=>hx) hq]
  exact ⟨hq,[],by simp⟩
 |succ k ih=>
  intro p o hq;rw [Wr]
  have hT:∀(x:zg),x∈p.z7->∀(ts:List Str) (o':List Place),(∀t,t∈ts->t∈C11.Y3 ds x.ty.name)->(Q o'/\∃l,o'=o++[p]++l)->Q (ts.foldl (stepT s ds Ch (k+1) p o.length x) o')/\∃l,ts.foldl (stepT s ds Ch (k+1) p o.length x) o'=o++[p]++l:=by
   intro x hx ts
   induction ts with
   |nil=>intro o' _ h';exact h'
   |cons t r ih2=>
    intro o' ht ⟨hq',l',hl'⟩;rw [w1t];refine ih2 _ (fun u hu=>ht u (w08 _ hu)) ?_;unfold stepT;split
    ·exact ⟨hq',l',hl'⟩
    ·rename_i hne
     have hat:o'[o.length]?=some p:=by rw [hl'];simp
     have hpush:=h o' o.length p x t hq' hat hx (ht t (w0l ..)) (fun e=>hne (by rw [e];rfl));obtain ⟨g1,l2,g2⟩:=ih (child s Ch o.length p x t) o' hpush;refine ⟨g1,l'++[child s Ch o.length p x t]++l2,?_⟩;rw [g2,hl'];simp
  have hX:∀(xs:List zg) (o':List Place),(∀x,x∈xs->x∈p.z7)->(Q o'/\∃l,o'=o++[p]++l)->Q (xs.foldl (yc s ds Ch (k+1) p o.length) o')/\∃l,xs.foldl (yc s ds Ch (k+1) p o.length) o'=o++[p]++l:=by
   intro xs
   induction xs with
   |nil=>intro o' _ h';exact h'
   |cons x r ih2=>
    intro o' hx h';rw [w1t];exact ih2 _ (fun y hy=>hx y (w08 _ hy)) (hT x (hx x (w0l ..)) _ _ (fun t ht=>ht) h')
  exact hX p.z7 (o++[p]) (fun x hx=>hx) ⟨hq,[],by simp⟩
def YR:List Place->Nat
 |[]=>0
 |p::r=>p.z7.length+YR r
theorem z0u:∀a b:List Place,YR (a++b)=YR a+YR b
 |[],b=>by simp [YR]
 |p::a,b=>by simp only [w23,YR,z0u a b];omega
theorem z38:∀(ts:List Str) (l:List zg),ts.Nodup->(ts.map fun t=>zg.Zm (onF l t)).sum<=zg.Zm l
 |ts,[],_=>by
  have:(ts.map fun t=>zg.Zm (onF [] t))=ts.map fun _=>0:=by congr
  rw [this]
  induction ts with
  |nil=>simp
  |cons t r ih=>simp_all [zg.Zm]
 |ts,x::r,hn=>by
  have ih:=z38 ts r hn
  have key:∀ts:List Str,ts.Nodup->(ts.map fun t=>zg.Zm (onF (x::r) t)).sum<=(ts.map fun t=>zg.Zm (onF r t)).sum+(if x.on∈ts then x.cnt else 0):=by
   intro ts
   induction ts with
   |nil=>intro _;simp
   |cons t r2 ih2=>
    intro hn;have hn':=w1c.1 hn;have:=ih2 hn'.2;simp only [w0o,List.sum_cons];by_cases e:x.on=t
    ·have h1:onF (x::r) t=x::onF r t:=by unfold onF;rw [w20,w0c (by simp [e])]
     have h2:¬ x.on∈r2:=by rw [e];exact hn'.1
     rw [w0d h2] at this;rw [h1,w0c (by simp [e])];simp only [zg.Zm];omega
    ·have h1:onF (x::r) t=onF r t:=by unfold onF;rw [w20,w0d (by simp [e])]
     have h2:(x.on∈t::r2)=(x.on∈r2):=by simp [e]
     rw [h1];simp only [h2];omega
  have:=key ts hn;simp only [zg.Zm]
  split at this<;>omega
theorem z3h (t:Def) (nm:Str):∀(r pre:List Def),(C11.YU t nm pre r).Nodup/\∀n,n∈C11.YU t nm pre r->C11.Zz pre n=true
 |[],pre=>by simp [C11.YU]
 |o::r,pre=>by
  obtain ⟨h1,h2⟩:=z3h t nm r (pre++[o])
  have h3:∀n,C11.Zz (pre++[o]) n=true->C11.Zz pre n=true/\¬ n=o.name:=fun n h=>by
   simp only [C11.Zz,List.any_append,w14,List.any_nil,Bool.or_false,w22,w21,beq_eq_false_iff_ne,ne_eq] at h⊢;exact ⟨h.1,fun e=>h.2 e.symm⟩
  simp only [C11.YU];split
  ·rename_i hc;simp only [w0a] at hc;refine ⟨w1c.2 ⟨fun hm=>(h3 _ (h2 _ hm)).2 Z,h1⟩,fun n hn=>?_⟩
   rcases w17.1 hn with rfl|hn
   ·exact hc.1.2
   ·exact (h3 n (h2 n hn)).1
  ·exact ⟨h1,fun n hn=>(h3 n (h2 n hn)).1⟩
theorem z8y (ds:List Def) (nm:Str):(C11.Y3 ds nm).Nodup:=by
 unfold C11.Y3;split
 ·simp
 ·exact (z3h _ _ _ _).1
theorem z6O:∀(k:Nat) (p:Place) (o:List Place),YR (W5 s ds Ch k p o)<=YR o+zg.Zm p.z7
 |0,p,o=>by simp [W5]
 |k+1,p,o=>by
  rw [Wr]
  have hT:∀(x:zg) (ts:List Str) (o':List Place),YR (ts.foldl (stepT s ds Ch k p o.length x) o')<=YR o'+(ts.map fun t=>zg.Zm (onF x.z7 t)).sum:=by
   intro x ts
   induction ts with
   |nil=>intro o';simp
   |cons t r ih=>
    intro o';rw [w1t];refine w0u (ih _) ?_;simp only [w0o,List.sum_cons]
    have:YR (stepT s ds Ch k p o.length x o' t)<=YR o'+zg.Zm (onF x.z7 t):=by
     unfold stepT;split
     ·omega
     ·exact z6O k _ _
    omega
  have hX:∀(xs:List zg) (o':List Place),YR (xs.foldl (yc s ds Ch k p o.length) o')+xs.length<=YR o'+zg.Zm xs:=by
   intro xs
   induction xs with
   |nil=>intro o';simp [zg.Zm]
   |cons x r ih=>
    intro o';rw [w1t];have h1:=ih (yc s ds Ch k p o.length o' x);have h2:=hT x (C11.Y3 ds x.ty.name) o';have h3:=z38 (C11.Y3 ds x.ty.name) x.z7 (z8y ds x.ty.name);have h4:=zg.z06 x;simp only [zg.Zm,w0b];unfold yc at h1⊢;omega
  have:=hX p.z7 (o++[p]);rw [z0u] at this;simp only [YR] at this;omega
theorem z8H:∀l:List Place,(∀p,p∈l->p.z7≠[])->l.length<=YR l
 |[],_=>by simp
 |p::r,h=>by
  have:=z8H r fun q hq=>h q (w08 _ hq);have h1:=h p (w0l ..)
  have:1<=p.z7.length:=by cases hp:p.z7 with|nil=>exact absurd hp h1|cons a b=>simp
  simp only [w0b,YR];omega
theorem z32 (s:zH) (ds:List Def) (Ch:Str->List ze->Str->List ze) (kind:Int) (z7:List zg):(ZQ s ds Ch kind z7).length<=zg.Zm z7+1:=by
 obtain ⟨h1,l,h2⟩:=z6B (s:=s) (ds:=ds) (Ch:=Ch) (Q:=fun o=>∀p,p∈o.tail->p.z7≠[]) (fun o n p x t hq hn hx ht hne q hq2=>by
  cases o with
  |nil=>simp at hn
  |cons a b=>
   simp only [w23,List.tail_cons,w19,List.mem_singleton] at hq hq2
   rcases hq2 with h|rfl
   ·exact hq q h
   ·exact hne) (zg.Zm z7) (Y5 s kind z7) [] (by simp)
 have h3:=z6O (s:=s) (ds:=ds) (Ch:=Ch) (zg.Zm z7+1) (Y5 s kind z7) [];unfold ZQ;rw [h2] at h1 h3⊢;simp only [w1y,w23,List.tail_cons,YR,w0b] at h1 h3⊢;have:=z8H l h1;have e:(Y5 s kind z7).z7=z7:=rfl;rw [e] at h3;omega
theorem z7m (hcl:∀ty here f t,GG here->GG (yl s t (Ch ty here f))) (kind:Int) (z7:List zg) (hl:z7.length<=140737488355328) (ho:∀x,x∈z7->x.Ok) (hg:GG (Y5 s kind z7).zX):
  ∀p,p∈ZQ s ds Ch kind z7->GG p.zX/\p.z7.length<=140737488355328/\∀x,x∈p.z7->x.Ok:=by
 refine (z6B (s:=s) (ds:=ds) (Ch:=Ch) (Q:=fun o=>∀p,p∈o->GG p.zX/\p.z7.length<=140737488355328/\∀x,x∈p.z7->x.Ok) (fun o n p x t hq hn hx ht hne q hq2=>?_) (zg.Zm z7) (Y5 s kind z7) [] ?_).1
 ·rcases w19.1 hq2 with h|h
  ·exact hq q h
  ·simp only [List.mem_singleton] at h;subst h;obtain ⟨g1,g2,g3⟩:=hq p (zMG hn);have hxo:=g3 x hx
   exact ⟨hcl _ _ _ _ g1,by have:=z62 x.z7 t;have:=hxo.pl;show (onF x.z7 t).length<=_;omega,fun y hy=>hxo.p y (z4X hy)⟩
 ·intro p hp;simp only [w1y,List.mem_singleton] at hp;subst hp;exact ⟨hg,hl,ho⟩
end
end Go.GB.C29
namespace Go.GB.C29
open Go.GB Go.GB.C26
variable {P:Program}
structure zbO (s:zH) (ds:List Def) (z7:List zg):Prop where
 d:zeo ds
 e:s.doc= .lst (ds.map Def.enc)
 g:s.z3.length<=140737488355328
 k:s.keys.length<=140737488355328
 j:s.zr.length<=140737488355328
 kf:∀k,k∈s.keys->k.fields.length<=140737488355328
 jf:∀j,j∈s.zr->j.req.length<=140737488355328/\j.Zk.length<=140737488355328
 pl:z7.length*160<=140737488355328
 p:∀x,x∈z7->x.Ok
 c:zg.Zm z7<=1099511627776
theorem z9G {α:Type} {p:α->Bool} {l:List α} (h:l.any p=false) {x:α} (hx:x∈l):p x=false:=by
 cases e:p x with
 |false=>rfl
 |true=>
  have:l.any p=true:=w2d.2 ⟨x,hx,e⟩;rw [h] at this;cases this
theorem zco {s:zH} {ds:List Def} (h:z9M s ds=true):zac s:=by
 unfold z9M at h;split at h
 ·cases h
 ·rename_i hn;simp only [w2j,w0n,not_or] at hn;simp only [w0a,w22] at h;obtain ⟨⟨⟨⟨h1,h2⟩,h3⟩,h4⟩,h5⟩:=hn
  refine ⟨by omega,by omega,by omega,fun j hj=>?_,fun k hk=>?_⟩
  ·have:=z9G h.2 hj;simp only [z4F,w21,w1u] at this;omega
  ·have:=z9G h.1 hk;simp only [zcJ,w21,w1u] at this;omega
structure Lrg (s:zH) (ds:List Def) (kind:Int) (z7:List zg):Prop where
 k:zac s
 c:zg.Zm z7<=200
 r:z2Z ds kind z7=true
theorem zd0 {s:zH} {ds:List Def} {kind:Int} {z7:List zg} (h:wV s ds kind z7=false):Lrg s ds kind z7:=by
 unfold wV at h;simp only [w21,Bool.not_eq_false',w1u] at h;obtain ⟨⟨⟨h1,h2⟩,h3⟩,h4⟩:=h
 exact ⟨zco h1,by omega,h4⟩
structure PrN (P:Program):Prop where
 l:PrL P
 mixed:P.follows .mixedOrders=true
 i3:z9 P 3=some (n3,c3.bare,r3)
 i4:z9 P 4=some (n4,c4.bare,r4)
theorem zfH (H:PrN P) (s:zH) (ds:List Def) (kind:Int) (z7:List zg) (hA:zbO s ds z7):z6 P 3 [s.v,.agg [.t (.int .i64 kind),.t (.lst (z7.map zg.enc))]] ⟨[],0⟩ {v:= .t (.bool true)}:=by
 have hlg:=z2T H.l s ds hA.d hA.e hA.g hA.k hA.j hA.kf hA.jf kind z7 hA.pl hA.p hA.c;generalize hL:wV s ds kind z7=L at hlg;refine z6.run H.i3 H.mixed Z Z ?_;refine fR Z ?_;refine Mid.call (hlg) Z Z Z Z ?_;refine fM Z ?_
 cases L with
 |true=>
  refine Run.zj Z Z Z ?_;refine fR Z ?_;refine Mid.call (Yk H.l.r.p29) Z Z Z Z ?_;refine fM Z ?_;refine Run.fin Z (z4.go ?_);exact .t Z
 |false=>
  refine Run.zf Z Z Z ?_;have hK:=zd0 hL;obtain ⟨Ch,Lv,hE,hEL,hER,hL0⟩:=zcz H.l s ds hK.k hA.e hA.d.ok;have hpl:=hA.pl;have hc:=hK.c;have hlen:=z32 s ds Ch kind z7;have hg8:=hK.k.g;have hp1:=z16 H.l.r.p29 hE kind z7 hpl hA.p (Wu hK.k kind z7) (by omega) (by omega);have hp2:=z2g H.l.r hE hER kind z7 hpl hA.p (Wu hK.k kind z7) (by omega);have hpg:=z7m (s:=s) (ds:=ds) (Ch:=Ch) (fun ty here f t h=>hE.cl ty here f t h) kind z7 (by omega) hA.p (Wu hK.k kind z7);generalize ZQ s ds Ch kind z7=l at hp1 hp2 hpg hlen;refine fR Z ?_;refine Mid.call (hp1) Z Z Z Z ?_;skip;refine Mid.call (zgs H.l.r.p29 l (by omega)) Z Z Z Z ?_;refine fM Z ?_;refine Mid.call (hp2) Z Z Z Z ?_;refine fM Z ?_;refine lM Z Z Z ?_;refine fM Z ?_;refine lM Z Z Z ?_;refine fM Z ?_;refine Run.zf Z Z (by simp) ?_;refine fR Z ?_;refine zu l (fun i (_:Unit)=>{env:=[(5,.t (.lst (l.map Place.enc))),(6,.t (.lst (l.map Place.enc))),(7,.t (.int .i64 i))],s:=⟨[],0⟩}) (fun r i _=>True) 0 () Z trivial Z Z Z ?_ ?_
  ·intro _ _;refine fR Z ?_;refine lM Z Z Z ?_;refine fM Z ?_;refine Run.zf Z Z (by simp) ?_;refine fR Z ?_;refine Mid.call (Yk H.l.r.p29) Z Z Z Z ?_;refine fM Z ?_;refine Run.fin Z (z4.go ?_);exact .t Z
  ·intro i p r _ h1 hi hd _ ih;obtain ⟨⟨q1,q2⟩,q3,q4⟩:=hpg p (zMG h1);refine fR Z ?_;refine lM Z Z Z ?_;refine fM Z ?_;refine Run.zj Z Z (by simp;omega) ?_;refine fR Z ?_;refine Mid.za Z Z Z h1 Z Z ?_;refine fM Z ?_;refine Mid.za Z Z Z h1 Z Z ?_;refine fM Z ?_;refine elG Z Z Z Z h1 Z Z ?_;refine fM Z ?_;refine elG Z Z Z Z h1 Z Z ?_;refine fM Z ?_;refine gr Z ?_;refine fM Z ?_;refine elG Z Z Z Z h1 Z Z ?_;refine fM Z ?_;refine elG Z Z Z Z h1 Z Z ?_;refine fM Z ?_;refine elG Z Z Z Z h1 Z Z ?_;refine fM Z ?_;refine elG Z Z Z Z h1 Z Z ?_;refine fM Z ?_
   refine caG Z Z (fun hg=>⟨_,rfl,z5W H.l p.zX (by omega) (fun x hx=>by have:=q2 x hx;omega),rfl⟩) rfl rfl ?_
   refine fM Z ?_;refine elG Z Z Z Z h1 Z Z ?_;refine fM Z ?_;refine elG Z Z Z Z h1 Z Z ?_;refine fM Z ?_;refine caG Z Z (fun hg=>⟨_,rfl,z52 H.l p.z7 q3 q4,rfl⟩) Z Z ?_;refine fM Z ?_;refine Run.zf Z Z (by simp [ZX,T.eqb]) ?_;refine fR Z ?_;refine aL Z Z Z Z Z ?_;refine fM Z ?_;exact zh 0 Z (ih () trivial) Z Z Z
theorem zf3 (H:PrN P) (s:zH) (ds:List Def) (kind:Int) (z7:List zg) (hA:zbO s ds z7):z6 P 4 [s.v,.agg [.t (.int .i64 kind),.t (.lst (z7.map zg.enc))]] ⟨[],0⟩ {v:= .t (.bool true)}:=by
 have hlg:=z2T H.l s ds hA.d hA.e hA.g hA.k hA.j hA.kf hA.jf kind z7 hA.pl hA.p hA.c;generalize hL:wV s ds kind z7=L at hlg;refine z6.run H.i4 H.mixed Z Z ?_;refine fR Z ?_;refine Mid.call (hlg) Z Z Z Z ?_;refine fM Z ?_
 cases L with
 |true=>
  refine Run.zj Z Z Z ?_;refine fR Z ?_;refine Mid.call (Yk H.l.r.p29) Z Z Z Z ?_;refine fM Z ?_;refine Run.fin Z (z4.go ?_);exact .t Z
 |false=>
  refine Run.zf Z Z Z ?_;have hK:=zd0 hL;obtain ⟨Ch,Lv,hE,hEL,hER,hL0⟩:=zcz H.l s ds hK.k hA.e hA.d.ok;have hpl:=hA.pl;have hc:=hK.c;have hlen:=z32 s ds Ch kind z7;have hg8:=hK.k.g;have hpg:=z7m (s:=s) (ds:=ds) (Ch:=Ch) (fun ty here f t h=>hE.cl ty here f t h) kind z7 (by omega) hA.p (Wu hK.k kind z7);have hp1:=z7t H.l.r.p29 hE hEL kind z7 hpl hA.p (Wu hK.k kind z7) (by omega) (by omega) (fun p hp=>⟨(hpg p hp).1,(hpg p hp).2.1⟩);have hp2:=zb0 H.l.r hE hER kind z7 hpl hA.p (Wu hK.k kind z7) (by omega) (fun p hp=>⟨(hpg p hp).1,(hpg p hp).2.1⟩);generalize z05 Lv (ZQ s ds Ch kind z7) 0=o at hp1 hp2;unfold zfs at hp1 hp2;refine fR Z ?_;refine Mid.call (hp1) Z Z Z Z ?_;refine fM Z ?_;refine Mid.call (hp2) Z Z Z Z ?_;refine fM Z ?_;refine caG Z Z (fun hg=>⟨_,rfl,Yk H.l.r.p29,rfl⟩) Z Z ?_;refine fM Z ?_;refine Run.fin Z (z4.go ?_);exact .t (by simp)
end Go.GB.C29
namespace Go.GB.C29
open Go.GB Go.GB.C26
section
variable {s:zH} {ds:List Def} {Ch:Str->List ze->Str->List ze}
variable (s) (ds) (Ch) in
end
end Go.GB.C29
namespace Go.GB.C29
open Go.GB Go.GB.C26
section
variable {P:Program} {n m:Nat} {R:St->Prop} {draw:Bool} {all:List AO} {after:List (List Nat)} {live:List Nat} {k:List It} {b:Nat} {fl:List (Bool×Bool)} {ops:List AO} {st st':St} {d:Option Nat}
end
variable {P:Program}
end Go.GB.C29
namespace Go.GB.C11
open Go.GB
def wFd:List Field->Nat
 |[]=>0
 |f::r=>f.args.length+f.Zp.length+wFd r
def wD (d:Def):Nat:=1+d.fields.length+d.members.length+d.zp.length+d.Zp.length+d.implements.length+wFd d.fields
def wDs:List Def->Nat
 |[]=>0
 |d::r=>wD d+wDs r
theorem Zl {α:Type} (f:α->List T) (hf:∀x,1<=ZK (f x)):∀l:List α,l.length<=yx (l.map f)
 |[]=>by simp
 |x::r=>by
  have:=hf x;have:=Zl f hf r;simp only [w0o,yx,w0b];omega
theorem zcr (x:T):1<=x.bulk:=by cases x<;>simp [T.bulk]
theorem Zv (x:T) (r:List T):1<=ZK (x::r):=by have:=zcr x;simp only [ZK];omega
theorem z5b:∀l:List Field,l.length+wFd l<=yx (l.map Field.enc)
 |[]=>by simp [wFd]
 |f::r=>by
  have:=z5b r;have h1:=Zl Input.enc (fun x=>Zv _ _) f.args;have h2:=Zl Dir.enc (fun x=>Zv _ _) f.Zp;simp only [w0o,yx,w0b,wFd,Field.enc,ZK,T.bulk];omega
theorem zdR (d:Def):wD d<=ZK d.enc:=by
 have h1:=z5b d.fields;have h2:=Zl ZA.enc (fun x=>Zv _ _) d.members;have h3:=Zl Input.enc (fun x=>Zv _ _) d.zp;have h4:=Zl Dir.enc (fun x=>Zv _ _) d.Zp;have h5:=Zl sE (fun x=>Zv _ _) d.implements;simp only [wD,Def.enc,ZK,T.bulk];omega
theorem z3l:∀ds:List Def,wDs ds<=yx (ds.map Def.enc)
 |[]=>by simp [wDs]
 |d::r=>by have:=zdR d;have:=z3l r;simp only [wDs,w0o,yx];omega
theorem z3j (ds:List Def) (a b:Str):∀(l p:List Input),(inF ds a b p l).length<=3*l.length
 |[],p=>by simp [inF]
 |x::r,p=>by
  have h1:=z3j ds a b r (p++[x]);have h2:=wR x.name false (zU x.name p).isSome (a++x.name++b);simp only [inF,zcB,w0g,w0b];split
  ·simp only [w0b,w16];omega
  ·split
   ·simp only [w0b,w16];omega
   ·simp only [w16];omega
theorem z4A (ds:List Def) (n:Str):∀(l p:List Field),(z0G ds n p l).length<=3*(l.length+wFd l)
 |[],p=>by simp [z0G]
 |x::r,p=>by
  have h1:=z4A ds n r (p++[x]);have h2:=wR x.name false (Z5 x.name p).isSome (n++[46]++x.name);have h3:=z3j ds (n++[46]++x.name++[40]) [41] x.args [];simp only [z0G,z87,w0g,w0b,wFd];split
  ·simp only [w0b,w16];omega
  ·split
   ·simp only [w0b,w16];omega
   ·simp only [w16];omega
theorem z4r (n:Str):∀(l p:List ZA),(z21 n p l).length<=2*l.length
 |[],p=>by simp [z21]
 |x::r,p=>by
  have h1:=z4r n r (p++[x]);have h2:=wR x.name (z5o x.name) (W4 p x.name) (n++[46]++x.name);simp only [z21,w0g,w0b];omega
theorem z6X (ds:List Def) (i:Nat) (d:Def):(YY ds i d).length<=5:=by
 have:=wR d.name false (z12 ds i d.name) d.name;unfold YY;simp only [w0g]
 split<;>split<;>split<;>simp<;>omega
theorem z4a (ds:List Def):∀(l:List Def) (i:Nat),(z5u ds i l).length<=5*l.length+3*wDs l
 |[],i=>by simp [z5u]
 |d::r,i=>by
  have h1:=z4a ds r (i+1);have h2:=z6X ds i d
  have h3:(zdH ds d).length<=3*wD d:=by
   have a1:=z4A ds d.name d.fields [];have a2:=z4r d.name d.members [];have a3:=z3j ds (d.name++[46]) [] d.zp [];unfold zdH wD;split
   ·omega
   ·split
    ·omega
    ·split
     ·omega
     ·split
      ·omega
      ·simp
  simp only [z5u,w0g,w0b,wDs];omega
theorem z7H {ds:List Def} (hb:yx (ds.map Def.enc)<=1048576) (q:Bool):(Ym ds q).length<=4398046511104:=by
 have h1:=z4a ds ds 0;have h2:=z3l ds;have h3:=Zl Def.enc (fun x=>Zv _ _) ds;unfold Ym z7i;rw [w0g]
 split<;>simp<;>omega
end Go.GB.C11
namespace Go.GB.C29
open Go.GB Go.GB.C26
theorem zgd {l:List Input} (h:YE C11.zt C11.QZ C11.YW l=true):l.length<=16:=by
 unfold YE at h;simp only [w0a,w0n] at h;exact h.1
structure zdx (d:Def):Prop where
 i:d.implements.length<=64
 f:d.fields.length<=64
 a:∀x,x∈d.fields->x.args.length<=16
 m:d.members.length<=64
theorem z0p {l:List Field} (h:wa C11.zt C11.QZ C11.YW l=true):l.length<=64/\∀x,x∈l->x.args.length<=16:=by
 unfold wa at h;simp only [w0a,w0n,w0m] at h;refine ⟨h.1.2,fun x hx=>?_⟩;have:=h.2 x hx;unfold z1h at this;simp only [w0a] at this;exact zgd this.1.1.2
theorem zgl {d:Def} (h:z3S C11.zt C11.QZ C11.YW d=true):zdx d:=by
 unfold z3S at h;simp only [w0a,w0n] at h;obtain ⟨⟨⟨⟨_,_⟩,hi⟩,_⟩,hk⟩:=h;unfold z8W at hk;split at hk
 ·simp only [w0a,w0n] at hk;obtain ⟨⟨h1,h2⟩,h3⟩:=hk
  exact ⟨hi,(z0p h1).1,(z0p h1).2,by omega⟩
 ·split at hk
  ·simp only [w0a,w0n] at hk;obtain ⟨⟨⟨h0,h1⟩,h2⟩,h3⟩:=hk
   exact ⟨hi,(z0p h1).1,(z0p h1).2,by omega⟩
  ·split at hk
   ·simp only [w0a,w0n] at hk;obtain ⟨⟨⟨h0,h1⟩,h2⟩,h3⟩:=hk;have hf:=w0q.1 h1;unfold Y0 at h2;simp only [w0a,w0n] at h2
    exact ⟨hi,by omega,(by rw [hf];intro x hx;cases hx),h2.1.2⟩
   ·split at hk
    ·simp only [w0a,w0n] at hk;obtain ⟨⟨⟨h0,h1⟩,h2⟩,h3⟩:=hk;have hf:=w0q.1 h1;unfold Y0 at h2;simp only [w0a,w0n] at h2
     exact ⟨hi,by omega,(by rw [hf];intro x hx;cases hx),h2.1.2⟩
    ·split at hk
     ·simp only [w0a,w0n] at hk;obtain ⟨⟨⟨⟨h0,h1⟩,h2⟩,h3⟩,h4⟩:=hk;have hf:=w0q.1 h1
      exact ⟨hi,by omega,(by rw [hf];intro x hx;cases hx),by omega⟩
     ·cases hk
theorem zgF {ds:List Def} (h:z3F C11.zt C11.QZ C11.YW ds=true):ds.length<=64/\∀d,d∈ds->zdx d:=by
 unfold z3F at h;simp only [w0a,w0n,w0m] at h;exact ⟨h.1.2,fun d hd=>zgl (h.2 d hd)⟩
theorem z3e (y:Field) (a:Str):∀l:List Input,(C11.qU y a l).length<=l.length
 |[]=>by simp [C11.qU]
 |x::r=>by
  have:=z3e y a r
  simp only [C11.qU];split<;>simp<;>omega
theorem z3B (y:Field) (a:Str):∀l:List Input,(C11.qu y a l).length<=l.length
 |[]=>by simp [C11.qu]
 |x::r=>by
  have:=z3B y a r
  simp only [C11.qu];split<;>simp<;>omega
theorem z2y (ds:List Def) (t:Def) (ht:∀y,y∈t.fields->y.args.length<=16):∀l:List Field,(∀x,x∈l->x.args.length<=16)->(C11.qo ds t l).length<=40*l.length
 |[],_=>by simp [C11.qo]
 |x::r,h=>by
  have h1:=z2y ds t ht r (fun y hy=>h y (w08 _ hy));have h2:=h x (w0l ..)
  have h3:(C11.z6Y ds t x).length<=40:=by
   unfold C11.z6Y
   cases hf:C11.Z5 x.name t.fields with
   |none=>simp
   |some y=>
    have a1:=z3e y (C11.atF t x) x.args;have a2:=z3B x (C11.atF t x) y.args;have a3:=ht y (C11.w8 hf);simp only [w0g]
    split<;>simp<;>omega
  simp only [C11.qo,w0g,w0b];omega
theorem z4G {ds:List Def} (h:∀d,d∈ds->zdx d) {t:Def} (ht:t∈ds):∀(l p:List Str),(C11.Yc ds t p l).length<=3000*l.length
 |[],p=>by simp [C11.Yc]
 |n::r,p=>by
  have h1:=z4G h ht r (p++[n])
  have h2:((C11.zi n ds).getD Def.zero).fields.length<=64/\∀x,x∈((C11.zi n ds).getD Def.zero).fields->x.args.length<=16:=by
   cases hf:C11.zi n ds with
   |none=>simp [Def.zero]
   |some o=>have:=h o (C11.ZN hf);exact ⟨this.f,this.a⟩
  have h3:=z2y ds t (h t ht).a ((C11.zi n ds).getD Def.zero).fields h2.2;simp only [C11.Yc,w0g,w0b];split
  ·omega
  ·simp only [w0b,w16];omega
theorem z6I (ds:List Def) (t:Def):∀(l p:List ZA),(C11.unL ds t p l).length<=l.length
 |[],p=>by simp [C11.unL]
 |m::r,p=>by
  have h1:=z6I ds t r (p++[m]);simp only [C11.unL,w0g,w0b]
  split<;>simp<;>omega
theorem z1T {ds:List Def} (h:∀d,d∈ds->zdx d):∀l:List Def,(∀d,d∈l->d∈ds)->(C11.Wm ds l).length<=300000*l.length
 |[],_=>by simp [C11.Wm]
 |t::r,hl=>by
  have h1:=z1T h r (fun d hd=>hl d (w08 _ hd));have ht:=hl t (w0l ..);have h2:=z4G h ht t.implements [];have h3:=z6I ds t t.members [];have h4:=h t ht;have h5:=h4.i;have h6:=h4.m;simp only [C11.Wm,w0g,w0b,C11.zad];split
  ·omega
  ·split
   ·omega
   ·simp only [w16];omega
theorem z3Y (ds:List Def) (t:Str):∀l:List Field,(z0e ds t l).length<=C11.wFd l
 |[]=>by simp [z0e]
 |f::r=>by
  have h1:=z3Y ds t r;have h2:=z3s ds (t++[46]++f.name) [40] [41] f.args;simp only [z0e,w0g,C11.wFd];omega
theorem z4f (ds:List Def):∀l:List Def,(W0 ds l).length<=C11.wDs l
 |[]=>by simp [W0]
 |d::r=>by
  have h1:=z4f ds r;have h2:=z3Y ds d.name d.fields;have h3:=z3s ds d.name [46] [] d.zp;simp only [W0,w0g,C11.wDs,C11.wD];omega
theorem QX {α:Type} {f:α->List T}:∀{l:List α} {x:α},x∈l->ZK (f x)<=yx (l.map f)
 |y::r,x,h=>by
  simp only [w0o,yx]
  rcases w17.1 h with rfl|h
  ·omega
  ·have:=QX (f:=f) h;omega
theorem zfJ {x:Field} (hb:ZK x.enc<=1048576):SzF x:=by
 have h1:=C11.Zl Input.enc (fun x=>C11.Zv _ _) x.args;have h2:=C11.Zl Dir.enc (fun x=>C11.Zv _ _) x.Zp;simp only [Field.enc,ZK,T.bulk] at hb
 exact ⟨by omega,by omega⟩
theorem zfg {t:Def} (hb:ZK t.enc<=1048576):SzD t:=by
 have h1:=C11.z5b t.fields;have h2:=C11.Zl ZA.enc (fun x=>C11.Zv _ _) t.members;have h3:=C11.Zl Input.enc (fun x=>C11.Zv _ _) t.zp;have h4:=C11.Zl Dir.enc (fun x=>C11.Zv _ _) t.Zp;have h5:=C11.Zl Go.GB.sE (fun x=>C11.Zv _ _) t.implements;simp only [Def.enc,ZK,T.bulk] at hb
 exact ⟨by omega,by omega,by omega,by omega,by omega,fun x hx=>zfJ (by have:=QX (f:=Field.enc) hx;omega)⟩
theorem zdu {ds:List Def} (hD:Z6 ds) (hb:yx (ds.map Def.enc)<=1048576):zeo ds:=by
 have hsz:∀t,t∈ds->SzD t:=fun t ht=>zfg (by have:=QX (f:=Def.enc) ht;omega);have hw:=C11.z3l ds;refine ⟨hD,fun d hd=>?_,fun d hd f hf=>?_,C11.z7H hb true,fun h=>?_,?_,?_,hsz⟩
 ·have:=(hsz d hd).n;omega
 ·have:=((hsz d hd).x f hf).a;omega
 ·obtain ⟨h1,h2⟩:=zgF h;have:=z1T h2 ds (fun d hd=>hd);unfold C11.WU;omega
 ·have:=z4f ds ds;omega
 ·exact w0u (C11.Zl Def.enc (fun x=>C11.Zv _ _) ds) hb
theorem z0Y:∀(k:Nat) (l:List zg),SizeOf.sizeOf l<=k->zg.Zm l<=yx (l.map zg.enc)
 |0,l,h=>by cases l<;>simp at h
 |k+1,l,h=>by
  cases l with
  |nil=>simp [zg.Zm]
  |cons p r=>
   simp only [List.cons.sizeOf_spec] at h;have h1:=z0Y k r (by omega)
   have h2:=z0Y k p.z7 (by cases p with|mk a b c d e f g i=>simp only [zg.z7,zg.mk.sizeOf_spec] at h⊢;omega)
   have h3:=zg.z06 p
   have h4:ZK p.enc=ZK p.cs:=by rw [zg.zx]
   simp only [zg.Zm,w0o,yx,h4,zg.cs,ZK,T.bulk];omega
structure zgI (s:zH):Prop where
 g:s.z3.length<=140737488355328
 k:s.keys.length<=140737488355328
 j:s.zr.length<=140737488355328
 kf:∀k,k∈s.keys->k.fields.length<=140737488355328
 jf:∀j,j∈s.zr->j.req.length<=140737488355328/\j.Zk.length<=140737488355328
def z95:List Sh:=[.str,.int .i64,.lst 16 [.str]]
def z7n:List Sh:=[.str,.str,.int .i64,.bool,.lst 16 [.str],.lst 16 [.str]]
def zaB:List Sh:= .lst 16 [.str]::(zeI++[.lst 48 z95,.lst 96 z7n])
theorem zfq {c:List T} (h:Sh.oks YA z95 c):∃x:zA,c=x.enc/\x.fields.length<=140737488355328:=by
 have:=ZJ;obtain ⟨x1,c,rfl,⟨t,rfl,_⟩,h1⟩:=Sh.zC h;obtain ⟨x2,c,rfl,⟨g,rfl,_⟩,h2⟩:=Sh.zC h1;obtain ⟨x3,c,rfl,h3,h4⟩:=Sh.zC h2;obtain ⟨l,rfl,hl,_⟩:=Qj h3;obtain rfl:=Sh.yW h4
 exact ⟨⟨t,g,l⟩,rfl,by show l.length<=_;omega⟩
theorem zel {c:List T} (h:Sh.oks YA z7n c):∃x:zo,c=x.enc/\(x.req.length<=140737488355328/\x.Zk.length<=140737488355328):=by
 have:=ZJ;obtain ⟨x1,c,rfl,⟨t,rfl,_⟩,h1⟩:=Sh.zC h;obtain ⟨x2,c,rfl,⟨f,rfl,_⟩,h2⟩:=Sh.zC h1;obtain ⟨x3,c,rfl,⟨g,rfl,_⟩,h3⟩:=Sh.zC h2;obtain ⟨x4,c,rfl,⟨e,rfl⟩,h4⟩:=Sh.zC h3;obtain ⟨x5,c,rfl,h5,h6⟩:=Sh.zC h4;obtain ⟨l,rfl,hl,_⟩:=Qj h5;obtain ⟨x6,c,rfl,h7,h8⟩:=Sh.zC h6;obtain ⟨m,rfl,hm,_⟩:=Qj h7;obtain rfl:=Sh.yW h8
 exact ⟨⟨t,f,g,e,l,m⟩,rfl,by show l.length<=_/\m.length<=_;omega⟩
theorem zfB {c:List T} (h:Sh.oks YA zaB c):∃(gs:List Str) (ds:List Def) (ks:List zA) (js:List zo),c=[.lst (gs.map Go.GB.sE),.lst (ds.map Def.enc),.lst (ks.map zA.enc),.lst (js.map zo.enc)]/\Z6 ds/\zgI ⟨gs,.lst (ds.map Def.enc),ks,js⟩:=by
 have:=ZJ;obtain ⟨x1,c,rfl,h0,h1⟩:=Sh.zC h;obtain ⟨gs,rfl,hg,_⟩:=Qj h0;obtain ⟨ds,c,rfl,hD,h2⟩:=zfe h1;obtain ⟨x2,c,rfl,h3,h4⟩:=Sh.zC h2;obtain ⟨ks,rfl,hk,_,hk2⟩:=wI (fun c hc=>zfq hc) h3;obtain ⟨x3,c,rfl,h5,h6⟩:=Sh.zC h4;obtain ⟨js,rfl,hj,_,hj2⟩:=wI (fun c hc=>zel hc) h5;obtain rfl:=Sh.yW h6
 exact ⟨gs,ds,ks,js,rfl,hD,⟨by show gs.length<=_;omega,by show ks.length<=_;omega,by show js.length<=_;omega,hk2,hj2⟩⟩
def zaP:List Sh:=[.int .i64,.num 1]
theorem zfi {c:List T} (h:Sh.oks YA zaP c):∃(k:Int) (l:List zg),c=[.int .i64 k,.lst (l.map zg.enc)]/\l.length*160<=140737488355328/\∀p,p∈l->p.Ok:=by
 obtain ⟨x1,c,rfl,⟨k,rfl,_⟩,h1⟩:=Sh.zC h;obtain ⟨x2,c,rfl,⟨l,rfl,h2,h3⟩,h4⟩:=Sh.zC h1;obtain rfl:=Sh.yW h4;exact ⟨k,l,rfl,h2,fun p hp=>(h3 p hp).1⟩
theorem zhc {gs:List Str} {ds:List Def} {ks:List zA} {js:List zo} {l:List zg} (hD:Z6 ds) (hS:zgI ⟨gs,.lst (ds.map Def.enc),ks,js⟩) (hl:l.length*160<=140737488355328) (ho:∀p,p∈l->p.Ok) (hb:yx (ds.map Def.enc)<=1048576) (hb2:yx (l.map zg.enc)<=1048576):zbO ⟨gs,.lst (ds.map Def.enc),ks,js⟩ ds l:=
 ⟨zdu hD hb,rfl,hS.g,hS.k,hS.j,hS.kf,hS.jf,hl,ho,by have:=z0Y _ l (w07 _);omega⟩
end Go.GB.C29
