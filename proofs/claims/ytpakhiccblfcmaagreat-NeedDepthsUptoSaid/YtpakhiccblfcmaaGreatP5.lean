/-
  YtpakhiccblfcmaaGreatP5: lemmas. No conditions.
-/
import Derived.Test.YtpakhiccblfcmaaGreatP4
import Derived.Maps.RangeRun
import Derived.Test.YtpakhiccblfcmaaGreatP3
set_option linter.all false
set_option maxRecDepth 100000
set_option maxHeartbeats 16000000
namespace Go.GB.C26
open Go.GB
variable {P:Program}
structure Sol (s:zH) (name:Str) (here sp:List ze) (js:List zo) (ks:List zA) (F1:List (Str×Int)) (A1:List Int):Prop where
 h1:s.z3.length<=2000
 h2:here.length<=100000
 h3:s.zr.length<=100000
 h4:s.keys.length<=100000
 e2:wz s.z3.length name s.zr [] []=js
 e3:Y9 s.z3.length name s.keys []=ks
 ex:∃A0 fuel,yG s.z3.length here [] (List.replicate (s.z3.length/8+1) (List.replicate 8 0)).flatten=(sp,A0)/\NOk s sp js ks (s.z3.length/8+1) A0/\stops s.z3.length sp js ks fuel [] A0/\z1v s.z3.length sp js ks fuel [] A0=(F1,A1)
 hN:NOk s sp js ks (s.z3.length/8+1) A1
def zH.v (s:zH):V:= .agg [.t (.lst (s.z3.map sE)),.t s.doc,.t (.lst (s.keys.map zA.enc)),.t (.lst (s.zr.map zo.enc))]
section
variable {s:zH} {name:Str} {here sp:List ze} {js:List zo} {ks:List zA} {F:List (Str×Int)} {A:List Int}
theorem z4n (H:Pr P) (h:Sol s name here sp js ks F A):z6 P 56 [s.v,.t (.str name),.t (.lst (here.map ze.enc))] ⟨[],0⟩ {v:= .ptr 3 0,ob:=[(1,.map false (mE sE iE F) none),(2,.cells (cE iE A)),(3,.cells (z31 s sp js ks (s.z3.length/8+1)))],n:=4}:=by
 obtain ⟨A0,fuel,g1,g2,g3,g4⟩:=h.ex;exact zcM H s name here sp js ks A0 A F fuel h.h1 h.h2 h.h3 h.h4 g1 h.e2 h.e3 g2 g3 g4
def nC4 (s:zH) (sp:List ze) (js:List zo) (ks:List zA):List V:=
 [.t (.lst (s.z3.map sE)),.t s.doc,.t (.lst (s.keys.map zA.enc)),.t (.lst (s.zr.map zo.enc)),.t (.lst (sp.map ze.enc)),.t (.lst (js.map zo.enc)),.t (.lst (ks.map zA.enc)),.slc 3 0 (s.z3.length/8+1) 8,.mp 2]
theorem zfT (H:Pr P) (h:Sol s name here sp js ks F A) (f:Str):z6 P 32 [s.v,.t (.str name),.t (.lst (here.map ze.enc)),.t (.str f)] ⟨[],0⟩ {v:= .tup [.t (.int .i64 (zZ s.z3.length F A f)),.t (.bool (decide (zZ s.z3.length F A f>0)))]}:=by
 refine z6.run H.i32 H.mixed Z Z ?_;refine fR Z ?_
 refine Mid.Zt [] (z4n H h) Z Z Z Z Z (by repeat' (first |exact trivial|exact rfl|refine And.intro ?_ ?_|exact (congrArg some (z5.zD _ _ _ _ _ _)).symm|exact (congrArg some (z5.zE _ _ _)).symm)) Z Z (ob':=[(2,.map false (mE sE iE F) none),(3,.cells (cE iE A)),(4,.cells (nC4 s sp js ks))]) ((by simp only [wY,z5.zD,z5.zE];rfl)) Z Z ?_
 refine fM Z ?_
 refine Mid.yM [4,2,3] (z7p (F:=F) H h.hN f) Z Z Z Z zK (by repeat' (first |exact trivial|exact rfl|refine And.intro ?_ ?_|exact (congrArg some (z5.zD _ _ _ _ _ _)).symm|exact (congrArg some (z5.zE _ _ _)).symm)) Z ?_
 refine fM Z ?_;refine Run.fin Z (z4.go ?_);exact .wx (.t Z) (.t Z)
end
end Go.GB.C26
namespace Go.GB.C26
open Go.GB
variable {P:Program}
section
variable {s:zH} {name:Str} {here sp:List ze} {js:List zo} {ks:List zA} {F:List (Str×Int)} {A:List Int}
end
end Go.GB.C26
namespace Go.GB
section
variable {P:Program} {n m:Nat} {R:St->Prop}
theorem zy.zg0 {Λ:L} {v:Value} {c d:Prop} (h:zy Λ v (.ub c d)):∃b,v= .bool b/\(b=true->c)/\(b=false->d):=by
 cases h with
 |ub h h'=>exact ⟨_,rfl,h,h'⟩
theorem Sat.z6Q {Q:YJ->St->Prop} {st:St} {z:Ar} {a b:zV} {c d:Prop} (hz:z.v st= .ub c d) (h1:c->Sat P n m a st Q) (h2:d->Sat P n m b st Q):Sat P n m (.cond z a b) st Q:=by
 intro code k1 k2 k3 C Λ ac k4 k5 k6 k7 k8;have:=ZS k1;simp only [zV.bare] at this;obtain ⟨e,x,y,rfl,hc,hx,hy⟩:=this;simp only [codeOk,w0a] at k2;have hv:=k7.opd hc;rw [hz] at hv;obtain ⟨t,ht,g1,g2⟩:=zy.zg0 hv;refine wp_cond ht ?_
 cases t with
 |true=>exact h1 (g1 rfl) x hx k2.1 k3 C Λ ac k4 k5 k6 k7 k8
 |false=>exact h2 (g2 rfl) y hy k2.2 k3 C Λ ac k4 k5 k6 k7 k8
theorem Run.z6Q {k k':List It} {z:Ar} {a b:zV} {st:St} {c d:Prop} (hk:yf 200 k= .c (.cond z a b)::k') (hz:z.v st= .ub c d) (h1:c->Run P n m R (.c a::k') st) (h2:d->Run P n m R (.c b::k') st):Run P n m R k st:=
 Run.adv 200 hk (by
  simp only [Run,ZY] at h1 h2⊢
  exact Sat.z6Q hz h1 h2)
variable {draw:Bool} {all:List AO} {after:List (List Nat)} {live:List Nat} {k:List It} {b b':Nat} {fl:List (Bool×Bool)} {ops:List AO} {st st':St} {d:Option Nat}
theorem Mid.zhb {ν:Type} {ev:ν->T} {l:List ν} {e:ν} {s:Nat} {want gc:Bool} {x:Ar} {q o nn:Nat} {p1:List Bool} (hg:ZZ want (look st.env s)=some gc) (hx:rd gc st x=(.ptr q o,p1)) (hq:zl st.s.sto q=some (.cells (cE ev l))) (he:l[o]?=some e)
  (hp1:Z9 (p1.map fun p=>!gc||p)) (hs:zQ st d (.gd gc (.t (ev e))) some=some st')
  (h':Mid P n m R draw all after live k b ((true,false)::fl) ops st'):Mid P n m R draw all after live k b fl (⟨d,some (s,want),.ld false nn x⟩::ops) st:=
 Mid.zeG (v:= .t (ev e)) (ps:=p1) hg (by simp only [zk,hx,hq];simp [cE,he]) (QN hx) hp1 hs h'
end
end Go.GB
namespace Go.GB.C26
open Go.GB
variable {P:Program}
theorem zcl (H:Pr P) (l:List Str) (hl:l.length<=100000):z6 P 70 [.t (.lst (l.map sE))] ⟨[],0⟩ {v:= .t (.lst (l.map sE))}:=by
 refine z6.run H.i70 H.mixed Z Z ?_;refine fR Z ?_;refine p0 Z ?_;refine fM Z ?_;refine Run.z6Q Z Z (fun h=>?_) (fun _=>?_)
 ·have hn:l=[]:=by
   cases l with
   |nil=>rfl
   |cons x r=>
    have:=h (sE x) (by simp);simp [sE] at this
  subst hn;refine fR Z ?_;refine Run.fin Z (z4.go ?_);exact .nil Z
 ·refine fR Z ?_;refine apN sE l Z Z Z ?_ (h1:=by omega) (h2:=by omega);refine fM rfl ?_;refine Run.fin rfl (z4.go ?_);exact .own (by simp)
def yz (n:Nat) (sp:List ze) (ks:List zA) (F:List (Str×Int)) (A:List Int) (f:Str) (g:Int):List zo->List ze->List ze
 |[],acc=>acc
 |j::r,acc=>yz n sp ks F A f g r (if (!(j.field==f)||!(j.graph==g)||j.ext)=true then acc else if Zh n sp ks F A j>0 then acc++[⟨g,Zh n sp ks F A j,j.Zk⟩] else acc)
def ZU (n:Nat) (sp:List ze) (js:List zo) (ks:List zA) (F:List (Str×Int)) (A:List Int) (f:Str):Nat->Nat->List ze->List ze
 |_,0,acc=>acc
 |i,c+1,acc=>ZU n sp js ks F A f (i+1) c (yz n sp ks F A f i js acc)
section
variable {s:zH} {name:Str} {here sp:List ze} {js:List zo} {ks:List zA} {F:List (Str×Int)} {A:List Int}
theorem z3t (n:Nat) (sp:List ze) (ks:List zA) (F:List (Str×Int)) (A:List Int) (f:Str) (g:Int):∀(l:List zo) (acc:List ze),(yz n sp ks F A f g l acc).length<=acc.length+l.length
 |[],acc=>by simp [yz]
 |j::r,acc=>by
  simp only [yz];have:=z3t n sp ks F A f g r (if (!(j.field==f)||!(j.graph==g)||j.ext)=true then acc else if Zh n sp ks F A j>0 then acc++[⟨g,Zh n sp ks F A j,j.Zk⟩] else acc)
  have h2:(if (!(j.field==f)||!(j.graph==g)||j.ext)=true then acc else if Zh n sp ks F A j>0 then acc++[⟨g,Zh n sp ks F A j,j.Zk⟩] else acc).length<=acc.length+1:=by
   split
   ·omega
   ·split
    ·simp
    ·omega
  simp only [w0b];omega
end
def Q8 (name:Str) (g:Int) (j:zo):Bool:=(j.ty==name)&&(j.graph==g)
def z0b (p:zo->Bool):Int->List zo->Int
 |_,[]=>-1
 |i,b::l=>if p b then i else z0b p (i+1) l
theorem z58 (p:zo->Bool):∀(l:List zo) (i:Int),0<=i->decide (z0b p i l≥0)=l.any p
 |[],i,h=>by simp [z0b]
 |b::l,i,h=>by
  have ih:=z58 p l (i+1) (by omega);by_cases hp:p b=true
  ·simp [z0b,hp,h]
  ·simp only [z0b,w14,hp];simpa using ih
theorem zay (H:Pr P) (j:zo) (name:Str) (g:Int):z6 P 48 [.agg [.t (.str j.ty),.t (.str j.field),.t (.int .i64 j.graph),.t (.bool j.ext),.t (.lst (j.req.map sE)),.t (.lst (j.Zk.map sE))],.ptr 0 0,.ptr 1 0] ⟨[(0,.cells [.t (.str name)]),(1,.cells [.t (.int .i64 g)])],2⟩ {v:= .t (.bool (Q8 name g j)),rd:=true}:=by
 refine z6.run H.i48 H.mixed Z Z ?_;refine fR Z ?_;refine Run.fin Z (z4.Zy Z Z Z (by first |exact rfl|exact zK|exact zM) (.t (rfl)))
theorem z5J (H:Pr P) (l:List zo) (hl:l.length<=100000) (name:Str) (g:Int):z6 P 72 [.t (.lst (l.map zo.enc)),.fn 48 [(0,0),(1,0)]] ⟨[(0,.cells [.t (.str name)]),(1,.cells [.t (.int .i64 g)])],2⟩ {v:= .t (.int .i64 (z0b (Q8 name g) 0 l)),rd:=true}:=by
 refine z6.run H.i72 H.mixed Z Z ?_;refine fR Z ?_;refine lM Z Z Z ?_;refine fM Z ?_;refine zu l (fun i (_:Unit)=>{env:=[(0,.t (.lst (l.map zo.enc))),(1,.fn 48 [(0,0),(1,0)]),(7,.t (.int .i64 l.length)),(8,.t (.int .i64 i))],s:=⟨[(0,.cells [.t (.str name)]),(1,.cells [.t (.int .i64 g)])],2⟩}) (fun r i _=>z0b (Q8 name g) 0 l=z0b (Q8 name g) i r) 2 () Z Z Z Z Z ?_ ?_
 ·intro _ hinv;refine fR Z ?_;refine Run.zf Z Z (by simp) ?_;refine fR Z ?_;refine Run.fin Z (z4.Zy Z Z Z (by first |exact rfl|exact zK|exact zM) (.t ((by rw [hinv];rfl))))
 ·intro i x r _ h1 hi hd hinv ih;refine fR Z ?_;refine Run.zj Z Z (by simp;omega) ?_;refine fR Z ?_;refine Mid.za Z Z Z h1 Z Z ?_;refine fM Z ?_;refine Mid.z5w Z (zay H x name g) Z Z Z Z ?_;refine fM Z ?_;refine Run.cond Z Z (fun hc=>?_) (fun hc=>?_)
  ·refine fR Z ?_;refine Run.fin Z (z4.Zy Z Z Z (by first |exact rfl|exact zK|exact zM) (.t ((by rw [hinv];simp [z0b,hc]))))
  ·refine fR Z ?_;refine aL Z Z Z Z Z ?_;refine fM Z ?_;exact zh 2 Z (ih () (by rw [hinv];simp [z0b,hc])) Z Z Z
theorem z20 (H:Pr P) (l:List zo) (hl:l.length<=100000) (name:Str) (g:Int):z6 P 47 [.t (.lst (l.map zo.enc)),.fn 48 [(0,0),(1,0)]] ⟨[(0,.cells [.t (.str name)]),(1,.cells [.t (.int .i64 g)])],2⟩ {v:= .t (.bool (l.any (Q8 name g))),rd:=true}:=by
 refine z6.run H.i47 H.mixed Z Z ?_;refine fR Z ?_;refine Mid.Wd (z5J H l hl name g) Z Z (by first |exact rfl|exact zK|exact zM) Z ?_;refine fM Z ?_;refine Run.fin Z (z4.Zy Z Z Z (by first |exact rfl|exact zK|exact zM) (.t ((by rw [←z58 (Q8 name g) l 0 (by omega)]))))
def yU (name:Str) (js:List zo):Nat->Nat->List ze->List ze
 |_,0,acc=>acc
 |i,c+1,acc=>yU name js (i+1) c (if js.any (Q8 name i)=true then acc++[⟨i,1,[]⟩] else acc)
theorem zbq (H:Pr P) (s:zH) (name:Str) (h1:s.z3.length<=2000) (h3:s.zr.length<=100000):z6 P 26 [s.v,.t (.str name)] ⟨[],0⟩ {v:= .t (.lst ((yU name s.zr 0 s.z3.length []).map ze.enc))}:=by
 refine z6.run H.i26 H.mixed Z Z ?_;refine fR Z ?_;refine lM Z Z Z ?_;refine fM Z ?_
 refine zu s.z3 (fun i (B:List ze)=>{env:=[(2,.ptr 0 0),(3,.ptr 1 0),(5,.own 2 3 (B.map ze.enc)),(9,.t (.int .i64 s.z3.length)),(10,.t (.int .i64 i))],s:=⟨[(0,.cells [.t (.lst (s.z3.map sE)),.t s.doc,.t (.lst (s.keys.map zA.enc)),.t (.lst (s.zr.map zo.enc))]),(1,.cells [.t (.str name)]),(2,.arr B.length)],3⟩}) (fun r i B=>B.length<=i/\yU name s.zr 0 s.z3.length []=yU name s.zr i r.length B) 2 [] Z ⟨by simp,rfl⟩ rfl rfl rfl ?_ ?_
 ·rintro B ⟨_,hinv⟩;refine fR Z ?_;refine Run.zf Z Z (by simp) ?_;refine fR Z ?_;refine Run.fin Z (z4.go ?_);exact .own (by rw [hinv];rfl)
 ·rintro i x r B hi1 hi hd ⟨hl,hinv⟩ ih;refine fR Z ?_;refine Run.zj Z Z (by simp;omega) ?_;refine fR Z ?_
  refine Mid.yM [1,3] (z20 H s.zr h3 name i) Z Z Z Z (by simp [zP];simp [z5.bd,V.bds,V.bd]) (by repeat' (first |exact trivial|exact rfl|refine And.intro ?_ ?_|exact (congrArg some (z5.zD _ _ _ _ _ _)).symm|exact (congrArg some (z5.zE _ _ _)).symm)) Z ?_
  refine fM Z ?_;refine Run.cond Z Z (fun hc=>?_) (fun hc=>?_)
  ·refine fR Z ?_;refine apM ze.enc B [(⟨(i:Int),1,[]⟩:ze)] Z Z Z Z Z ?_;refine fM Z ?_;refine aL Z Z Z Z Z ?_;refine fM Z ?_;exact zh 3 Z (ih (B++[⟨(i:Int),1,[]⟩]) ⟨by simp;omega,by rw [hinv];simp only [w0b,yU];rw [w0c hc]⟩) rfl rfl rfl
  ·refine fR Z ?_;refine aL Z Z Z Z Z ?_;refine fM Z ?_;exact zh 3 Z (ih B ⟨by omega,by rw [hinv];simp only [w0b,yU];rw [w0d (by rw [hc];simp)]⟩) rfl rfl rfl
end Go.GB.C26
namespace Go.GB
abbrev Str:=List UInt8
def sE (s:Str):List T:=[.str s]
def nE (n:Int):List T:=[.int .i64 n]
theorem qL:Yb [.str] sE:=⟨fun _=>rfl,fun x y h=>by simpa [sE,ZX,T.eqb] using h,fun x=>by simp [sE,ZX,T.eqb]⟩
inductive Val where
 |mk (kind int:Int) (text:Str) (items:List Val) (keys:List Str)
namespace Val
def kind:Val->Int| .mk k _ _ _ _=>k
def int:Val->Int| .mk _ k _ _ _=>k
def text:Val->Str| .mk _ _ k _ _=>k
def items:Val->List Val| .mk _ _ _ k _=>k
def keys:Val->List Str| .mk _ _ _ _ k=>k
mutual
def enc:Val->List T
 | .mk k i t its ks=>[.int .i64 k,.int .i64 i,.str t,.lst (z2B its),.lst (ks.map sE)]
def z2B:List Val->List (List T)
 |[]=>[]
 |v::r=>v.enc::z2B r
end
theorem Qa:∀l:List Val,z2B l=l.map enc
 |[]=>by simp [z2B]
 |v::r=>by simp [z2B,Qa r]
def cs (v:Val):List T:=[.int .i64 v.kind,.int .i64 v.int,.str v.text,.lst (v.items.map enc),.lst (v.keys.map sE)]
theorem zx (v:Val):v.enc=v.cs:=by
 cases v;simp [enc,cs,kind,int,text,items,keys,Qa]
def v (x:Val):V:= .agg [.t (.int .i64 x.kind),.t (.int .i64 x.int),.t (.str x.text),.t (.lst (x.items.map enc)),.t (.lst (x.keys.map sE))]
theorem yE:∀(v:Val) {x:Val},x∈v.items->SizeOf.sizeOf x<SizeOf.sizeOf v
 | .mk k i t its ks,x,h=>by
  have:=List.sizeOf_lt_of_mem h;simp only [items] at this;simp only [Val.mk.sizeOf_spec];omega
end Val
structure Ref where
 name:Str
 zw:List Int
structure Arg where
 name:Str
 val:Val
def Arg.enc (a:Arg):List T:=[.str a.name,.int .i64 a.val.kind,.int .i64 a.val.int,.str a.val.text,.lst (a.val.items.map Val.enc),.lst (a.val.keys.map sE)]
structure Dir where
 name:Str
 args:List Arg
def Dir.enc (d:Dir):List T:=[.str d.name,.lst (d.args.map Arg.enc)]
structure Input where
 name:Str
 ty:Ref
 has:Bool
 YO:Val
 Zp:List Dir
def Input.enc (x:Input):List T:=[.str x.name,.str x.ty.name,.lst (x.ty.zw.map nE),.bool x.has,.int .i64 x.YO.kind,.int .i64 x.YO.int,.str x.YO.text,.lst (x.YO.items.map Val.enc),.lst (x.YO.keys.map sE),.lst (x.Zp.map Dir.enc)]
structure Field where
 name:Str
 args:List Input
 ty:Ref
 Zp:List Dir
def Field.enc (f:Field):List T:=[.str f.name,.lst (f.args.map Input.enc),.str f.ty.name,.lst (f.ty.zw.map nE),.lst (f.Zp.map Dir.enc)]
structure ZA where
 name:Str
 Zp:List Dir
def ZA.enc (m:ZA):List T:=[.str m.name,.lst (m.Zp.map Dir.enc)]
structure Def where
 kind:Int
 name:Str
 implements:List Str
 Zp:List Dir
 fields:List Field
 members:List ZA
 zp:List Input
def Def.enc (d:Def):List T:=[.int .i64 d.kind,.str d.name,.lst (d.implements.map sE),.lst (d.Zp.map Dir.enc),.lst (d.fields.map Field.enc),.lst (d.members.map ZA.enc),.lst (d.zp.map Input.enc)]
structure Hop where
 on:Str
 key:Str
def Hop.enc (h:Hop):List T:=[.str h.on,.str h.key]
inductive zg where
 |mk (key on name:Str) (args:List Arg) (ty:Ref) (label:Str) (initial:Int) (z7:List zg)
namespace zg
def key:zg->Str| .mk k _ _ _ _ _ _ _=>k
def on:zg->Str| .mk _ k _ _ _ _ _ _=>k
def name:zg->Str| .mk _ _ k _ _ _ _ _=>k
def args:zg->List Arg| .mk _ _ _ k _ _ _ _=>k
def ty:zg->Ref| .mk _ _ _ _ k _ _ _=>k
def label:zg->Str| .mk _ _ _ _ _ k _ _=>k
def initial:zg->Int| .mk _ _ _ _ _ _ k _=>k
def z7:zg->List zg| .mk _ _ _ _ _ _ _ k=>k
mutual
def enc:zg->List T
 | .mk k o n a t l i ps=>[.str k,.str o,.str n,.lst (a.map Arg.enc),.str t.name,.lst (t.zw.map nE),.str l,.int .i64 i,.lst (z2B ps)]
def z2B:List zg->List (List T)
 |[]=>[]
 |v::r=>v.enc::z2B r
end
theorem Qa:∀l:List zg,z2B l=l.map enc
 |[]=>by simp [z2B]
 |v::r=>by simp [z2B,Qa r]
def cs (v:zg):List T:=[.str v.key,.str v.on,.str v.name,.lst (v.args.map Arg.enc),.str v.ty.name,.lst (v.ty.zw.map nE),.str v.label,.int .i64 v.initial,.lst (v.z7.map enc)]
theorem zx (v:zg):v.enc=v.cs:=by
 cases v;simp [enc,cs,key,on,name,args,ty,label,initial,z7,Qa]
theorem z84:∀(v:zg) {x:zg},x∈v.z7->SizeOf.sizeOf x<SizeOf.sizeOf v
 | .mk k o n a t l i ps,x,h=>by
  have:=List.sizeOf_lt_of_mem h;simp only [z7] at this;simp only [zg.mk.sizeOf_spec];omega
end zg
def B47:Nat:=140737488355328
inductive Val.Ok:Val->Prop where
 |mk {k i:Int} {t:Str} {its:List Val} {ks:List Str} (h1:its.length*80<=B47) (h2:ks.length*16<=B47) (h3:∀x,x∈its->Val.Ok x) (h4:t.length<=140737488355328) (h5:∀x,x∈ks->x.length<=140737488355328):Val.Ok (.mk k i t its ks)
namespace Val.Ok
theorem il {v:Val} (h:v.Ok):v.items.length*80<=140737488355328:=by cases h with|mk h1 h2 h3=>exact h1
theorem kl {v:Val} (h:v.Ok):v.keys.length*16<=140737488355328:=by cases h with|mk h1 h2 h3=>exact h2
theorem it {v:Val} (h:v.Ok):∀x,x∈v.items->x.Ok:=by cases h with|mk h1 h2 h3=>exact h3
theorem tl {v:Val} (h:v.Ok):v.text.length<=140737488355328:=by cases h with|mk h1 h2 h3 h4=>exact h4
theorem kt {v:Val} (h:v.Ok):∀x,x∈v.keys->x.length<=140737488355328:=by cases h with|mk h1 h2 h3 h4 h5=>exact h5
end Val.Ok
def Val.zero:Val:= .mk 0 0 [] [] []
theorem Val.ZF:Val.zero.Ok:= .mk (by decide) (by decide) (by simp) (by decide) (by simp)
def Arg.Ok (a:Arg):Prop:=a.val.Ok
structure Dir.Ok (d:Dir):Prop where
 l:d.args.length<=140737488355328
 a:∀x,x∈d.args->x.Ok
 nm:d.name.length<=140737488355328
structure Ref.Ok (r:Ref):Prop where
 l:r.zw.length*8<=140737488355328
 nm:r.name.length<=140737488355328
structure Input.Ok (x:Input):Prop where
 t:x.ty.Ok
 v:x.YO.Ok
 l:x.Zp.length<=140737488355328
 d:∀y,y∈x.Zp->y.Ok
 nm:x.name.length<=140737488355328
structure Field.Ok (x:Field):Prop where
 al:x.args.length<=140737488355328
 a:∀y,y∈x.args->y.Ok
 t:x.ty.Ok
 l:x.Zp.length<=140737488355328
 d:∀y,y∈x.Zp->y.Ok
 nm:x.name.length<=140737488355328
structure ZA.Ok (x:ZA):Prop where
 l:x.Zp.length<=140737488355328
 d:∀y,y∈x.Zp->y.Ok
 nm:x.name.length<=140737488355328
structure Def.Ok (x:Def):Prop where
 il:x.implements.length<=140737488355328
 dl:x.Zp.length<=140737488355328
 d:∀y,y∈x.Zp->y.Ok
 fl:x.fields.length<=140737488355328
 f:∀y,y∈x.fields->y.Ok
 ml:x.members.length<=140737488355328
 m:∀y,y∈x.members->y.Ok
 nl:x.zp.length<=140737488355328
 n:∀y,y∈x.zp->y.Ok
 nm:x.name.length<=140737488355328
 im:∀y,y∈x.implements->y.length<=140737488355328
structure Z6 (ds:List Def):Prop where
 l:ds.length<=140737488355328
 d:∀y,y∈ds->y.Ok
 lb:ds.length*144<=140737488355328
inductive zg.Ok:zg->Prop where
 |mk {k o n:Str} {a:List Arg} {t:Ref} {l:Str} {i:Int} {ps:List zg} (h1:a.length*96<=B47) (h2:∀x,x∈a->x.Ok) (h3:t.Ok) (h4:ps.length*160<=B47) (h5:∀x,x∈ps->zg.Ok x):zg.Ok (.mk k o n a t l i ps)
namespace zg.Ok
theorem al {v:zg} (h:v.Ok):v.args.length*96<=140737488355328:=by cases h with|mk h1=>exact h1
theorem aa {v:zg} (h:v.Ok):∀x,x∈v.args->x.Ok:=by cases h with|mk h1 h2=>exact h2
theorem t {v:zg} (h:v.Ok):v.ty.Ok:=by cases h with|mk h1 h2 h3=>exact h3
theorem pl {v:zg} (h:v.Ok):v.z7.length*160<=140737488355328:=by cases h with|mk h1 h2 h3 h4=>exact h4
theorem p {v:zg} (h:v.Ok):∀x,x∈v.z7->x.Ok:=by cases h with|mk h1 h2 h3 h4 h5=>exact h5
end zg.Ok
def Def.v (d:Def):V:= .agg [.t (.int .i64 d.kind),.t (.str d.name),.t (.lst (d.implements.map sE)),.t (.lst (d.Zp.map Dir.enc)),.t (.lst (d.fields.map Field.enc)),.t (.lst (d.members.map ZA.enc)),.t (.lst (d.zp.map Input.enc))]
def Def.zero:Def:=⟨0,[],[],[],[],[],[]⟩
theorem Def.ZF:Def.zero.Ok:=⟨by decide,by decide,by simp [Def.zero],by decide,by simp [Def.zero],by decide,by simp [Def.zero],by decide,by simp [Def.zero],by decide,by simp [Def.zero]⟩
def Field.v (f:Field):V:= .agg [.t (.str f.name),.t (.lst (f.args.map Input.enc)),.t (.str f.ty.name),.t (.lst (f.ty.zw.map nE)),.t (.lst (f.Zp.map Dir.enc))]
def Field.zero:Field:=⟨[],[],⟨[],[]⟩,[]⟩
theorem Field.ZF:Field.zero.Ok:=⟨by decide,by simp [Field.zero],⟨by decide,by decide⟩,by decide,by simp [Field.zero],by decide⟩
def yT (l:List Def):V:= .agg [.t (.lst (l.map Def.enc))]
def Ref.v (r:Ref):V:= .agg [.t (.str r.name),.t (.lst (r.zw.map nE))]
def zg.v (v:zg):V:= .agg [.t (.str v.key),.t (.str v.on),.t (.str v.name),.t (.lst (v.args.map Arg.enc)),.t (.str v.ty.name),.t (.lst (v.ty.zw.map nE)),.t (.str v.label),.t (.int .i64 v.initial),.t (.lst (v.z7.map zg.enc))]
namespace zg
mutual
def cnt:zg->Nat
 | .mk _ _ _ _ _ _ _ ps=>1+Zm ps
def Zm:List zg->Nat
 |[]=>0
 |p::r=>cnt p+Zm r
end
theorem z06 (p:zg):p.cnt=1+Zm p.z7:=by cases p;simp [cnt,z7]
theorem z2C:∀l:List zg,l.length<=Zm l
 |[]=>by simp
 |p::r=>by
  have:=z2C r;have:=z06 p;simp only [w0b,Zm];omega
end zg
section
variable {P:Program} {n m:Nat} {R:St->Prop} {draw:Bool} {all:List AO} {after:List (List Nat)} {live:List Nat} {k:List It} {b b':Nat} {fl:List (Bool×Bool)} {ops:List AO} {st st':St} {d:Option Nat}
theorem Mid.Z2 {α:Type} {f:α->List T} {l:List α} {e:α} {c:List T} {sz j:Nat} {x i:Ar} {v:V} {kd:IntKind} (hf:f e=c) (hx:rd true st x=(v,[])) (hv:v.zF=some (.lst (l.map f))) (hi:rd true st i=(.t (.int kd j),[])) (hc:l[j]?=some e) (hl:(Nat.beq c.length sz&&!(Nat.beq sz 0))=true)
  (hs:zQ st d (.t (.ptr c)) some=some st') (h':Mid P n m R draw all after live k b ((false,false)::fl) ops st'):Mid P n m R draw all after live k b fl (⟨d,none,.ia sz x i⟩::ops) st:=by
 subst hf;exact Mid.za hx hv hi hc hl hs h'
theorem Mid.WJ {α:Type} {f:α->List T} {l:List α} {e:α} {c:List T} {sz j:Nat} {s:Nat} {want gc:Bool} {x i:Ar} {v:V} {kd:IntKind} {p1 p2:List Bool} (hf:f e=c) (hg:ZZ want (look st.env s)=some gc) (hx:rd gc st x=(v,p1)) (hv:v.zF=some (.lst (l.map f))) (hi:rd gc st i=(.t (.int kd j),p2)) (hc:l[j]?=some e) (hl:(Nat.beq c.length sz&&!(Nat.beq sz 0))=true)
  (hp1:Z9 (p1.map fun p=>!gc||p)) (hp2:Z9 (p2.map fun p=>!gc||p)) (hs:zQ st d (.gd gc (.t (.ptr c))) some=some st') (h':Mid P n m R draw all after live k b ((false,false)::fl) ops st'):Mid P n m R draw all after live k b fl (⟨d,some (s,want),.ia sz x i⟩::ops) st:=by
 subst hf;exact Mid.z6g hg hx hv hi hc hl hp1 hp2 hs h'
end
abbrev TCo (t:Def):z5:= .cells [.t (.int .i64 t.kind),.t (.str t.name),.t (.lst (t.implements.map sE)),.t (.lst (t.Zp.map Dir.enc)),.t (.lst (t.fields.map Field.enc)),.t (.lst (t.members.map ZA.enc)),.t (.lst (t.zp.map Input.enc))]
abbrev VCo (v:Val):z5:= .cells [.t (.int .i64 v.kind),.t (.int .i64 v.int),.t (.str v.text),.t (.lst (v.items.map Val.enc)),.t (.lst (v.keys.map sE))]
abbrev XBo (x:zg):z5:= .cells [.t (.str x.key),.t (.str x.on),.t (.str x.name),.t (.lst (x.args.map Arg.enc)),.t (.str x.ty.name),.t (.lst (x.ty.zw.map nE)),.t (.str x.label),.t (.int .i64 x.initial),.t (.lst (x.z7.map zg.enc))]
abbrev WOo (ds:List Def) (lit:Bool) (c e:Int):z5:= .cells [.t (.lst (List.map Def.enc ds)),.t (.int .i64 0),.t (.int .i64 0),.t (.str []),.t (.lst []),.t (.lst []),.t (.bool lit),.t (.int .i64 c),.t (.int .i64 e)]
end Go.GB
namespace Go.GB
open Go.ChangeMaps (setBlock)
section
variable {P:Program} {o:Oper} {st:St}
theorem z71 {w w1:World} {b:Nat} {ob:Obj} (h:w1=w∨w1=w.drew):wC w (setBlock w1 b ob) b:=by
 rcases h with rfl|rfl
 ·exact ⟨rfl,rfl,rfl,by simp [setBlock],fun c hc=>by simp [setBlock,Ne.symm hc]⟩
 ·exact ⟨rfl,rfl,rfl,by show (w.heap.setIfInBounds b ob).size=w.heap.size;simp,fun c hc=>by show (w.heap.setIfInBounds b ob)[c]?=w.heap[c]?;simp [Ne.symm hc]⟩
theorem zeR {x:Operand} {x':Ar} {k q c:Nat} {seen bs:List Nat} {kag:Bool} {es:List (List T×V)} (hop:o.op= .next x false) (hx:opA x=some x') (hxv:x'.u st= .ptr k 0)
  (hit:zl st.s.sto k=some (.iter q c seen c)) (hes:zl st.s.sto q=some (.map kag es (some (c,bs)))) {C:Ctx} {Λ:L} {a:Act} {next:Act->World->Prop} {Q:Exit->Act->World->Prop} (hr:Rel C Λ st a)
  (h0:(∀s,s∈bs->s∈seen)->∀v,zy Λ v (.tup [.t (.bool false)])->next (a.put o.dst v) Λ.w)
  (h1:∀(i:Nat) (e:List T×V) (s:Nat),es[i]?=some e->bs[i]?=some s->s∉seen->∀v (Λ':L),Kp Λ Λ'->Λ'.nxt=Λ.nxt->Z7 Λ' (st.s.app {v:= .top,ob:=[(k,.iter q c (seen++[s]) c)]})->
   zy Λ' v (.tup [.t (.bool true),z1Z kag e.1,e.2])->(∀k,ya Λ k->ya Λ' k)->next (a.put o.dst v) Λ'.w):o.wp P a Λ.w next Q:=by
 have hx1:=hr.opu hx;rw [hxv] at hx1;generalize hex:a.eval x=u at hx1;obtain ⟨hkn,b,bm,e1,e2,e3,e4⟩:=hr.s.sto k _ hit;obtain ⟨ents,clock,hh,hM⟩:=hr.s.wZ hes e3;obtain ⟨rfl,k2⟩:=hM.known c bs rfl
 have hold:∀y∈ents.toList,y.born<clock:=by
  intro y hy;obtain ⟨i,hi⟩:=w0y.1 hy;exact hM.born i y (by simpa using hi)
 cases hx1 with
 |@ptr b' _ _ hkl hb'=>
  obtain rfl:=hr.s.inj b' b k hb' e1
  rcases run_next_at (P:=P) Λ.w o.type b' bm clock clock seen.toArray ents clock e2 hh hold (w07 _) with ⟨g0,hrun⟩|⟨e,he,w1,hw1,hrun⟩
  ·have hrun':(execOp a.eval o).run P Λ.w= .ok (.value (.tuple #[.bool false])) Λ.w:=by
    simp only [execOp,hop,hex];simp only [Sem.run_bind,hrun,Result.andThen_ok,Sem.run_pure]
   unfold Oper.wp;rw [hrun'];refine h0 (fun s hs=>?_) _ (.tup Z fun j u d h1 h2=>?_)
   ·rw [←k2] at hs;obtain ⟨y,hy,rfl⟩:=w1a.1 hs;have:=all_seen ents seen.toArray g0 y hy;simpa using this
   ·match j,h1,h2 with
    |0,h1,h2=>simp at h1 h2;subst h1;subst h2;exact .t (.bool _)
  ·obtain ⟨hem,hes'⟩:=mem_left he;obtain ⟨i,hi⟩:=w0y.1 hem
   have hi':ents[i]?=some e:=by simpa using hi
   have hil:i<es.length:=by rw [←hM.size];exact (w1q.1 hi').1
   have hee:es[i]?=some es[i]:=by simp [hil]
   have hbb:bs[i]?=some e.born:=by rw [←k2,w0f,hi];rfl
   have hns:e.born∉seen:=by simpa using hes'
   obtain ⟨q1,q2⟩:=hM.at_ i e _ hi' hee
   have hrun':(execOp a.eval o).run P Λ.w= .ok (.value (.tuple #[.bool true,e.key,e.val])) (setBlock w1 b' (.mapIter (some bm) clock (seen.toArray.push e.born) clock)):=by
    simp only [execOp,hop,hex];simp only [Sem.run_bind,hrun,Result.andThen_ok,Sem.run_pure]
   unfold Oper.wp;rw [hrun'];have hwr:=z71 (w:=Λ.w) (w1:=w1) (b:=b') (ob:= .mapIter (some bm) clock (seen.toArray.push e.born) clock) hw1;have hkp:=Kp.wrote hwr hb'
   have hat:(setBlock w1 b' (.mapIter (some bm) clock (seen.toArray.push e.born) clock)).heap[b']?=some (.mapIter (some bm) clock (seen++[e.born]).toArray clock):=by
    have hlt:b'<Λ.w.heap.size:=z24 e2
    rw [show (seen++[e.born]).toArray=seen.toArray.push e.born from by simp]
    rcases hw1 with rfl|rfl
    ·show (Λ.w.heap.setIfInBounds b' _)[b']?=_;simp [hlt]
    ·show (Λ.w.heap.setIfInBounds b' _)[b']?=_;simp [hlt]
   refine h1 i _ _ hee hbb hns _ _ hkp Z ?_ (.tup Z fun j u d h1 h2=>?_) (fun k h=>⟨h.obj,h.arr,h.fro,h.fob,h.far,h.frf⟩)
   ·refine hr.s.step hkp Z (fun j ob hj=>?_) hr.s.inj (fun c hc=>hr.s.new c (by rw [hwr.size] at hc;exact hc)) hr.s.bnd hr.s.frz (Ze.wrote hwr hb');simp only [S.app,Zr] at hj;rw [Zf] at hj;split at hj
    ·rename_i e;subst e;simp at hj;subst hj;exact .inr ⟨hkn,b',bm,hb',hat,e3,e4⟩
    ·rename_i hne;refine .inl ⟨hj,fun c hc=>?_,rfl⟩
     have:c≠b':=by rintro rfl;rw [hb'] at hc;simp at hc;exact hne hc
     exact hwr.old c this
   ·match j,h1,h2 with
    |0,h1,h2=>simp at h1 h2;subst h1;subst h2;exact .t (.bool _)
    |1,h1,h2=>simp at h1 h2;subst h1;subst h2;exact q1.z1Z.mono hkp
    |2,h1,h2=>simp at h1 h2;subst h1;subst h2;exact q2.mono hkp
theorem zev {ops:Array Oper} {d:Nat} {x:Ar} (h:z3P P ops o=some ⟨some d,none,.nw (.nxt x)⟩):o.guard=none/\o.dst=some d/\∃y,o.op= .next y false/\opA y=some x:=by
 unfold z3P at h;split at h
 ·cases h
 ·rename_i op hop;split at h
  ·rename_i hg;simp only [w00,AO.mk.injEq,true_and] at h;obtain ⟨h1,rfl⟩:=h;refine ⟨hg,h1,?_⟩
   rcases wP hop with h2|⟨nop,h2,h3⟩
   ·exfalso;unfold y4 at h2
    (repeat' split at h2)<;>simp [w01] at h2
    all_goals try (obtain ⟨_,_,_,_,h2⟩:=h2;split at h2<;>simp [w01] at h2;done)
   ·simp only [AOp.nw.injEq] at h2;subst h2;unfold z7c at h3
    (repeat' split at h3)<;>simp [w01] at h3
    exact ⟨_,by assumption,h3⟩
  ·split at h<;>simp at h
theorem Sat.nxt {n m:Nat} {Q:YJ->St->Prop} {d:Nat} {x:Ar} {rest:List AO} {after:List (List Nat)} {live:List Nat} {k q c:Nat} {seen bs:List Nat} {kag:Bool} {es:List (List T×V)} (hxv:x.u st= .ptr k 0)
  (hit:zl st.s.sto k=some (.iter q c seen c)) (hes:zl st.s.sto q=some (.map kag es (some (c,bs))))
  (h0:(∀s,s∈bs->s∈seen)->evR P st.s.nxt (st.app (some d) {v:= .tup [.t (.bool false)]}) rest [(true,true)] (fun b st' fl=>z4g false [] [] fl st'.env/\Q .normal (z1F live b st')))
  (h1:∀(i:Nat) (e:List T×V) (s:Nat),es[i]?=some e->bs[i]?=some s->s∉seen->
   evR P st.s.nxt (st.app (some d) {v:= .tup [.t (.bool true),z1Z kag e.1,e.2],ob:=[(k,.iter q c (seen++[s]) c)]}) rest [(true,true)] (fun b st' fl=>z4g false [] [] fl st'.env/\Q .normal (z1F live b st'))):
  Sat P n m (.region false (⟨some d,none,.nw (.nxt x)⟩::rest) after live) st Q:=by
 intro code g1 g2 g3 C Λ a g4 g5 g6 g7 g8;have:=ZS g1;simp only [zV.bare] at this;obtain ⟨id,os,rfl,hres,haft,_⟩:=this
 have hd:z9A C os:=by
  intro j p d hp hpd;simp only [codeOk,Array.all_eq_true'] at g2;have:=g2 p (Array.mem_of_getElem? hp);rw [hpd] at this;rw [g5];simpa using this
 obtain ⟨hlen,hat⟩:=Qb hres
 have h0lt:0<os.size:=by rw [←w1m,hlen];simp
 have ho:os[0]?=some os[0]:=by simp [h0lt]
 obtain ⟨q1,q2,y,q3,q4⟩:=zev (hat 0 os[0] _ (by simp) rfl);have hdn:d<C.n:=hd 0 _ d ho q2
 have hfree:∀k,st.s.nxt<=k->ya Λ k/\zl st.s.sto k=none:=by
  intro k hk;refine ⟨g7.s.free (by omega),?_⟩
  cases ha:zl st.s.sto k with
  |none=>rfl
  |some o=>have:=(g7.s.sto k o ha).1;omega
 refine wp_region ?_;rw [List.range_eq_range',←w1m,hlen,w0b,List.range'_succ,wpOps_cons]
 have hw:Region.wanted os[0] (yielded os a.tmps)=true:=by simp [Region.wanted,q1]
 simp only [wpOp,ho,hw,w0v];refine .inl ?_
 have fin:∀(st1:St) (Λ1:L) (a1:Act),Rel C Λ1 st1 a1->Λ1.nxt=Λ.nxt->(∀k,st.s.nxt<=k->ya Λ1 k/\zl st1.s.sto k=none)->
   evR P st.s.nxt st1 rest [(true,true)] (fun b st' fl=>z4g false [] [] fl st'.env/\Q .normal (z1F live b st'))->wpOps P os (z8p C Q) (List.range' (0+1) rest.length) a1 Λ1.w:=by
  intro st1 Λ1 a1 hr1 hn1 hf1 h;obtain ⟨outs,b',st',hch,hq⟩:=z18 h;have hle:=Ch.le hch;have hr':=hr1.up (m:=b') (by omega)
  exact z5M (Q:=z8p C Q) g4 hd hres b' rest 1 st.s.nxt st1 outs (Λ1.up b') a1 Z hch hr' Z (w07 _) (fun k k1 k2=>⟨⟨(hf1 k k1).1.obj,(hf1 k k1).1.arr,(hf1 k k1).1.fro,(hf1 k k1).1.fob,(hf1 k k1).1.far,(hf1 k k1).1.frf⟩,(hf1 k k1).2⟩)
   fun a' Λ' k1 k2=>⟨.normal,_,Λ',rfl,hq.2,k1.yq live b',k2,rfl⟩
 refine zeR q3 q4 hxv hit hes g7 (fun hs v hv=>?_) (fun i e s he hb hn v Λ' k1 k2 k3 k4 k5=>?_)
 ·have:=g7.step (Λ':=Λ) (Kp.refl _) (d:=some d) (fun z hz=>by simp at hz;subst hz;exact hdn) (v:=v) (o:={v:= .tup [.t (.bool false)]}) hv g7.s
  rw [q2];exact fin _ Λ _ this Z hfree (h0 hs)
 ·have:=g7.step k1 (d:=some d) (fun z hz=>by simp at hz;subst hz;exact hdn) (v:=v) (o:={v:= .tup [.t (.bool true),z1Z kag e.1,e.2],ob:=[(k,.iter q c (seen++[s]) c)]}) k4 k3
  rw [q2];refine fin _ Λ' _ this k2 (fun j hj=>?_) (h1 i e s he hb hn);obtain ⟨f1,f2⟩:=hfree j hj;refine ⟨k5 j f1,?_⟩;show zl (Yn st.s.sto k _) j=none;rw [Zf];split
  ·rename_i e;subst e;rw [hit] at f2;cases f2
  ·exact f2
theorem Run.nxt {n m:Nat} {R:St->Prop} {κ ν:Type} {ek:κ->List T} {ev:ν->T} {b d:Nat} {x:Ar} {rest:List AO} {after:List (List Nat)} {live:List Nat} {K K':List It} {k q c:Nat} {seen bs:List Nat} {kag:Bool} {l:List (κ×ν)}
  (hk:yf 200 K= .c (.region false (⟨some d,none,.nw (.nxt x)⟩::rest) after live)::K') (hb:YG st.s.nxt some=some b) (hxv:x.u st= .ptr k 0)
  (hit:zl st.s.sto k=some (.iter q c seen c)) (hes:zl st.s.sto q=some (.map kag (mE ek ev l) (some (c,bs))))
  (h0:(∀s,s∈bs->s∈seen)->Mid P n m R false [] [] live K' b [(true,true)] rest (st.app (some d) {v:= .tup [.t (.bool false)]}))
  (h1:∀(i:Nat) (e:κ×ν) (s:Nat),l[i]?=some e->bs[i]?=some s->s∉seen->
   Mid P n m R false [] [] live K' b [(true,true)] rest (st.app (some d) {v:= .tup [.t (.bool true),z1Z kag (ek e.1),.t (ev e.2)],ob:=[(k,.iter q c (seen++[s]) c)]})):Run P n m R K st:=by
 rw [w6] at hb;simp at hb;subst hb;refine Run.adv 200 hk ?_;unfold Run;simp only [ZY];unfold Mid at h0 h1;unfold Run at h0 h1;refine Sat.nxt hxv hit hes h0 (fun i e s he hbs hn=>?_);simp only [mE,w0f,w05] at he;obtain ⟨z,hz,rfl⟩:=he;exact h1 i z s hz hbs hn
end
end Go.GB
namespace Go.GB
section
variable {P:Program} {n m:Nat} {R:St->Prop} {draw:Bool} {all:List AO} {after:List (List Nat)} {live:List Nat} {k:List It} {b b':Nat} {fl:List (Bool×Bool)} {ops:List AO} {st st':St} {d:Option Nat}
variable {κ ν:Type} {ks:List KSh} {kag:Bool} {ek:κ->List T} {ev:ν->T} {l:List (κ×ν)} {sx:Option (Nat×List Nat)} {q:Nat} {x y:Ar}
theorem Mid.zea {c:Nat} {bs:List Nat} {es:List (List T×V)} (hx:x.u st= .mp q) (hq:zl st.s.sto q=some (.map kag es (some (c,bs))))
  (hst:Yo b st d {v:= .ptr b 0,ob:=[(b,.iter q c [] c)],n:=1,rd:=true} (fun b' st'=>some (b',st'))=some (b',st'))
  (h':Mid P n m R draw all after live k b' ((true,true)::fl) ops st'):Mid P n m R draw all after live k b fl (⟨d,none,.qT x⟩::ops) st:=by
 refine Mid.opX Z ?_;simp only [y3,w00,w04] at hst;obtain ⟨rfl,rfl⟩:=hst;simp only [evX,hx,hq];exact h'
theorem z6c {z:Nat} {e:κ×ν}:∀{l:List (κ×ν)} {bs:List Nat} {i:Nat},l[i]?=some e->bs[i]?=some z->bs.Nodup->z0d z (mE ek ev l) bs=some (ek e.1,.t (ev e.2))
 |[],_,i,h,_,_=>by simp at h
 |_::_,[],i,_,h,_=>by simp at h
 |w::r,s::bs,0,h1,h2,_=>by
  simp at h1 h2;subst h1;subst h2;simp [mE,z0d]
 |w::r,s::bs,i+1,h1,h2,hn=>by
  have hm:z∈bs:=zMG (by simpa using h2)
  have hne:¬ s=z:=by rintro rfl;exact (w1c.1 hn).1 hm
  have:=z6c (l:=r) (bs:=bs) (i:=i) (by simpa using h1) (by simpa using h2) (w1c.1 hn).2;simp only [mE,w0o,z0d,hne,w0r];exact this
theorem Mid.zg7 {kk s c i z:Nat} {seen bs:List Nat} {e:κ×ν} (hx:rd true st x=(.ptr kk 0,[])) (hit:zl st.s.sto kk=some (.iter q s seen c)) (hq:zl st.s.sto q=some (.map kag (mE ek ev l) (some (c,bs))))
  (hz:seen.getLast?=some z) (hl:l[i]?=some e) (hb:bs[i]?=some z) (hn:bs.Nodup) (hs:zQ st d (.tup [z1Z kag (ek e.1),.t (ev e.2)]) some=some st')
  (h':Mid P n m R draw all after live k b ((true,false)::fl) ops st'):Mid P n m R draw all after live k b fl (⟨d,none,.nw (.z6r x)⟩::ops) st:=by
 refine Mid.zdV (v:= .tup [z1Z kag (ek e.1),.t (ev e.2)]) (ps:=[true,true]) ?_ (QN hx) ⟨rfl,rfl,trivial⟩ hs h';simp only [zk,Zu,hx,hit,hq,hz,z6c (i:=i) (z:=z) hl hb hn];simp [hn]
theorem zgo {α:Type} {f:α->List T} {l:List α} {sz s:Nat} {want gc:Bool} {x hi:Ar} {v:V} {kd:IntKind} {j:Nat} {p1 p2:List Bool} (hg:ZZ want (look st.env s)=some gc) (hx:rd gc st x=(v,p1)) (hv:v.zF=some (.lst (l.map f))) (hh:rd gc st hi=(.t (.int kd j),p2)) (hs:zQ st d (.gd gc (.t (.lst ((l.take j).map f)))) some=some st')
  (h':Mid P n m R draw all after live k b ((false,false)::fl) ops st') (hj:j<=l.length:=by omega) (hsz:∀x,(f x).length=sz:=by intros;rfl) (hp1:Z9 (p1.map fun p=>!gc||p):=by (repeat' (first |exact trivial|exact w0j _|exact yY _|exact yX _|exact grd3 _ _|exact yZ _ _|refine And.intro ?_ ?_|exact rfl|(simp;done)|(simp<;>omega)));done) (hp2:Z9 (p2.map fun p=>!gc||p):=by (repeat' (first |exact trivial|exact w0j _|exact yY _|exact yX _|exact grd3 _ _|exact yZ _ _|refine And.intro ?_ ?_|exact rfl|(simp;done)|(simp<;>omega)));done):Mid P n m R draw all after live k b fl (⟨d,some (s,want),.sll sz x none (some hi)⟩::ops) st:=
 Mid.zaS (v:= .t (.lst ((l.take j).map f))) (ps:=p1++([]++(p2++[true,true,true,true]))) hg (by simp only [zk,hx,hv,bnd,hh];simp [hj,y6,hsz]) (Yu hx hv) (by simp only [List.map_append,wU];exact ⟨hp1,trivial,hp2,by simp [Z9]⟩) hs h'
theorem lF1 {α:Type} {f:α->List T} {l:List α} {sz:Nat} {x lo:Ar} {v:V} {kd:IntKind} (hx:rd true st x=(v,[])) (hv:v.zF=some (.lst (l.map f))) (hh:rd true st lo=(.t (.int kd 1),[])) (hs:zQ st d (.t (.lst ((l.drop 1).map f))) some=some st')
  (h':Mid P n m R draw all after live k b ((false,false)::fl) ops st') (hj:1<=l.length:=by first |omega|(simp;done)|(simp<;>omega)) (hsz:∀x,(f x).length=sz:=by intros;rfl):Mid P n m R draw all after live k b fl (⟨d,none,.sll sz x (some lo) none⟩::ops) st:=
 Mid.zei (j:=1) hx hv hh hj hsz hs h'
section
variable [DecidableEq κ]
def YP (k:κ):List (κ×ν)->List (κ×ν)
 |[]=>[]
 |e::r=>if k=e.1 then r else e::YP k r
theorem z6K (he:Yb ks ek) (k:κ):∀(l:List (κ×ν)),QG (ek k) (mE ek ev l)=mE ek ev (YP k l)
 |[]=>rfl
 |e::r=>by
  have:=z6K he k r;simp only [mE] at this;simp only [mE,w0o,QG,he.iff,YP,w0n,this]
  split<;>rfl
theorem Mid.zgm (k':κ) (hx:x.u st= .mp q) (hq:zl st.s.sto q=some (.map kag (mE ek ev l) sx)) (hc:qx ks kag (y.u st)=some (ek k')) (he:Yb ks ek)
  (hst:Yo b st d {v:= .top,ob:=[(q,.map kag (mE ek ev (YP k' l)) (z4e (l.findIdx? (fun e=>decide (k'=e.1))) sx))],rd:=true} (fun b' st'=>some (b',st'))=some (b',st'))
  (h':Mid P n m R draw all after live k b' ((true,true)::fl) ops st'):Mid P n m R draw all after live k b fl (⟨d,none,.nw (.zaL ks kag x y)⟩::ops) st:=by
 refine Mid.opX Z ?_;simp only [y3,w00,w04] at hst;obtain ⟨rfl,rfl⟩:=hst;simp only [evX,yg,hx,hc,hq,z6K he,z3k he];exact ⟨⟨trivial,wJ he l⟩,h'⟩
theorem Mid.zh8 {i c:Nat} {bs:List Nat} {e:κ×ν} (hx:x.u st= .mp q) (hq:zl st.s.sto q=some (.map kag (mE ek ev l) (some (c,bs)))) (hl:l[i]?=some e) (hn:(l.map (·.1)).Nodup) (hc:qx ks kag (y.u st)=some (ek e.1)) (he:Yb ks ek)
  (hst:Yo b st d {v:= .top,ob:=[(q,.map kag (mE ek ev (l.eraseIdx i)) (some (c,bs.eraseIdx i)))],rd:=true} (fun b' st'=>some (b',st'))=some (b',st'))
  (h':Mid P n m R draw all after live k b' ((true,true)::fl) ops st'):Mid P n m R draw all after live k b fl (⟨d,none,.nw (.zaL ks kag x y)⟩::ops) st:=by
 have key:∀(l:List (κ×ν)) (i:Nat),l[i]?=some e->(l.map (·.1)).Nodup->YP e.1 l=l.eraseIdx i/\l.findIdx? (fun w=>decide (e.1=w.1))=some i:=by
  intro l
  induction l with
  |nil=>intro i h _;simp at h
  |cons w r ih=>
   intro i h hn;simp only [w0o,w1c] at hn
   cases i with
   |zero=>simp at h;subst h;simp [YP,w27]
   |succ i=>
    have h':r[i]?=some e:=by simpa using h
    have hne:¬ e.1=w.1:=by
     intro heq;exact hn.1 (w1a.2 ⟨e,zMG h',heq⟩)
    obtain ⟨h1,h2⟩:=ih i h' hn.2;simp [YP,hne,h1,w27,h2]
 obtain ⟨h1,h2⟩:=key l i hl hn;refine Mid.zgm e.1 hx hq hc he ?_ h';rw [h1,h2];exact hst
theorem QU {k k':κ}:∀{l:List (κ×ν)},(l.map (·.1)).Nodup->Z1 k' (YP k l)=if k'=k then none else Z1 k' l
 |[],_=>by simp [YP,Z1]
 |e::r,hn=>by
  simp only [w0o,w1c] at hn;have ih:=QU (k:=k) (k':=k') hn.2
  have hnone:Z1 e.1 r=none:=by
   have:∀(r:List (κ×ν)),e.1∉r.map (·.1)->Z1 e.1 r=none:=by
    intro r
    induction r with
    |nil=>intro _;rfl
    |cons w r ih2=>
     intro h;simp only [w0o,w17,not_or] at h;simp only [Z1];rw [w0d h.1];exact ih2 h.2
   exact this r hn.1
  simp only [YP];by_cases h:k=e.1
  ·subst h;simp only [w0v,Z1];by_cases h2:k'=e.1
   ·subst h2;simp [hnone]
   ·simp [h2]
  ·simp only [h,w0r,Z1,ih];by_cases h2:k'=e.1
   ·subst h2;have:¬ e.1=k:=fun h'=>h h'.symm;simp [this]
   ·simp [h2]
theorem z46 {k:κ} {v:ν}:∀{l:List (κ×ν)},(l.map (·.1)).Nodup->((yn k v l).map (·.1)).Nodup/\∀y,y∈(yn k v l).map (·.1)↔y=k∨y∈l.map (·.1)
 |[],_=>by simp [yn]
 |e::r,hn=>by
  simp only [w0o,w1c] at hn;obtain ⟨h1,h2⟩:=z46 (k:=k) (v:=v) hn.2;simp only [yn];split
  ·rename_i h;subst h;simp only [w0o,w1c]
   exact ⟨hn,fun y=>by simp⟩
  ·rename_i h;simp only [w0o,w1c];refine ⟨⟨fun hm=>?_,h1⟩,fun y=>?_⟩
   ·rcases (h2 _).1 hm with h'|h'
    ·exact h h'.symm
    ·exact hn.1 h'
   ·simp only [w17,h2];constructor
    ·rintro (h|h|h)
     ·exact .inr (.inl h)
     ·exact .inl h
     ·exact .inr (.inr h)
    ·rintro (h|h|h)
     ·exact .inr (.inl h)
     ·exact .inl h
     ·exact .inr (.inr h)
end
end
end Go.GB
namespace Go.GB.C11
open Go.GB
structure Pr (P:Program):Prop where
 mixed:P.follows .mixedOrders=true
 i34:z9 P 34=some (n34,c34.bare,r34)
 i50:z9 P 50=some (n50,c50.bare,r50)
 i143:z9 P 143=some (n143,c143.bare,r143)
 i114:z9 P 114=some (n114,c114.bare,r114)
 i136:z9 P 136=some (n136,c136.bare,r136)
 i63:z9 P 63=some (n63,c63.bare,r63)
 i37:z9 P 37=some (n37,c37.bare,r37)
 i101:z9 P 101=some (n101,c101.bare,r101)
 i85:z9 P 85=some (n85,c85.bare,r85)
 i116:z9 P 116=some (n116,c116.bare,r116)
 i60:z9 P 60=some (n60,c60.bare,r60)
 i61:z9 P 61=some (n61,c61.bare,r61)
 i73:z9 P 73=some (n73,c73.bare,r73)
 i74:z9 P 74=some (n74,c74.bare,r74)
 i75:z9 P 75=some (n75,c75.bare,r75)
 i86:z9 P 86=some (n86,c86.bare,r86)
 i129:z9 P 129=some (n129,c129.bare,r129)
 i126:z9 P 126=some (n126,c126.bare,r126)
 i142:z9 P 142=some (n142,c142.bare,r142)
 i91:z9 P 91=some (n91,c91.bare,r91)
 i92:z9 P 92=some (n92,c92.bare,r92)
 i93:z9 P 93=some (n93,c93.bare,r93)
 i94:z9 P 94=some (n94,c94.bare,r94)
 i109:z9 P 109=some (n109,c109.bare,r109)
 i110:z9 P 110=some (n110,c110.bare,r110)
 i111:z9 P 111=some (n111,c111.bare,r111)
 i41:z9 P 41=some (n41,c41.bare,r41)
 i139:z9 P 139=some (n139,c139.bare,r139)
 i98:z9 P 98=some (n98,c98.bare,r98)
 i54:z9 P 54=some (n54,c54.bare,r54)
 i117:z9 P 117=some (n117,c117.bare,r117)
 i118:z9 P 118=some (n118,c118.bare,r118)
 i119:z9 P 119=some (n119,c119.bare,r119)
 i120:z9 P 120=some (n120,c120.bare,r120)
 i121:z9 P 121=some (n121,c121.bare,r121)
 i122:z9 P 122=some (n122,c122.bare,r122)
 i133:z9 P 133=some (n133,c133.bare,r133)
 i134:z9 P 134=some (n134,c134.bare,r134)
 i135:z9 P 135=some (n135,c135.bare,r135)
 i103:z9 P 103=some (n103,c103.bare,r103)
 i99:z9 P 99=some (n99,c99.bare,r99)
 i141:z9 P 141=some (n141,c141.bare,r141)
variable {P:Program}
def zi (n:Str):List Def->Option Def
 |[]=>none
 |d::r=>if (d.name==n)=true then some d else zi n r
theorem ZN {n:Str}:∀{l:List Def} {d:Def},zi n l=some d->d∈l
 |[],d,h=>by simp [zi] at h
 |x::r,d,h=>by
  simp only [zi] at h;split at h
  ·cases h;exact w0l ..
  ·exact w08 _ (ZN h)
def Z5 (n:Str):List Field->Option Field
 |[]=>none
 |d::r=>if (d.name==n)=true then some d else Z5 n r
theorem w8 {n:Str}:∀{l:List Field} {d:Field},Z5 n l=some d->d∈l
 |[],d,h=>by simp [Z5] at h
 |x::r,d,h=>by
  simp only [Z5] at h;split at h
  ·cases h;exact w0l ..
  ·exact w08 _ (w8 h)
theorem z8S (H:Pr P) (ds:List Def) (hl:ds.length<=140737488355328) (n:Str):z6 P 60 [yT ds,.t (.str n)] ⟨[],0⟩ {v:= .tup [((zi n ds).getD Def.zero).v,.t (.bool (zi n ds).isSome)]}:=by
 refine z6.run H.i60 H.mixed Z Z ?_;refine fR Z ?_;refine lM Z Z Z ?_;refine fM Z ?_;refine zu ds (fun i (_:Unit)=>{env:=[(1,.t (.str n)),(4,.ptr 1 0),(9,.t (.lst (ds.map Def.enc))),(10,.t (.int .i64 ds.length)),(11,.t (.int .i64 i))],s:=⟨[(1,.cells [.t (.int .i64 0),.t (.str []),.zJ,.zJ,.zJ,.zJ,.zJ])],2⟩}) (fun r i _=>zi n ds=zi n r) 2 () Z Z Z Z Z ?_ ?_
 ·intro _ hinv;refine fR Z ?_;refine Run.zf Z Z (by simp) ?_;refine fR Z ?_
  have e:zi n ds=none:=by rw [hinv];rfl
  rw [e];refine Run.fin Z (z4.go ?_);exact .wx (.agg (.cons (.t Z) (.cons (.t Z) (.cons (.nil Z) (.cons (.nil Z) (.cons (.nil Z) (.cons (.nil Z) (.cons (.nil Z) .nil)))))))) (.t Z)
 ·intro i x r _ h1 hi hd hinv ih;refine fR Z ?_;refine Run.zj Z Z (by simp;omega) ?_;refine fR Z ?_;refine Mid.za Z Z Z h1 Z Z ?_;refine fM Z ?_;refine Run.cond Z Z (fun h=>?_) (fun h=>?_)
  ·refine fR Z ?_
   have e:zi n ds=some x:=by rw [hinv];simp only [zi];rw [w0c h]
   rw [e];refine Run.fin Z (z4.go ?_);exact .wx (.le (.same Z)) (.t Z)
  ·refine fR Z ?_;refine aL Z Z Z Z Z ?_;refine fM Z ?_
   have h':¬ (x.name==n)=true:=by rw [h];simp
   exact zh 2 Z (ih () (by rw [hinv];simp only [zi];rw [w0d h'])) Z Z Z
theorem yh (H:Pr P) (ds:List Def) (hl:ds.length<=140737488355328) (n:Str):z6 P 37 [yT ds,.t (.str n)] ⟨[],0⟩ {v:= .tup [((zi n ds).getD Def.zero).v,.t (.bool (zi n ds).isSome)]}:=by
 refine z6.run H.i37 H.mixed Z Z ?_;refine fR Z ?_;refine zu ds (fun i (_:Unit)=>{env:=[(1,.t (.str n)),(2,.ptr 0 0),(4,.ptr 1 0),(6,.t (.int .i64 i))],s:=⟨[(0,.cells [.t (.lst (ds.map Def.enc))]),(1,.cells [.t (.int .i64 0),.t (.str []),.zJ,.zJ,.zJ,.zJ,.zJ])],2⟩}) (fun r i _=>zi n (ds)=zi n r) 2 () Z Z Z Z Z ?_ ?_
 ·intro _ hinv;refine fR Z ?_;refine lM Z Z Z ?_;refine fM Z ?_;refine Run.zf Z Z (by simp) ?_;refine fR Z ?_
  have e:zi n (ds)=none:=by rw [hinv];rfl
  rw [e];refine Run.fin Z (z4.go ?_);exact .wx (.agg (.cons (.t Z) (.cons (.t Z) (.cons (.nil Z) (.cons (.nil Z) (.cons (.nil Z) (.cons (.nil Z) (.cons (.nil Z) .nil)))))))) (.t Z)
 ·intro i x r _ h1 hi hd hinv ih;refine fR Z ?_;refine lM Z Z Z ?_;refine fM Z ?_;refine Run.zj Z Z (by simp;omega) ?_;refine fR Z ?_;refine Mid.za Z Z Z h1 Z Z ?_;refine fM Z ?_;refine Run.cond Z Z (fun h=>?_) (fun h=>?_)
  ·refine fR Z ?_;refine Mid.za Z Z Z h1 Z Z ?_;refine fM Z ?_
   have e:zi n (ds)=some x:=by rw [hinv];simp only [zi];rw [w0c h]
   rw [e];refine Run.fin Z (z4.go ?_);exact .wx (.le (.same Z)) (.t Z)
  ·refine fR Z ?_;refine aL Z Z Z Z Z ?_;refine fM Z ?_
   have h':¬ (x.name==n)=true:=by rw [h];simp
   exact zh 2 Z (ih () (by rw [hinv];simp only [zi];rw [w0d h'])) Z Z Z
theorem Q3 (H:Pr P) (d:Def) (hl:d.fields.length<=140737488355328) (n:Str):z6 P 101 [d.v,.t (.str n)] ⟨[],0⟩ {v:= .tup [((Z5 n d.fields).getD Field.zero).v,.t (.bool (Z5 n d.fields).isSome)]}:=by
 refine z6.run H.i101 H.mixed Z Z ?_;refine fR Z ?_;refine zu d.fields (fun i (_:Unit)=>{env:=[(1,.t (.str n)),(2,.ptr 0 0),(4,.ptr 1 0),(6,.t (.int .i64 i))],s:=⟨[(0,(TCo d)),(1,.cells [.t (.str []),.zJ,.t (.str []),.zJ,.zJ])],2⟩}) (fun r i _=>Z5 n (d.fields)=Z5 n r) 2 () Z Z Z Z Z ?_ ?_
 ·intro _ hinv;refine fR Z ?_;refine lM Z Z Z ?_;refine fM Z ?_;refine Run.zf Z Z (by simp) ?_;refine fR Z ?_
  have e:Z5 n (d.fields)=none:=by rw [hinv];rfl
  rw [e];refine Run.fin Z (z4.go ?_);exact .wx (.agg (.cons (.t Z) (.cons (.nil Z) (.cons (.t Z) (.cons (.nil Z) (.cons (.nil Z) .nil)))))) (.t Z)
 ·intro i x r _ h1 hi hd hinv ih;refine fR Z ?_;refine lM Z Z Z ?_;refine fM Z ?_;refine Run.zj Z Z (by simp;omega) ?_;refine fR Z ?_;refine Mid.za Z Z Z h1 Z Z ?_;refine fM Z ?_;refine Run.cond Z Z (fun h=>?_) (fun h=>?_)
  ·refine fR Z ?_;refine Mid.za Z Z Z h1 Z Z ?_;refine fM Z ?_
   have e:Z5 n (d.fields)=some x:=by rw [hinv];simp only [Z5];rw [w0c h]
   rw [e];refine Run.fin Z (z4.go ?_);exact .wx (.le (.same Z)) (.t Z)
  ·refine fR Z ?_;refine aL Z Z Z Z Z ?_;refine fM Z ?_
   have h':¬ (x.name==n)=true:=by rw [h];simp
   exact zh 2 Z (ih () (by rw [hinv];simp only [Z5];rw [w0d h'])) Z Z Z
def Zi (s:Str):List Str->Int->Int
 |[],_=>-1
 |x::r,i=>if (s==x)=true then i else Zi s r (i+1)
theorem z2m (H:Pr P) (l:List Str) (hl:l.length<=140737488355328) (s:Str):z6 P 109 [.t (.lst (l.map sE)),.t (.str s)] ⟨[],0⟩ {v:= .t (.int .i64 (Zi s l 0))}:=by
 refine z6.run H.i109 H.mixed Z Z ?_;refine fR Z ?_;refine lM Z Z Z ?_;refine fM Z ?_;refine zu l (fun i (_:Unit)=>{env:=[(0,.t (.lst (l.map sE))),(1,.t (.str s)),(7,.t (.int .i64 l.length)),(8,.t (.int .i64 i))],s:=⟨[],0⟩}) (fun r i _=>Zi s l 0=Zi s r i) 0 () Z Z Z Z Z ?_ ?_
 ·intro _ hinv;refine fR Z ?_;refine Run.zf Z Z (by simp) ?_;refine fR Z ?_;refine Run.fin Z (z4.go ?_);exact .t (by rw [hinv];simp [Zi])
 ·intro i x r _ h1 hi hd hinv ih;refine fR Z ?_;refine Run.zj Z Z (by simp;omega) ?_;refine fR Z ?_;refine Mid.za Z Z Z h1 Z Z ?_;refine fM Z ?_;refine Run.cond Z Z (fun h=>?_) (fun h=>?_)
  ·refine fR Z ?_;refine Run.fin Z (z4.go ?_);exact .t (by rw [hinv];simp only [Zi];rw [w0c h])
  ·refine fR Z ?_;refine aL Z Z Z Z Z ?_;refine fM Z ?_
   have h':¬ (s==x)=true:=by rw [h];simp
   exact zh 0 Z (ih () (by rw [hinv];simp only [Zi];rw [w0d h'];rfl)) Z Z Z
theorem WB (s:Str):∀(l:List Str) (i:Int),0<=i->(decide (Zi s l i≥0))=decide (s∈l)
 |[],i,_=>by simp [Zi]
 |x::r,i,hi=>by
  by_cases h:s=x
  ·subst h;simp [Zi,hi]
  ·have h':¬ (s==x)=true:=by simpa using h
   have e:Zi s (x::r) i=Zi s r (i+1):=by simp only [Zi];rw [w0d h']
   rw [e,WB s r (i+1) (by omega)];simp [h]
theorem qN (H:Pr P) (l:List Str) (hl:l.length<=140737488355328) (s:Str):z6 P 85 [.t (.lst (l.map sE)),.t (.str s)] ⟨[],0⟩ {v:= .t (.bool (decide (s∈l)))}:=by
 refine z6.run H.i85 H.mixed Z Z ?_;refine fR Z ?_;refine Mid.call (z2m H l hl s) Z Z Z Z ?_;refine fM Z ?_;refine Run.fin Z (z4.go ?_);exact .t (by rw [←WB s l 0 (by omega)])
end Go.GB.C11
namespace Go.GB.C11
open Go.GB
variable {P:Program}
theorem z7l (a b:Int):(a !=b)=!(a==b):=rfl
theorem z5g (H:Pr P) (l:List Str) (hl:l.length<=140737488355328) (s:Str):z6 P 74 [.t (.lst (l.map sE)),.t (.str s)] ⟨[],0⟩ {v:= .t (.bool (decide (s∈l)))}:=by
 refine z6.run H.i74 H.mixed Z Z ?_;refine fR Z ?_;refine zu l (fun i (_:Unit)=>{env:=[(0,.t (.lst (l.map sE))),(1,.t (.str s)),(5,.t (.int .i64 i))],s:=⟨[],0⟩}) (fun r i _=>decide (s∈l)=decide (s∈r)) 0 () Z Z Z Z Z ?_ ?_
 ·intro _ hinv;refine fR Z ?_;refine lM Z Z Z ?_;refine fM Z ?_;refine Run.zf Z Z (by simp) ?_;refine fR Z ?_;refine Run.fin Z (z4.go ?_);exact .t (by rw [hinv];simp)
 ·intro i x r _ h1 hi hd hinv ih;refine fR Z ?_;refine lM Z Z Z ?_;refine fM Z ?_;refine Run.zj Z Z (by simp;omega) ?_;refine fR Z ?_;refine Mid.za Z Z Z h1 Z Z ?_;refine fM Z ?_;refine Run.cond Z Z (fun h=>?_) (fun h=>?_)
  ·have h':x=s:=by simpa using h
   refine fR Z ?_;refine Run.fin Z (z4.go ?_);exact .t (by rw [hinv];simp [h'])
  ·have h':¬ x=s:=by simpa using h
   have h2:¬ s=x:=fun e=>h' e.symm;refine fR Z ?_;refine aL Z Z Z Z Z ?_;refine fM Z ?_;exact zh 0 Z (ih () (by rw [hinv];simp [h2])) Z Z Z
def W4 (l:List ZA) (n:Str):Bool:=l.any fun m=>m.name==n
theorem z4P (H:Pr P) (t:Def) (hl:t.members.length<=140737488355328) (n:Str):z6 P 75 [t.v,.t (.str n)] ⟨[],0⟩ {v:= .t (.bool (W4 t.members n))}:=by
 refine z6.run H.i75 H.mixed Z Z ?_;refine fR Z ?_;refine zu t.members (fun i (_:Unit)=>{env:=[(1,.t (.str n)),(2,.ptr 0 0),(5,.t (.int .i64 i))],s:=⟨[(0,(TCo t))],1⟩}) (fun r i _=>W4 t.members n=W4 r n) 1 () Z Z Z Z Z ?_ ?_
 ·intro _ hinv;refine fR Z ?_;refine lM Z Z Z ?_;refine fM Z ?_;refine Run.zf Z Z (by simp) ?_;refine fR Z ?_;refine Run.fin Z (z4.go ?_);exact .t (by rw [hinv];rfl)
 ·intro i x r _ h1 hi hd hinv ih;refine fR Z ?_;refine lM Z Z Z ?_;refine fM Z ?_;refine Run.zj Z Z (by simp;omega) ?_;refine fR Z ?_;refine Mid.za Z Z Z h1 Z Z ?_;refine fM Z ?_;refine Run.cond Z Z (fun h=>?_) (fun h=>?_)
  ·refine fR Z ?_;refine Run.fin Z (z4.go ?_);exact .t (by rw [hinv];simp only [W4,w14,h,w2i])
  ·refine fR Z ?_;refine aL Z Z Z Z Z ?_;refine fM Z ?_;exact zh 1 Z (ih () (by rw [hinv];simp only [W4,w14,h,w1x])) Z Z Z
theorem QJ (H:Pr P) (t:Def) (ht:t.Ok) (n:Str):z6 P 61 [t.v,.t (.str n)] ⟨[],0⟩ {v:= .t (.bool (decide (n∈t.implements)))}:=by
 refine z6.run H.i61 H.mixed Z Z ?_;refine fR Z ?_;refine Mid.call (qN H t.implements ht.il n) Z Z Z Z ?_;refine fM Z ?_;refine Run.fin Z (z4.go ?_);exact .t Z
def Zz (pre:List Def) (n:Str):Bool:=!(pre.any fun x=>x.name==n)
theorem zcF (H:Pr P) (ds:List Def) (hl:ds.length<=140737488355328) (i:Nat) (x:Def) (h:ds[i]?=some x):z6 P 73 [yT ds,.t (.int .i64 i)] ⟨[],0⟩ {v:= .t (.bool (Zz (ds.take i) x.name))}:=by
 have hi:i<ds.length:=(w02.1 h).1
 have hlt:(ds.take i).length=i:=by simp;omega
 refine z6.run H.i73 H.mixed Z Z ?_;refine fR Z ?_;refine zu (ds.take i) (fun j (_:Unit)=>{env:=[(1,.t (.int .i64 i)),(2,.ptr 0 0),(5,.t (.int .i64 j))],s:=⟨[(0,.cells [.t (.lst (ds.map Def.enc))])],1⟩}) (fun r j _=>Zz (ds.take i) x.name=Zz r x.name) 1 () Z Z Z Z Z ?_ ?_
 ·intro _ hinv;refine fR Z ?_;refine Run.zf Z Z (by rw [hlt];simp) ?_;refine fR Z ?_;refine Run.fin Z (z4.go ?_);exact .t (by rw [hinv];rfl)
 ·intro j y r _ h2 hj hd hinv ih
  have h2':ds[j]?=some y:=by rw [w0p] at h2;split at h2;exact h2;cases h2
  have hj':j<i:=by omega
  refine fR Z ?_;refine Run.zj Z Z (by simp;omega) ?_;refine fR Z ?_;refine Mid.za Z Z Z h2' Z Z ?_;refine fM Z ?_;refine Mid.za Z Z Z h Z Z ?_;refine fM Z ?_;refine Run.cond Z Z (fun he=>?_) (fun he=>?_)
  ·refine fR Z ?_;refine Run.fin Z (z4.go ?_);exact .t (by rw [hinv];simp only [Zz,w14,he,w2i,Bool.not_true])
  ·refine fR Z ?_;refine aL Z Z Z Z Z ?_;refine fM Z ?_;exact zh 1 Z (ih () (by rw [hinv];simp only [Zz,w14,he,w1x])) Z Z Z
def isP (t:Def) (nm:Str) (o:Def):Bool:=(t.kind==1&&o.name==nm)||(t.kind==2&&decide (nm∈o.implements))||(t.kind==3&&W4 t.members o.name)
def YU (t:Def) (nm:Str):List Def->List Def->List Str
 |_,[]=>[]
 |pre,o::r=>if (o.kind==1&&Zz pre o.name&&isP t nm o)=true then o.name::YU t nm (pre++[o]) r else YU t nm (pre++[o]) r
def Y3 (ds:List Def) (nm:Str):List Str:=
 match zi nm ds with
 |none=>[]
 |some t=>YU t nm [] ds
theorem z0P {ds:List Def} (hD:Z6 ds) (n:Str):((zi n ds).getD Def.zero).Ok:=by
 cases h:zi n ds with
 |none=>exact Def.ZF
 |some t=>exact hD.d t (ZN h)
theorem qg (H:Pr P) (ds:List Def) (hD:Z6 ds) (nm:Str):z6 P 50 [yT ds,.t (.str nm)] ⟨[],0⟩ {v:= .t (.lst ((Y3 ds nm).map sE))}:=by
 have hl:=hD.l;have hlb:=hD.lb;have hT:=z0P hD nm
 have hpos:Y3 ds nm=if (zi nm ds).isSome=true then YU ((zi nm ds).getD Def.zero) nm [] ds else []:=by
  unfold Y3;cases zi nm ds<;>rfl
 refine z6.run H.i50 H.mixed Z Z ?_;refine fR Z ?_;refine Mid.call (yh H ds hl nm) Z Z Z Z ?_;refine fM Z ?_;generalize (zi nm ds).isSome=b at hpos;generalize (zi nm ds).getD Def.zero=t at hpos hT
 refine zu ds (fun i (B:List Str)=>{env:=[(1,.t (.str nm)),(2,.ptr 0 0),(5,.own 2 1 (B.map sE)),(6,.ptr 1 0),(7,.t (.bool b)),(8,.t (.int .i64 i))],s:=⟨[(0,.cells [.t (.lst (ds.map Def.enc))]),(1,(TCo t)),(2,.arr B.length)],3⟩}) (fun r i B=>B.length<=i/\(b=false->B=[])/\Y3 ds nm=if b=true then B++YU t nm (ds.take i) r else []) 2 [] Z ⟨by simp,fun _=>rfl,by rw [hpos];simp⟩ rfl rfl rfl ?_ ?_
 ·rintro B ⟨_,hB0,hB⟩
  cases b with
  |true=>
   obtain rfl:B=Y3 ds nm:=by rw [hB];simp [YU]
   refine fR Z ?_;refine lM Z Z Z ?_;refine fM Z ?_;refine Run.zf Z Z (by simp) ?_;refine fR Z ?_;refine Run.fin Z (z4.go ?_);exact .own Z
  |false=>
   obtain rfl:B=[]:=hB0 rfl
   have hB':Y3 ds nm=[]:=by simpa using hB
   refine fR Z ?_;refine lM Z Z Z ?_;refine fM Z ?_;refine Run.zf Z Z (by simp) ?_;refine fR Z ?_;rw [hB'];refine Run.fin Z (z4.go ?_);exact .own Z
 ·rintro i x r B h1 hi hd ⟨hBl,hB0,hB⟩ ih;have hBl':B.length<=i:=hBl
  have htk:ds.take i++[x]=ds.take (i+1):=by rw [w11,h1];rfl
  have hx:=hD.d x (zMG h1)
  cases b with
  |true=>
   have hB':Y3 ds nm=B++YU t nm (ds.take i) (x::r):=by simpa using hB
   refine fR Z ?_;refine lM Z Z Z ?_;refine fM Z ?_;refine Run.zj Z Z (by simp;omega) ?_;refine fR Z ?_;refine Mid.za Z Z Z h1 Z Z ?_;refine fM Z ?_;refine caG Z Z (fun hg=>⟨_,rfl,zcF H ds hl i x h1,rfl⟩) Z Z ?_;refine fM Z ?_;refine Run.cond Z Z (fun hc=>?_) (fun hc=>?_)
   ·have hn:(x.kind==1&&Zz (ds.take i) x.name&&isP t nm x)=false:=by
     have:(x.kind==1&&Zz (ds.take i) x.name)=false:=by rw [z7l] at hc;revert hc;cases (x.kind==1)<;>cases (Zz (ds.take i) x.name)<;>simp
     rw [this];rfl
    refine fR Z ?_;refine aL Z Z Z Z Z ?_;refine fM Z ?_;exact zh 3 Z (ih B ⟨by omega,by simp,by rw [hB'];simp only [YU,hn];rw [htk];rfl⟩) rfl rfl rfl
   ·have hn:(x.kind==1&&Zz (ds.take i) x.name)=true:=by rw [z7l] at hc;revert hc;cases (x.kind==1)<;>cases (Zz (ds.take i) x.name)<;>simp
    refine fR Z ?_;refine caG Z Z (fun hg=>⟨_,rfl,z5g H x.implements hx.il nm,rfl⟩) Z Z ?_;refine fM Z ?_;refine caG Z Z (fun hg=>⟨_,rfl,z4P H t hT.ml x.name,rfl⟩) Z Z ?_;refine fM Z ?_;refine Run.cond Z Z (fun hp=>?_) (fun hp=>?_)
    ·have hp':isP t nm x=true:=by simpa [isP] using hp
     refine fR Z ?_;refine apM sE B [x.name] Z Z Z Z Z ?_;refine fM Z ?_;refine aL Z Z Z Z Z ?_;refine fM Z ?_;exact zh 3 Z (ih (B++[x.name]) ⟨by simp;omega,by simp,by rw [hB'];simp only [YU,hn,hp'];rw [htk];simp⟩) rfl rfl rfl
    ·have hp':isP t nm x=false:=by simpa [isP] using hp
     refine fR Z ?_;refine aL Z Z Z Z Z ?_;refine fM Z ?_;exact zh 3 Z (ih B ⟨by omega,by simp,by rw [hB'];simp only [YU,hn,hp'];rw [htk];simp⟩) rfl rfl rfl
  |false=>
   obtain rfl:B=[]:=hB0 rfl
   have hB':Y3 ds nm=[]:=by simpa using hB
   refine fR Z ?_;refine lM Z Z Z ?_;refine fM Z ?_;refine Run.zf Z Z (by simp) ?_;refine fR Z ?_;rw [hB'];refine Run.fin Z (z4.go ?_);exact .own Z
end Go.GB.C11
namespace Go.GB.C11
open Go.GB
variable {P:Program}
def bE (b:Bool):T:= .bool b
def yj (M:List (Str×Bool)) (k:Str):Bool:=(Z1 k M).isSome
theorem z1k (M:List (Str×Bool)) (x:Str) (k:Str):yj (yn x true M) k=(x==k||yj M k):=by
 unfold yj;rw [WI];by_cases h:k=x
 ·subst h;simp
 ·have h':¬ x=k:=fun e=>h e.symm;simp [h,h']
structure MOk (M:List (Str×Bool)):Prop where
 nd:(M.map (·.1)).Nodup
 tr:∀e,e∈M->e.2=true
theorem MOk.nil:MOk []:=⟨by simp,by simp⟩
theorem zd4 {M:List (Str×Bool)} {x:Str} {v:Bool}:∀{e:Str×Bool},e∈yn x v M->e=(x,v)∨e∈M:=by
 induction M with
 |nil=>intro e h;simp [yn] at h;exact .inl h
 |cons a r ih=>
  intro e h;simp only [yn] at h;split at h
  ·rcases w17.1 h with h|h
   ·exact .inl h
   ·exact .inr (w08 _ h)
  ·rcases w17.1 h with h|h
   ·exact .inr (h▸w0l ..)
   ·rcases ih h with h|h
    ·exact .inl h
    ·exact .inr (w08 _ h)
theorem MOk.yn {M:List (Str×Bool)} (h:MOk M) (x:Str):MOk (yn x true M):=
 ⟨(z46 h.nd).1,fun e he=>by rcases zd4 he with rfl|he;rfl;exact h.tr e he⟩
theorem zb6 {M:List (Str×Bool)} {k:Str} (h:yj M k=true):∃e,e∈M/\e.1=k:=by
 unfold yj at h
 induction M with
 |nil=>simp [Z1] at h
 |cons a r ih=>
  simp only [Z1] at h;split at h
  ·rename_i e;exact ⟨a,w0l ..,e.symm⟩
  ·obtain ⟨e,h1,h2⟩:=ih h;exact ⟨e,w08 _ h1,h2⟩
theorem MOk.get {M:List (Str×Bool)} (h:MOk M) (k:Str):(Z1 k M).getD false=yj M k:=by
 have h2:=h.tr;unfold yj
 induction M with
 |nil=>rfl
 |cons a r ih=>
  simp only [Z1];split
  ·simp [h2 a (w0l ..)]
  ·exact ih ⟨(w1c.1 (by simpa using h.nd)).2,fun e he=>h2 e (w08 _ he)⟩ fun e he=>h2 e (w08 _ he)
theorem z78 {κ ν:Type} [DecidableEq κ] {e:κ×ν}:∀{l:List (κ×ν)} {i:Nat},l[i]?=some e->(l.map (·.1)).Nodup->YP e.1 l=l.eraseIdx i
 |[],i,h,_=>by simp at h
 |w::r,0,h,hn=>by simp at h;subst h;simp [YP]
 |w::r,i+1,h,hn=>by
  simp only [w0o,w1c] at hn
  have h':r[i]?=some e:=by simpa using h
  have hne:¬ e.1=w.1:=fun heq=>hn.1 (w1a.2 ⟨e,zMG h',heq⟩);simp [YP,hne,z78 h' hn.2]
theorem z2O {M:List (Str×Bool)} (hM:MOk M) {e:Str×Bool} {i:Nat} (h:M[i]?=some e) (k:Str):yj (M.eraseIdx i) k=(yj M k&&!(k==e.1)):=by
 unfold yj;rw [←z78 h hM.nd,QU hM.nd];by_cases hk:k=e.1
 ·simp [hk]
 ·simp [hk]
theorem zaq {M:List (Str×Bool)} (hM:MOk M) (x k:Str):yj (YP x M) k=(yj M k&&!(k==x)):=by
 unfold yj;rw [QU hM.nd];by_cases hk:k=x
 ·simp [hk]
 ·simp [hk]
theorem zaa {M:List (Str×Bool)} (x:Str):(YP x M).Sublist M:=by
 induction M with
 |nil=>exact List.Sublist.refl _
 |cons a r ih=>
  simp only [YP];split
  ·exact List.sublist_cons_self ..
  ·exact ih.cons_cons _
theorem MOk.sub {M M':List (Str×Bool)} (h:MOk M) (hs:M'.Sublist M):MOk M':=
 ⟨h.nd.sublist (hs.map _),fun e he=>h.tr e (hs.subset he)⟩
theorem z0Q:∀{bs:List Nat} {i j s:Nat},bs.Nodup->bs[i]?=some s->bs[j]?=some s->i=j
 |[],i,j,s,_,h,_=>by simp at h
 |b::r,0,0,s,_,_,_=>rfl
 |b::r,0,j+1,s,hn,h1,h2=>by
  simp at h1;subst h1;exact absurd (zMG (by simpa using h2)) (w1c.1 hn).1
 |b::r,i+1,0,s,hn,h1,h2=>by
  simp at h2;subst h2;exact absurd (zMG (by simpa using h1)) (w1c.1 hn).1
 |b::r,i+1,j+1,s,hn,h1,h2=>by
  exact congrArg (· +1) (z0Q (w1c.1 hn).2 (by simpa using h1) (by simpa using h2))
def z0T (bs seen:List Nat):Nat:=bs.countP fun s=>!decide (s∈seen)
theorem ze9 (bs seen:List Nat) (s:Nat):z0T bs (seen++[s])<=z0T bs seen:=by
 unfold z0T;refine List.countP_mono_left fun x _ h=>?_;simp at h⊢;exact h.1
theorem z8M {s:Nat} {seen:List Nat} (hs:s∉seen):∀{bs:List Nat},s∈bs->z0T bs (seen++[s])<z0T bs seen
 |[],h=>by cases h
 |b::r,h=>by
  have hle:=ze9 r seen s;unfold z0T at hle⊢;simp only [List.countP_cons]
  rcases w17.1 h with rfl|h
  ·simp [hs];simp at hle;omega
  ·have ih:=z8M hs h;unfold z0T at ih
   have:(if (!decide (b∈seen++[s]))=true then 1 else 0)<=(if (!decide (b∈seen))=true then 1 else 0):=by
    by_cases hb:b∈seen
    ·simp [hb]
    ·by_cases hbs:b=s<;>simp [hb,hbs]
   omega
theorem z8B (bs seen:List Nat) (i:Nat):z0T (bs.eraseIdx i) seen<=z0T bs seen:=(List.eraseIdx_sublist ..).countP_le
theorem z1p {α β:Type}:∀(l:List α) (r:List β) (i:Nat),(l.eraseIdx i).zip (r.eraseIdx i)=(l.zip r).eraseIdx i
 |[],r,i=>by simp
 |a::l,[],i=>by cases i<;>simp
 |a::l,b::r,0=>by simp
 |a::l,b::r,i+1=>by simp [z1p l r i]
structure Lp (M:List (Str×Bool)) (bad:Str->Bool) (b:List (Str×Bool)×List Nat×List Nat):Prop where
 ok:MOk b.1
 len:b.2.1.length=b.1.length
 nd:b.2.1.Nodup
 i1:∀k,yj b.1 k=true->yj M k=true
 i2:∀k,yj M k=true->bad k=false->yj b.1 k=true
 i3:∀p,p∈b.1.zip b.2.1->p.2∈b.2.2->bad p.1.1=false
theorem Lp.yq {M:List (Str×Bool)} {bad:Str->Bool} {L:List (Str×Bool)} {bs seen:List Nat} (h:Lp M bad (L,bs,seen)) {i s:Nat} {e:Str×Bool} (he:L[i]?=some e) (hs:bs[i]?=some s) (hb:bad e.1=false):Lp M bad (L,bs,seen++[s]):=by
 refine ⟨h.ok,h.len,h.nd,h.i1,h.i2,fun p hp hps=>?_⟩
 rcases w19.1 hps with hps|hps
 ·exact h.i3 p hp hps
 ·simp at hps;obtain ⟨j,hj⟩:=w0y.1 hp;obtain ⟨h1,h2⟩:=List.getElem?_zip_eq_some.1 hj;rw [hps] at h2;have:=z0Q h.nd hs h2;subst this;simp only at h1;rw [he] at h1;simp at h1;rw [←h1];exact hb
theorem Lp.drop {M:List (Str×Bool)} {bad:Str->Bool} {L:List (Str×Bool)} {bs seen:List Nat} (h:Lp M bad (L,bs,seen)) {i s:Nat} {e:Str×Bool} (he:L[i]?=some e) (hs:bs[i]?=some s) (hb:bad e.1=true):Lp M bad (L.eraseIdx i,bs.eraseIdx i,seen++[s]):=by
 have hlen:bs.length=L.length:=h.len;have hok:MOk L:=h.ok
 refine ⟨hok.sub (List.eraseIdx_sublist ..),by show (bs.eraseIdx i).length=(L.eraseIdx i).length;rw [w29,w29,hlen],List.Nodup.sublist (List.eraseIdx_sublist ..) h.nd,fun k hk=>?_,fun k hk hkb=>?_,fun p hp hps=>?_⟩
 ·have hk':yj (L.eraseIdx i) k=true:=hk;rw [z2O hok he] at hk';simp at hk';exact h.i1 k hk'.1
 ·show yj (L.eraseIdx i) k=true;rw [z2O hok he];have h1:=h.i2 k hk hkb
  have hne:¬ k=e.1:=by rintro rfl;rw [hb] at hkb;cases hkb
  simp [hne];exact h1
 ·have hp':p∈(L.zip bs).eraseIdx i:=by rw [←z1p];exact hp
  have hpm:p∈L.zip bs:=(List.eraseIdx_sublist ..).subset hp'
  rcases w19.1 hps with hps|hps
  ·exact h.i3 p hpm hps
  ·exfalso;simp at hps
   have hz:(bs.eraseIdx i)=((L.zip bs).eraseIdx i).map (·.2):=by
    rw [←z1p];rw [List.map_snd_zip (by rw [w29,w29,hlen];exact w07 _)]
   have hmem:s∈bs.eraseIdx i:=by rw [hz,←hps];exact w1a.2 ⟨p,hp',rfl⟩
   obtain ⟨j,hj⟩:=w0y.1 hmem;rw [List.getElem?_eraseIdx] at hj;split at hj
   ·have:=z0Q h.nd hs hj;omega
   ·have:=z0Q h.nd hs hj;omega
theorem Lp.last {M:List (Str×Bool)} {bad:Str->Bool} {L:List (Str×Bool)} {bs seen:List Nat} (h:Lp M bad (L,bs,seen)) (hall:∀s,s∈bs->s∈seen) (k:Str):yj L k=(yj M k&&!(bad k)):=by
 have hlen:bs.length=L.length:=h.len;by_cases hk:yj L k=true
 ·obtain ⟨e,he,rfl⟩:=zb6 hk;obtain ⟨i,hi⟩:=w0y.1 he
  have hil:i<bs.length:=by rw [hlen];exact (w02.1 hi).1
  have hz:(L.zip bs)[i]?=some (e,bs[i]):=List.getElem?_zip_eq_some.2 ⟨hi,by simp [hil]⟩
  have:=h.i3 (e,bs[i]) (zMG hz) (hall _ (by simp));have h1:=h.i1 e.1 hk;simp only at this;rw [hk,h1,this];rfl
 ·have hk':yj L k=false:=by simpa using hk
  rw [hk'];by_cases h1:yj M k=true
  ·by_cases h2:bad k=false
   ·exact absurd (h.i2 k h1 h2) hk
   ·have:bad k=true:=by simpa using h2
    simp [this]
  ·have:yj M k=false:=by simpa using h1
   simp [this]
end Go.GB.C11
namespace Go.GB.C11
open Go.GB
variable {P:Program}
theorem z72 (a b:Str):(a==b)=(b==a):=by
 rw [w2b];simp only [beq_iff_eq];exact eq_comm
def z2L (t:Def) (nm:Str) (ds:List Def) (k:Str):Bool:=
 (t.kind==1&&nm==k)||(t.kind==2&&ds.any (fun x=>decide (nm∈x.implements)&&x.name==k))||(t.kind==3&&W4 t.members k)
def z7N (t:Def) (nm:Str) (ds:List Def) (k:Str):Bool:=
 !(zi k ds).isSome||((zi k ds).getD Def.zero).kind !=1||(t.kind==2&&!(decide (nm∈((zi k ds).getD Def.zero).implements)))
theorem z3q:∀{ds:List Def} {i:Nat} {x:Def},ds[i]?=some x->Zz (ds.take i) x.name=true->zi x.name ds=some x
 |[],i,x,h,_=>by simp at h
 |y::r,0,x,h,_=>by simp at h;subst h;simp [zi]
 |y::r,i+1,x,h,hf=>by
  have hne:¬ (y.name==x.name)=true:=by
   intro e;simp [Zz,e] at hf
  simp only [zi];rw [w0d hne];refine z3q (i:=i) (by simpa using h) ?_;simp only [Zz,List.take_succ_cons,w14] at hf⊢
  have:(y.name==x.name)=false:=by simpa using hne
  rw [this,w1x] at hf;exact hf
theorem z9a {ds:List Def} {t:Def} {nm:Str} {i:Nat} {x:Def} (h:ds[i]?=some x) (hf:Zz (ds.take i) x.name=true):(z2L t nm ds x.name&&!(z7N t nm ds x.name))=(x.kind==1&&isP t nm x):=by
 have e:=z3q h hf;have hm:x∈ds:=zMG h;unfold z7N z2L isP;rw [e];simp only [Option.isSome_some,w2q,Bool.not_true,w1x,z7l];by_cases h2:t.kind=2
 ·have h1:¬ t.kind=1:=by omega
  have h3:¬ t.kind=3:=by omega
  by_cases hx:nm∈x.implements
  ·have:(ds.any fun y=>decide (nm∈y.implements)&&y.name==x.name)=true:=w2d.2 ⟨x,hm,by simp [hx]⟩
   simp [h2,hx,this]
  ·simp [h2,hx]
 ·have e1:(nm==x.name)=(x.name==nm):=z72 _ _
  have h2':(t.kind==2)=false:=by simpa using h2
  simp only [h2',e1,w15,Bool.or_false,Bool.and_comm]
  cases (t.kind==1&&x.name==nm)<;>cases (t.kind==3&&W4 t.members x.name)<;>cases (x.kind==1)<;>rfl
theorem z4R (nm:Str):∀(r pre:List Def),YU Def.zero nm pre r=[]
 |[],pre=>rfl
 |o::r,pre=>by
  have:isP Def.zero nm o=false:=rfl;simp only [YU,this,Bool.and_false,w0k,w0r];exact z4R nm r _
theorem z9p (ds:List Def) (nm:Str):Y3 ds nm=YU ((zi nm ds).getD Def.zero) nm [] ds:=by
 unfold Y3
 cases zi nm ds with
 |none=>simp [z4R]
 |some t=>rfl
theorem z1t (l:List Def) (x:Def) (k:Str):Zz (l++[x]) k=(Zz l k&&!(x.name==k)):=by
 simp [Zz,List.any_append,Bool.not_or]
theorem z6f (H:Pr P) (ds:List Def) (hD:Z6 ds) (nm:Str):z6 P 34 [yT ds,.t (.str nm)] ⟨[],0⟩ {v:= .t (.lst ((Y3 ds nm).map sE))}:=by
 have hl:=hD.l;have hlb:=hD.lb;have hT:=z0P hD nm;have hpos:=z9p ds nm;refine z6.run H.i34 H.mixed Z Z ?_;refine fR Z ?_;refine Mid.call (z8S H ds hl nm) Z Z Z Z ?_;refine fM Z ?_;generalize (zi nm ds).getD Def.zero=t at hT hpos
 have tail:∀M:List (Str×Bool),MOk M->(∀k,yj M k=z2L t nm ds k)->Run P n34 (⟨[],0⟩:S).nxt (z4 ⟨[],0⟩ {v:= .t (.lst ((Y3 ds nm).map sE))} r34 YJ.ret)
   [It.c (.region false [⟨some 60,none,.mv (.s 7)⟩,⟨some 61,none,.qT (.s 60)⟩] [] [1,2,5,7,61]),It.c c34_23,It.c c34_13]
   {env:=[(1,.t (.str nm)),(2,.ptr 0 0),(5,.ptr 1 0),(7,.mp 2)],s:=⟨[(0,.cells [.t (.lst (ds.map Def.enc))]),(1,(TCo t)),(2,.map false (mE sE bE M) none)],3⟩}:=by
  intro M hM hMk;refine Run.z8R (q:=2) Z Z (fun cl bs hbl hbn hblt=>?_);refine fR Z ?_;refine Mid.zea Z Z Z ?_;refine Mid.z4o Z ?_
  refine z13 (β:=List (Str×Bool)×List Nat×List Nat) (fun b=>{env:=[(1,.t (.str nm)),(2,.ptr 0 0),(5,.ptr 1 0),(7,.mp 2),(61,.ptr 3 0)],s:=⟨[(0,.cells [.t (.lst (ds.map Def.enc))]),(1,(TCo t)),(2,.map false (mE sE bE b.1) (some (cl,b.2.1))),(3,.iter 2 cl b.2.2 cl)],4⟩})
   (Lp M (z7N t nm ds)) (fun b=>z0T b.2.1 b.2.2) 4 (M,bs,[]) rfl ⟨hM,by simpa [mE] using hbl,hbn,fun _ h=>h,fun _ h _=>h,fun p hp h=>by cases h⟩ rfl rfl rfl ?_
  rintro ⟨L,bs',seen⟩ hinv ih;refine Run.nxt Z Z Z Z Z (fun hall=>?_) (fun i e s he hs hns=>?_)
  ·have hG:=hinv.last hall;have hLok:MOk L:=hinv.ok;refine fM Z ?_;refine Run.zf Z Z Z ?_;refine fR Z ?_;refine lM Z Z Z ?_;refine fM Z ?_
   refine zu ds (fun i (B:List Str×List (Str×Bool))=>{env:=[(7,.mp 2),(15,.own 4 1 (B.1.map sE)),(93,.t (.lst (ds.map Def.enc))),(94,.t (.int .i64 ds.length)),(95,.t (.int .i64 i))],s:=⟨[(2,.map false (mE sE bE B.2) none),(4,.arr B.1.length)],5⟩}) (fun r i B=>B.1.length<=i/\MOk B.2/\(∀k,yj B.2 k=(yj L k&&Zz (ds.take i) k))/\Y3 ds nm=B.1++YU t nm (ds.take i) r) 4 ([],L) Z ⟨by simp,hLok,by intro k;simp [Zz],by rw [hpos];simp⟩ rfl rfl rfl ?_ ?_
   ·rintro ⟨B,N⟩ ⟨_,_,_,hB⟩
    obtain rfl:B=Y3 ds nm:=by rw [hB];simp [YU]
    refine fR Z ?_;refine Run.zf Z Z (by simp) ?_;refine fR Z ?_;refine Run.fin Z (z4.go ?_);exact .own Z
   ·rintro i x r ⟨B,N⟩ h1 hi hd ⟨hBl,hN,hNk,hB⟩ ih2;have hBl':B.length<=i:=hBl;have hNok:MOk N:=hN
    have htk:ds.take i++[x]=ds.take (i+1):=by rw [w11,h1];rfl
    have hx:=hNk x.name;refine fR Z ?_;refine Run.zj Z Z (by simp;omega) ?_;refine fR Z ?_;refine Mid.za Z Z Z h1 Z Z ?_;refine fM Z ?_;refine Mid.z9v (x.name) Z Z Z Z Z (qL) Z ?_;refine fM Z ?_;rw [hNok.get];refine Run.cond Z Z (fun hc=>?_) (fun hc=>?_)
    ·have hc2:yj L x.name=true/\Zz (ds.take i) x.name=true:=by
      have:yj N x.name=true:=hc;rw [this] at hx;simpa using hx.symm
     have hg:(x.kind==1&&isP t nm x)=true:=by rw [←z9a h1 hc2.2,←hMk,←hG];exact hc2.1
     have hsel:(x.kind==1&&Zz (ds.take i) x.name&&isP t nm x)=true:=by
      rw [hc2.2,w2l];exact hg
     refine fR Z ?_;refine apM sE B [x.name] Z Z Z Z Z ?_;refine fM Z ?_;refine Mid.zgm x.name Z Z Z qL Z ?_;refine fM Z ?_;refine aL Z Z Z Z Z ?_;refine fM Z ?_
     exact zh 5 Z (ih2 (B++[x.name],YP x.name N) ⟨by simp;omega,hNok.sub (zaa _),by
      intro k;show yj (YP x.name N) k=_;rw [zaq hNok,show yj N k=_ from hNk k,←htk,z1t]
      rw [z72 k x.name,Bool.and_assoc],by rw [hB];simp only [YU];rw [w0c hsel,htk];simp⟩) rfl rfl rfl
    ·have hcN:yj N x.name=false:=hc
     have hsel:¬ (x.kind==1&&Zz (ds.take i) x.name&&isP t nm x)=true:=by
      intro hs;simp only [w0a] at hs
      have hg:(x.kind==1&&isP t nm x)=true:=by rw [hs.1.1,hs.2];rfl
      rw [←z9a h1 hs.1.2,←hMk,←hG] at hg;rw [hcN,hg,hs.1.2] at hx;cases hx
     refine fR Z ?_;refine aL Z Z Z Z Z ?_;refine fM Z ?_
     exact zh 5 Z (ih2 (B,N) ⟨by omega,hNok,by
      intro k;show yj N k=_;rw [show yj N k=_ from hNk k,←htk,z1t];by_cases e:x.name=k
      ·subst e;rw [show yj N x.name=_ from hNk x.name] at hcN;rw [hcN];simp
      ·have e':(x.name==k)=false:=by simpa using e
       rw [e'];simp,by rw [hB];simp only [YU];rw [w0d hsel,htk]⟩) rfl rfl rfl
  ·have hbn':bs'.Nodup:=hinv.nd;have hLok:MOk L:=hinv.ok;have hsm:s∈bs':=zMG hs;have hO:=z0P hD e.1;have hil:=hO.il;have hlt:z0T bs' (seen++[s])<z0T bs' seen:=z8M hns hsm;refine fM Z ?_;refine Run.zj Z Z Z ?_;refine fR Z ?_;refine Mid.zg7 (i:=i) (z:=s) Z Z Z (by simp) he hs hbn' Z ?_;refine fM Z ?_;refine Mid.call (z8S H ds hl e.1) Z Z Z Z ?_;refine fM Z ?_;refine caG Z Z (fun hg=>⟨_,rfl,QJ H ((zi e.1 ds).getD Def.zero) hO nm,rfl⟩) Z Z ?_;refine fM Z ?_;refine Run.cond Z Z (fun hb=>?_) (fun hb=>?_)
   ·have hb':z7N t nm ds e.1=true:=by simpa [z7N,z7l] using hb
    refine fR Z ?_;refine Mid.zh8 (i:=i) Z Z he hLok.nd Z qL Z ?_;refine fM Z ?_;exact zh 4 Z (ih (L.eraseIdx i,bs'.eraseIdx i,seen++[s]) (by have:=z8B bs' (seen++[s]) i;show z0T (bs'.eraseIdx i) (seen++[s])<z0T bs' seen;omega) (hinv.drop he hs hb')) Z Z Z
   ·have hb':z7N t nm ds e.1=false:=by simpa [z7N,z7l] using hb
    skip;exact zh 4 Z (ih (L,bs',seen++[s]) hlt (hinv.yq he hs hb')) Z Z Z
 refine Mid.z8z sE bE Z ?_;refine fM Z ?_;refine Run.cond Z Z (fun h1=>?_) (fun h1=>?_)
 ·have h1':t.kind=1:=by simpa using h1
  refine fR Z ?_;refine Mid.zdO nm Z Z Z Z qL Z ?_;refine Mid.z4o Z ?_;exact Yz 3 Z (tail (yn nm true []) (MOk.nil.yn nm) (by intro k;rw [z1k];simp [z2L,h1',yj,Z1])) Z Z Z
 ·have h1':¬ t.kind=1:=by simpa using h1
  refine fR Z ?_;refine Run.cond Z Z (fun h2=>?_) (fun h2=>?_)
  ·have h2':t.kind=2:=by simpa using h2
   refine fR Z ?_;refine lM Z Z Z ?_;refine fM Z ?_
   refine zu ds (fun i (M:List (Str×Bool))=>{env:=[(1,.t (.str nm)),(2,.ptr 0 0),(5,.ptr 1 0),(7,.mp 2),(34,.t (.lst (ds.map Def.enc))),(35,.t (.int .i64 ds.length)),(36,.t (.int .i64 i))],s:=⟨[(0,.cells [.t (.lst (ds.map Def.enc))]),(1,(TCo t)),(2,.map false (mE sE bE M) none)],3⟩}) (fun r i M=>MOk M/\∀k,(yj M k||r.any (fun x=>decide (nm∈x.implements)&&x.name==k))=ds.any (fun x=>decide (nm∈x.implements)&&x.name==k)) 3 [] Z ⟨MOk.nil,fun k=>by simp [yj,Z1]⟩ rfl rfl rfl ?_ ?_
   ·rintro M ⟨hM,hMk⟩;refine fR Z ?_;refine Run.zf Z Z (by simp) ?_;exact Yz 3 Z (tail M hM (by intro k;have:=hMk k;simp only [List.any_nil,Bool.or_false] at this;rw [this];simp [z2L,h2'])) Z Z Z
   ·rintro i x r M hx1 hi hd ⟨hM,hMk⟩ ih;have hxo:=hD.d x (zMG hx1);refine fR Z ?_;refine Run.zj Z Z (by simp;omega) ?_;refine fR Z ?_;refine Mid.za Z Z Z hx1 Z Z ?_;refine fM Z ?_;refine Mid.call (QJ H x hxo nm) Z Z Z Z ?_;refine fM Z ?_;refine Run.cond Z Z (fun hc=>?_) (fun hc=>?_)
    ·refine fR Z ?_;refine Mid.zdO (x.name) Z Z Z Z (qL) Z ?_;refine fM Z ?_;refine aL Z Z Z Z Z ?_;refine fM Z ?_
     exact zh 3 Z (ih (yn x.name true M) ⟨hM.yn _,fun k=>by
      rw [←hMk k,z1k];have:decide (nm∈x.implements)=true:=hc;simp only [w14,this,w13]
      cases (x.name==k)<;>cases (yj M k)<;>simp⟩) rfl rfl rfl
    ·refine fR Z ?_;refine aL Z Z Z Z Z ?_;refine fM Z ?_
     exact zh 3 Z (ih M ⟨hM,fun k=>by
      rw [←hMk k];have:decide (nm∈x.implements)=false:=hc
      simp only [w14,this,w15,w1x]⟩) rfl rfl rfl
  ·have h2':¬ t.kind=2:=by simpa using h2
   refine fR Z ?_;refine Run.cond Z Z (fun h3=>?_) (fun h3=>?_)
   ·have h3':t.kind=3:=by simpa using h3
    have hml:=hT.ml;refine fR Z ?_;refine lM Z Z Z ?_;refine fM Z ?_
    refine zu t.members (fun i (M:List (Str×Bool))=>{env:=[(1,.t (.str nm)),(2,.ptr 0 0),(5,.ptr 1 0),(7,.mp 2),(50,.t (.lst (t.members.map ZA.enc))),(51,.t (.int .i64 t.members.length)),(52,.t (.int .i64 i))],s:=⟨[(0,.cells [.t (.lst (ds.map Def.enc))]),(1,(TCo t)),(2,.map false (mE sE bE M) none)],3⟩}) (fun r i M=>MOk M/\∀k,(yj M k||W4 r k)=W4 t.members k) 3 [] Z ⟨MOk.nil,fun k=>by simp [yj,Z1]⟩ rfl rfl rfl ?_ ?_
    ·rintro M ⟨hM,hMk⟩;refine fR Z ?_;refine Run.zf Z Z (by simp) ?_;exact Yz 3 Z (tail M hM (by intro k;have:=hMk k;simp only [W4,List.any_nil,Bool.or_false] at this;rw [this];simp [z2L,h3',W4])) Z Z Z
    ·rintro i x r M hx1 hi hd ⟨hM,hMk⟩ ih;refine fR Z ?_;refine Run.zj Z Z (by simp;omega) ?_;refine fR Z ?_;refine Mid.za Z Z Z hx1 Z Z ?_;refine fM Z ?_;refine Mid.zdO (x.name) Z Z Z Z (qL) Z ?_;refine fM Z ?_;refine aL Z Z Z Z Z ?_;refine fM Z ?_
     exact zh 3 Z (ih (yn x.name true M) ⟨hM.yn _,fun k=>by
      rw [←hMk k,z1k];simp only [W4,w14]
      cases (x.name==k)<;>cases (yj M k)<;>simp⟩) rfl rfl rfl
   ·have h3':¬ t.kind=3:=by simpa using h3
    exact Yz 3 Z (tail [] MOk.nil (by intro k;simp [z2L,yj,Z1,h1',h2',h3'])) Z Z Z
end Go.GB.C11
namespace Go.GB.C29
open Go.GB
structure YX (P:Program):Prop where
 p26:C26.Pr P
 p11:C11.Pr P
 mixed:P.follows .mixedOrders=true
 i8:z9 P 8=some (n8,c8.bare,r8)
 i9:z9 P 9=some (n9,c9.bare,r9)
 i10:z9 P 10=some (n10,c10.bare,r10)
 i14:z9 P 14=some (n14,c14.bare,r14)
 i22:z9 P 22=some (n22,c22.bare,r22)
 i21:z9 P 21=some (n21,c21.bare,r21)
 i23:z9 P 23=some (n23,c23.bare,r23)
 i24:z9 P 24=some (n24,c24.bare,r24)
 i25:z9 P 25=some (n25,c25.bare,r25)
 i27:z9 P 27=some (n27,c27.bare,r27)
 i39:z9 P 39=some (n39,c39.bare,r39)
 i40:z9 P 40=some (n40,c40.bare,r40)
 i41:z9 P 41=some (n41,c41.bare,r41)
 i42:z9 P 42=some (n42,c42.bare,r42)
 i43:z9 P 43=some (n43,c43.bare,r43)
 i45:z9 P 45=some (n45,c45.bare,r45)
 i46:z9 P 46=some (n46,c46.bare,r46)
 i47:z9 P 47=some (n47,c47.bare,r47)
 i68:z9 P 68=some (n68,c68.bare,r68)
 i71:z9 P 71=some (n71,c71.bare,r71)
 i72:z9 P 72=some (n72,c72.bare,r72)
variable {P:Program}
def yV (k:Int):Str:=if k=1 then [81,117,101,114,121] else if k=2 then [77,117,116,97,116,105,111,110] else if k=3 then [83,117,98,115,99,114,105,112,116,105,111,110] else []
theorem z4B (f:FuncId) (hi:z9 P f=some (n23,c23.bare,r23)) (hm:P.follows .mixedOrders=true) (k:Int):z6 P f [.t (.int .i64 k)] ⟨[],0⟩ {v:= .t (.str (yV k))}:=by
 refine z6.run hi hm Z Z ?_;refine fR Z ?_;refine Run.cond Z Z (fun h1=>?_) (fun h1=>?_)
 ·have h':k=1:=by simpa using h1
  refine fR Z ?_;refine Run.fin Z (z4.go ?_);exact .t (by unfold yV;rw [w0c h'])
 ·have h1':¬ k=1:=by simpa using h1
  refine fR Z ?_;refine Run.cond Z Z (fun h2=>?_) (fun h2=>?_)
  ·have h':k=2:=by simpa using h2
   refine fR Z ?_;refine Run.fin Z (z4.go ?_);exact .t (by unfold yV;rw [w0d h1',w0c h'])
  ·have h2':¬ k=2:=by simpa using h2
   refine fR Z ?_;refine Run.cond Z Z (fun h3=>?_) (fun h3=>?_)
   ·have h':k=3:=by simpa using h3
    refine fR Z ?_;refine Run.fin Z (z4.go ?_);exact .t (by unfold yV;rw [w0d h1',w0d h2',w0c h'])
   ·have h':¬ k=3:=by simpa using h3
    refine fR Z ?_;refine Run.fin Z (z4.go ?_);exact .t (by unfold yV;rw [w0d h1',w0d h2',w0d h'])
theorem zdA (H:YX P) (k:Int):z6 P 23 [.t (.int .i64 k)] ⟨[],0⟩ {v:= .t (.str (yV k))}:=z4B 23 H.i23 H.mixed k
theorem z6F (H:YX P) (k:Int):z6 P 27 [.t (.int .i64 k)] ⟨[],0⟩ {v:= .t (.str (yV k))}:=z4B 27 H.i27 H.mixed k
theorem zaN (H:YX P) (l:List Arg) (hl:l.length*96<=140737488355328):z6 P 40 [.t (.lst (l.map Arg.enc))] ⟨[],0⟩ {v:= .t (.lst (l.map Arg.enc))}:=by
 refine z6.run H.i40 H.mixed Z Z ?_;refine fR Z ?_;refine p0 Z ?_;refine fM Z ?_;refine Run.z6Q Z Z (fun h=>?_) (fun _=>?_)
 ·have hn:l=[]:=by
   cases l with
   |nil=>rfl
   |cons x r=>
    have:=h (Arg.enc x) (by simp);simp [Arg.enc] at this
  subst hn;refine fR Z ?_;refine Run.fin Z (z4.go ?_);exact .nil Z
 ·refine fR Z ?_;refine apN Arg.enc l Z Z Z ?_ (h1:=hl) (h2:=by omega);refine fM rfl ?_;refine Run.fin rfl (z4.go ?_);exact .own rfl
theorem zan (H:YX P) (l:List Int) (hl:l.length*8<=140737488355328):z6 P 41 [.t (.lst (l.map nE))] ⟨[],0⟩ {v:= .t (.lst (l.map nE))}:=by
 refine z6.run H.i41 H.mixed Z Z ?_;refine fR Z ?_;refine p0 Z ?_;refine fM Z ?_;refine Run.z6Q Z Z (fun h=>?_) (fun _=>?_)
 ·have hn:l=[]:=by
   cases l with
   |nil=>rfl
   |cons x r=>
    have:=h (nE x) (by simp);simp [nE] at this
  subst hn;refine fR Z ?_;refine Run.fin Z (z4.go ?_);exact .nil Z
 ·refine fR Z ?_;refine apN nE l Z Z Z ?_ (h1:=hl) (h2:=by omega);refine fM rfl ?_;refine Run.fin rfl (z4.go ?_);exact .own rfl
def zcW (P:Program) (p:zg):Prop:=z6 P 24 [p.v] ⟨[],0⟩ {v:=p.v}
theorem zci (H:YX P) (p:zg) (hp:p.Ok) (hrec:∀x,x∈p.z7->zcW P x):zcW P p:=by
 have hal:=hp.al;have hw:=hp.t.l;have hpl:=hp.pl;unfold zcW;refine z6.run H.i24 H.mixed Z Z ?_;refine fR Z ?_;refine Mid.call (zaN H p.args hal) Z Z Z Z ?_;refine fM Z ?_;refine Mid.call (zan H p.ty.zw hw) Z Z Z Z ?_;refine fM Z ?_;refine lM Z Z Z ?_;refine fM Z ?_;refine zu p.z7 (fun i (B:List zg)=>{env:=[(1,.ptr 0 0),(2,.ptr 1 0),(19,.t (.lst (p.z7.map zg.enc))),(20,.t (.int .i64 p.z7.length)),(21,.t (.int .i64 i))],s:=⟨[(0,.cells [.t (.str p.key),.t (.str p.on),.t (.str p.name),.t (.lst (p.args.map Arg.enc)),.t (.str p.ty.name),.t (.lst (p.ty.zw.map nE)),.t (.str p.label),.t (.int .i64 p.initial),.own 2 9 (B.map zg.enc)]),(1,.cells [.t (.str []),.t (.str []),.t (.str []),.zJ,.t (.str []),.zJ,.t (.str []),.t (.int .i64 0),.zJ]),(2,.arr B.length)],3⟩}) (fun r i B=>B=p.z7.take i) 2 [] Z Z Z Z Z ?_ ?_
 ·intro B hB;rw [w1f] at hB;refine fR Z ?_;refine Run.zf Z Z (by simp) ?_;refine fR Z ?_;refine Run.fin Z (z4.go ?_);exact .agg (.cons (.t Z) (.cons (.t Z) (.cons (.t Z) (.cons (.t Z) (.cons (.t Z) (.cons (.t Z) (.cons (.t Z) (.cons (.t Z) (.cons (.own (by rw [hB])) .nil)))))))))
 ·intro i x r B h1 hi hd hB ih;have hc:=hrec x (zMG h1);unfold zcW at hc
  have hBl:B.length=i:=by rw [hB];simp;omega
  refine fR Z ?_;refine Run.zj Z Z (by simp;omega) ?_;refine fR Z ?_;refine Mid.Z2 (zg.zx x) Z Z Z h1 Z Z ?_;refine fM Z ?_;refine Mid.call (hc) Z Z Z Z ?_;refine fM Z ?_;refine apM zg.enc B [x] Z (congrArg (fun c=>some (T.lst [c])) (zg.zx x).symm) Z Z Z ?_ (hl:=fun x=>(congrArg List.length (zg.zx x)).trans Z);refine fM Z ?_;refine aL Z Z Z Z Z ?_;refine fM Z ?_;exact zh 3 Z (ih (B++[x]) (by rw [hB,w11,h1];rfl)) Z Z Z
theorem z9H (H:YX P):∀(k:Nat) (p:zg),SizeOf.sizeOf p<=k->p.Ok->zcW P p
 |0,p,h,_=>by cases p;simp at h
 |k+1,p,h,hp=>zci H p hp fun x hx=>z9H H k x (by have:=zg.z84 p hx;omega) (hp.p x hx)
theorem zbw (H:YX P) (p:zg) (hp:p.Ok):z6 P 24 [p.v] ⟨[],0⟩ {v:=p.v}:=z9H H _ p (w07 _) hp
def onF (l:List zg) (s:Str):List zg:=l.filter fun p=>p.on==s
theorem z77 {l:List zg} {i:Nat} {x:zg} {s:Str} (h:l[i]?=some x):onF (l.take (i+1)) s=onF (l.take i) s++if (x.on==s)=true then [x] else []:=by
 rw [w11,h];unfold onF;rw [List.filter_append];congr 1;simp only [Option.toList_some,w20,List.filter_nil]
theorem zgk (H:YX P) (l:List zg) (hl:l.length*160<=140737488355328) (ho:∀x,x∈l->x.Ok) (s:Str):z6 P 42 [.t (.lst (l.map zg.enc)),.t (.str s)] ⟨[],0⟩ {v:= .t (.lst ((onF l s).map zg.enc))}:=by
 refine z6.run H.i42 H.mixed Z Z ?_;refine fR Z ?_;refine lM Z Z Z ?_;refine fM Z ?_;refine zu l (fun i (B:List zg)=>{env:=[(1,.t (.str s)),(5,.own 0 9 (B.map zg.enc)),(8,.t (.lst (l.map zg.enc))),(9,.t (.int .i64 l.length)),(10,.t (.int .i64 i))],s:=⟨[(0,.arr B.length)],1⟩}) (fun r i B=>B=onF (l.take i) s) 0 [] Z Z Z Z Z ?_ ?_
 ·intro B hB;rw [w1f] at hB;refine fR Z ?_;refine Run.zf Z Z (by simp) ?_;refine fR Z ?_;refine Run.fin Z (z4.go ?_);exact .own (by rw [hB])
 ·intro i x r B h1 hi hd hB ih;have hc:=zbw H x (ho x (zMG h1))
  have hBl:B.length<=i:=by rw [hB];have:=w1z (fun p:zg=>p.on==s) (l.take i);simp only [onF];simp at this⊢;omega
  have hs:=z77 (s:=s) h1;refine fR Z ?_;refine Run.zj Z Z (by simp;omega) ?_;refine fR Z ?_;refine Mid.Z2 (zg.zx x) Z Z Z h1 Z Z ?_;refine fM Z ?_;by_cases he:(x.on==s)=true
  ·rw [w0c he] at hs;refine Run.zj Z Z he ?_;refine fR Z ?_;refine Mid.call (hc) Z Z Z Z ?_;refine fM Z ?_;refine apM zg.enc B [x] Z (congrArg (fun c=>some (T.lst [c])) (zg.zx x).symm) Z Z Z ?_ (hl:=fun x=>(congrArg List.length (zg.zx x)).trans Z);refine fM Z ?_;refine aL Z Z Z Z Z ?_;refine fM Z ?_;exact zh 1 Z (ih (B++[x]) (by rw [hB,hs])) Z Z Z
  ·rw [w0d he,w18] at hs;refine Run.zf Z Z (by simpa using he) ?_;refine fR Z ?_;refine aL Z Z Z Z Z ?_;refine fM Z ?_;exact zh 1 Z (ih B (by rw [hB,hs])) Z Z Z
end Go.GB.C29
namespace Go.GB
section
variable {P:Program} {n m:Nat} {R:St->Prop} {draw:Bool} {all:List AO} {after:List (List Nat)} {live:List Nat} {k:List It} {b b':Nat} {fl:List (Bool×Bool)} {ops:List AO} {st st':St} {d:Option Nat}
def z96 {α:Type} (st:St):List Ar->(List V->α)->α
 |[],K=>K []
 |x::r,K=>(x.u st).force fun v=>z96 st r fun vs=>K (v::vs)
theorem z6z {α:Type} (st:St):∀(l:List Ar) (K:List V->α),z96 st l K=K (yu st l)
 |[],K=>rfl
 |x::r,K=>by simp only [z96,V.force_eq,z6z st r,yu]
theorem Mid.z4b {f:FuncId} {args:List Ar} {vs vs':List V} {s1:List (Nat×z5)} {m1:Nat} {out:Out} {v':V} {ob':List (Nat×z5)} {cc:Bool} (r:List Nat) (h:z6 P f vs ⟨s1,m1⟩ out) (hr:(Q0 r&&(r.all (fun k=>Nat.blt k b))&&Nat.beq r.length m1)=true)
  (hv:z96 st args some=some vs') (hvs:V.w7 (wi r b) vs=vs') (hb:V.bds m1 vs=true) (hs1:zP m1 s1=true) (hsub:za0 (wi r b) st.s.sto s1 m1) (hob:zcb s1 m1 out.n out.ob=true)
  (hv':out.v.ren (wi r b)=v') (hob':wY (wi r b) out.ob=ob') (hcc:z02 (!ob'.isEmpty||decide (0<out.n)) some=some cc)
  (hst:Yo b st d {v:=v',ob:=ob',n:=out.n,rd:=true} (fun b' st'=>some (b',st'))=some (b',st'))
  (h':Mid P n m R draw all after live k b' ((true,cc)::fl) ops st'):Mid P n m R draw all after live k b fl (⟨d,none,.call f args⟩::ops) st:=by
 simp only [w0a] at hr;obtain ⟨⟨hr1,hr2⟩,hr3⟩:=hr;have hm:r.length=m1:=w0s hr3;subst hm;rw [z6z] at hv;simp at hv;refine Mid.opX Z ?_;simp only [evX];rw [hv,←hvs]
 have hat:FnL P f (V.w7 (wi r b) vs) b st.s.sto {v:=v',ob:=ob',n:=out.n,rd:=true}:=by
  intro s' hk;have hrn:=zbs (n:=out.n) hr1 hr2;have:=z6.ren hrn h hb hs1 (fun j hj=>(hk _ (hrn.low j hj)).trans (z2a hsub j hj)) (z2e hob);rw [hv',←z3c,hob'] at this;exact this
 simp only [Ws,w00] at hcc;simp only [y3,w00,w04] at hst;obtain ⟨rfl,rfl⟩:=hst
 refine ⟨{v:=v',ob:=ob',n:=out.n,rd:=true},by simp only [w0v];exact hat,?_⟩
 simp only [hcc];exact h'
end
end Go.GB
namespace Go.GB
variable {P:Program}
section
variable {n m:Nat} {R:St->Prop} {draw:Bool} {all:List AO} {after:List (List Nat)} {live:List Nat} {k:List It} {b b':Nat} {fl:List (Bool×Bool)} {ops:List AO} {st st':St} {d:Option Nat}
theorem Mid.zc9 {f:FuncId} {s:Nat} {want gc:Bool} {args:List Ar} {vs':List V} {ps:List Bool} {s1:List (Nat×z5)} {m1:Nat} {x:V} (r:List Nat) (hg:ZZ want (look st.env s)=some gc) (hv:z2q gc st args (fun vs ps=>some (vs,ps))=some (vs',ps))
  (h:gc=true->∃vs,z6 P f vs ⟨s1,m1⟩ {v:=x,rd:=true}/\V.w7 (wi r b) vs=vs'/\V.bds m1 vs=true) (hr:(Q0 r&&(r.all (fun k=>Nat.blt k b))&&Nat.beq r.length m1)=true)
  (hs1:zP m1 s1=true) (hsub:za0 (wi r b) st.s.sto s1 m1) (hs:zQ st d (.gd gc (x.ren (wi r b))) some=some st')
  (h':Mid P n m R draw all after live k b ((true,false)::fl) ops st') (hp:Z9 (ps.map fun p=>!gc||p):=by (repeat' (first |exact trivial|exact w0j _|exact yY _|exact yX _|exact grd3 _ _|exact yZ _ _|refine And.intro ?_ ?_|exact rfl|(simp;done)|(simp<;>omega)));done):Mid P n m R draw all after live k b fl (⟨d,some (s,want),.call f args⟩::ops) st:=by
 rw [wO] at hg;simp only [zQ,V.force_eq,Zn,St.ZB,w00] at hs
 have e0:st'=st.app d {v:= .gd gc (x.ren (wi r b)),rd:=true}:=by rw [←hs];cases d<;>rfl
 rw [e0] at h';unfold Mid at h'⊢;simp only [evR,evO,hg,zk];refine .inl ⟨{v:=x.ren (wi r b),rd:=true},?_,⟨rfl,rfl⟩,?_⟩
 ·intro hgc;obtain ⟨vs,e2,e1,e3⟩:=h hgc;subst hgc
  have hpp:Z9 ps:=by
   have:∀l:List Bool,Z9 (l.map fun p=>!true||p)->Z9 l:=by
    intro l
    induction l with
    |nil=>exact fun h=>h
    |cons a r ih=>intro h;exact ⟨by simpa using h.1,ih h.2⟩
   exact this ps hp
  simp only [w0a] at hr;obtain ⟨⟨hr1,hr2⟩,hr3⟩:=hr;have hm:r.length=m1:=w0s hr3;subst hm;simp only [w0v];refine w4.le (Q4.pure _) ?_;rw [z6E hv hpp,←e1];have hat:=z6.ren (zbs (n:=0) hr1 hr2) e2 e3 hs1 (z2a hsub) (z2e rfl);exact hat
 ·simpa using h'
end
end Go.GB
namespace Go.GB
theorem z8A {l:Nat->Lab} {w:World} {b off cap sz:Nat} {arr:Array Value} {e:TypeId} {fz:Nat×Nat} {xs:List (List T)} (hb:w.heap[b]?=some (.cells arr e fz)) (hcap:xs.length<=cap)
  (hsz:∀(i:Nat) (c:List T),xs[i]?=some c->c.length=sz) (hr:∀o,Rd l b o)
  (hx:∀(j:Nat) (x:T),xs.flatten[j]?=some x->∃v,arr[off+j]?=some v/\zR l w v x):zR l w (.slice (some ⟨b,off,none⟩) xs.length cap) (.lst xs):=by
 refine .lst _ cap sz xs b off (fun i j=>arr.toList.getD (off+(i*sz+j)) undef) hcap hsz (fun _ _ _ _ _ _=>rfl) (fun _ _ _ _ _ _=>hr _) ?_ ?_
 ·intro i j c x h1 h2;obtain ⟨v,h3,_⟩:=hx (i*sz+j) x (Ye xs hsz i j c x h1 h2);rw [cell_of_row w b _ arr e fz hb,w1e,h3];simp [h3]
 ·intro i j c x h1 h2;obtain ⟨v,h3,h4⟩:=hx (i*sz+j) x (Ye xs hsz i j c x h1 h2);simpa [h3] using h4
def LeZ (s:S) (m m':Nat) (x x':V):Prop:=∀(Λ:L) (v:Value),m<=Λ.nxt->Z7 Λ s->zy Λ v x->zy (Λ.cut m m') v x'
theorem LeZ.le {s:S} {m m':Nat} {x x':V} (hm:m<=m') (h:LeX m m' x x'):LeZ s m m' x x':=fun _ _ h1 _ h2=>h.cut hm h1 h2
theorem LeZ.gsl {s:S} {m m' k ver off len sz:Nat} {cs:List V} {ts:List T} {xs:List (List T)} (hk:m<=k) (hs:zl s.sto k=some (.gro ver cs)) (hle:off+len*sz<=cs.length) (hts:((cs.drop off).take (len*sz)).mapM V.zF=some ts) (hxs:xs.flatten=ts) (hn:xs.length=len) (hl:y6 sz xs=true):
  LeZ s m m' (.gsl k ver off len sz) (.t (.lst xs)):=by
 intro Λ v hm hr hv;subst hn;generalize hlen:xs.length=len at hv hts hle
 cases hv with
 |gsl hv hkn hn0 h=>
  have h0:Λ.frf k 0=ver:=(hr.sto k _ hs).2.1
  rcases h h0.symm with ⟨⟨a,rfl⟩,e⟩|⟨b,cap,N,rfl,hc,hcur,hN,hN2⟩
  ·rw [e] at hlen;have:xs=[]:=w0q.1 hlen;subst this;exact .t .nil
  ·obtain ⟨arr,e,h2,h3,h4⟩:=hr.QP hs hcur;obtain ⟨k1,k2⟩:=z2j _ ts hts;obtain ⟨i,hlab,_⟩:=hcur
   have hlab':(Λ.cut m m').lab b= .fix none:=by simp [L.cut,hlab];omega
   subst hlen
   refine .t (z8A (sz:=sz) (b:=b) (w:=(Λ.cut m m').w) h2 hc (Wy hl) (fun o=>by simp [Rd,hlab']) fun j x hj=>?_)
   rw [hxs] at hj;have hjl:j<ts.length:=(w02.1 hj).1;rw [←k1,w2c,List.length_drop] at hjl
   have hcj:((cs.drop off).take (xs.length*sz))[j]?=some (cs[off+j]'(by omega)):=by
    rw [w0p,w0c (by omega),w0z,w09 (by omega)]
   have hc1:=k2 j _ x hcj hj
   have harr:off+j<arr.size:=by omega
   exact ⟨arr[off+j],by simp [harr],((h4 (off+j) _ _ (by simp [harr]) (w09 (by omega))).zF hc1).cut⟩
inductive WS (s:S) (m m':Nat):List V->List V->Prop
 |nil:WS s m m' [] []
 |cons {x y:V} {xs ys:List V} (h:LeZ s m m' x y) (t:WS s m m' xs ys):WS s m m' (x::xs) (y::ys)
theorem WS.spec {s:S} {m m':Nat} {xs ys:List V} (h:WS s m m' xs ys):xs.length=ys.length/\∀(j:Nat) (c d:V),xs[j]?=some c->ys[j]?=some d->LeZ s m m' c d:=by
 induction h with
 |nil=>exact ⟨rfl,fun j c d h=>by simp at h⟩
 |cons h _ ih=>
  refine ⟨by simp [ih.1],fun j c d h1 h2=>?_⟩
  cases j with
  |zero=>simp at h1 h2;subst h1;subst h2;exact h
  |succ j=>exact ih.2 j c d (by simpa using h1) (by simpa using h2)
inductive Yw (s:S) (m m':Nat):z5->z5->Prop
 |le {o o':z5} (h:LeO m m' o o'):Yw s m m' o o'
 |cells {cs ds:List V} (h:WS s m m' cs ds):Yw s m m' (.cells cs) (.cells ds)
 |gro {r:Nat} {cs ds:List V} (h:WS s m m' cs ds):Yw s m m' (.gro r cs) (.gro r ds)
 |Ya {ns ms:List Nat} (h:∀i:Nat,(ns[i]?).getD 0=(ms[i]?).getD 0):Yw s m m' (.Ya ns) (.Ya ms)
def z7S (s:S) (m m':Nat) (e:List (Nat×V)):List (Nat×V)->Prop
 |[]=>True
 |(t,x)::r=>LeZ s m m' (look e t) x/\z7S s m m' e r
def z64 (s:S) (m m':Nat):List (Nat×z5)->Prop
 |[]=>True
 |(k,o)::r=>((k<m/\∃o',zl s.sto k=some o'/\Yw s m m' o' o)∨(m<=k/\k<m'/\o.fresh=true))/\z64 s m m' r
theorem z7S.at {s:S} {m m':Nat} {e:List (Nat×V)}:∀{e':List (Nat×V)},z7S s m m' e e'->∀t,LeZ s m m' (look e t) (look e' t)
 |[],_,t=>fun _ _ _ _ _=> .top
 |(k,x)::r,h,t=>by
  obtain ⟨h1,h2⟩:=h;by_cases e':k=t
  ·subst e';simpa [look,zl] using h1
  ·have:=z7S.at h2 t;simpa [look,zl,e'] using this
theorem z64.at {s:S} {m m':Nat}:∀{s':List (Nat×z5)},z64 s m m' s'->∀k o,zl s' k=some o->
  (k<m/\∃o',zl s.sto k=some o'/\Yw s m m' o' o)∨(m<=k/\k<m'/\o.fresh=true)
 |[],_,k,o,h=>by simp [zl] at h
 |(j,x)::r,h,k,o,hk=>by
  obtain ⟨h1,h2⟩:=h;by_cases e':j=k
  ·subst e';simp [zl] at hk;subst hk;exact h1
  ·simp only [zl,e',w0r] at hk;exact z64.at h2 k o hk
theorem Z7.QM {Λ:L} {s:S} (h:Z7 Λ s) {s':S} {m m':Nat} (hm0:m<=Λ.nxt) (hm':m<=m') (hs:z64 s m m' s'.sto):Z7 (Λ.cut m m') s':=by
 have h0:Z7 (Λ.cut m m') ⟨[],0⟩:=h.QA (s':=⟨[],0⟩) hm0 hm' trivial;refine ⟨fun k o hk=>?_,h0.inj,h0.new,h0.bnd,h0.frz,h0.wF,h0.wh,h0.z22⟩
 rcases hs.at k o hk with ⟨hkm,o',ho',hle⟩|hfr
 ·cases hle with
  |le hle=>exact (h.QA (s':=⟨[(k,o)],0⟩) hm0 hm' ⟨.inl ⟨hkm,o',ho',hle⟩,trivial⟩).sto k o (by simp [zl])
  |cells hle=>
   refine ⟨w06 hkm hm',?_⟩;obtain ⟨b,arr,e,e1,e2,e3,e4⟩:=(h.sto k _ ho').2;obtain ⟨q1,q2⟩:=hle.spec
   refine ⟨b,arr,e,yr e1 hkm,e2,by rw [e3];exact q1,fun j v d a1 a2=>?_⟩
   have hlt:j<_:=(w02.1 a2).1;rw [←q1] at hlt;have hc:=w09 hlt;exact q2 j _ d hc a2 Λ v hm0 h (e4 j v _ a1 hc)
  |gro hle=>
   refine ⟨w06 hkm hm',?_⟩;obtain ⟨g0,hr⟩:=(h.sto k _ ho').2;obtain ⟨q1,q2⟩:=hle.spec
   refine ⟨by simp [L.cut,hkm,g0],?_⟩
   rcases hr with ⟨e1,e2⟩|⟨b,arr,e,⟨i,e1,e1'⟩,e2,e3,e4⟩
   ·subst e1;have:=w0q.1 q1.symm;exact .inl ⟨this,fun b i hb=>e2 b i (Z0 hb).1⟩
   ·refine .inr ⟨b,arr,e,⟨i,wG e1 hkm,fun b' i' h'=>e1' b' i' (Z0 h').1⟩,e2,by rw [←q1];exact e3,fun j v d a1 a2=>?_⟩
    have hlt:j<_:=(w02.1 a2).1;rw [←q1] at hlt;have hc:=w09 hlt;exact q2 j _ d hc a2 Λ v hm0 h (e4 j v _ a1 hc)
  |Ya hle=>
   refine ⟨w06 hkm hm',fun i=>?_⟩;have g:=(h.sto k _ ho').2 i;show (Λ.cut m m').frf k i=_;rw [←hle i];simp only [L.cut,hkm,w0v];exact g
 ·exact (h.QA (s':=⟨[(k,o)],0⟩) hm0 hm' ⟨.inr hfr,trivial⟩).sto k o (by simp [zl])
theorem Rel.QM {C:Ctx} {Λ:L} {st:St} {a:Act} (h:Rel C Λ st a) {st':St} {m:Nat} (hm:C.Λ.nxt<=m) (hm0:m<=Λ.nxt) (hm':m<=st'.s.nxt)
  (he:z7S st.s m st'.s.nxt st.env st'.env) (hs:z64 st.s m st'.s.nxt st'.s.sto):Rel C (Λ.cut m st'.s.nxt) st' a:=
 ⟨h.kp.cut hm hm',h.size,h.defers,fun t=>he.at t Λ _ hm0 h.s (h.env t),h.s.QM hm0 hm' hs⟩
section
variable {P:Program} {n m:Nat} {R:St->Prop} {Q:YJ->St->Prop} {st:St}
theorem Sat.QM {c:zV} {st':St} (k:Nat) (h:Sat P n m c st' Q) (h1:m<=k) (h2:k<=st.s.nxt) (h3:k<=st'.s.nxt) (he:z7S st.s k st'.s.nxt st.env st'.env) (hs:z64 st.s k st'.s.nxt st'.s.sto):Sat P n m c st Q:=by
 intro code e1 e2 e3 C Λ a e4 e5 e6 e7 e8;exact h code e1 e2 e3 C (Λ.cut k st'.s.nxt) a e4 e5 e6 (e7.QM (by omega) (by omega) h3 he hs) Z
theorem Run.QM {k k':List It} {c:zV} {st st':St} (j:Nat) (hk:yf 200 k= .c c::k') (h:Run P n m R (.c c::k') st') (h1:Nat.ble m j=true) (h2:Nat.ble j st.s.nxt=true) (h3:Nat.ble j st'.s.nxt=true) (he:z7S st.s j st'.s.nxt st.env st'.env) (hs:z64 st.s j st'.s.nxt st'.s.sto):Run P n m R k st:=
 Run.adv 200 hk (by
  simp only [Run,ZY] at h⊢
  exact Sat.QM j h (w0x h1) (w0x h2) (w0x h3) he hs)
end
def gT {α:Type} (g:α->List T):α->List V:=fun x=>(g x).map V.t
theorem zeO {α:Type} (g:α->List T) (l:List α):gE (gT g) l=((l.map g).flatten).map V.t:=by
 simp only [gE,List.map_flatten,List.map_map];rfl
theorem zcU {α:Type} (g:α->List T) (l:List α):(gE (gT g) l).mapM V.zF=some (l.map g).flatten:=by
 rw [zeO];have:=z6N (fun t:T=>t) (l.map g).flatten;simpa [cE] using this
theorem zc8 {α:Type} {st:St} {sz:Nat} {y:V} {g:α->List T} {l:List α} (hy:y.zF=some (.lst (l.map g))) (hl:∀x,(g x).length=sz):z1Y st sz y=some (gE (gT g) l,l.length):=by
 unfold z1Y;rw [hy];simp only;rw [z2n hl l,zeO];simp
theorem zag {α:Type} {f:α->List V} (h:∀x,(f x).all V.Zq=true) (l:List α):(gE f l).all V.Zq=true:=by
 simp only [w0m] at h⊢;intro v hv;simp only [gE,List.mem_flatten,w1a] at hv;obtain ⟨c,⟨x,_,rfl⟩,hv⟩:=hv;exact h x v hv
theorem z4y {α:Type} (g:α->List T) (x:α):(gT g x).all V.Zq=true:=by
 simp [gT,V.Zq]
theorem yy {α:Type} {g:α->List T} {sz:Nat} (h:∀x,(g x).length=sz) (x:α):(gT g x).length=sz:=by simp [gT,h]
theorem z97 {α:Type} {f:α->List V} {sz:Nat} (h:∀x,(f x).length=sz):∀(l:List α) (i j n:Nat) (e:α),l[i]?=some e->j+n<=sz->((gE f l).drop (i*sz+j)).take n=((f e).drop j).take n
 |[],i,j,n,e,hi,_=>by simp at hi
 |x::r,0,j,n,e,hi,hj=>by
  simp at hi;subst hi;simp only [gE,w0o,w1j,Nat.zero_mul,w0t];rw [List.drop_append,List.take_append]
  have:n - ((f x).drop j).length=0:=by simp [h];omega
  rw [this];simp
 |x::r,i+1,j,n,e,hi,hj=>by
  have:=z97 h r i j n e (by simpa using hi) hj;simp only [gE,w0o,w1j] at this⊢;rw [List.drop_append]
  have e1:(f x).drop ((i+1)*sz+j)=[]:=by rw [List.drop_eq_nil_iff,h,w1d];omega
  have e2:(i+1)*sz+j - (f x).length=i*sz+j:=by rw [h,w1d];omega
  rw [e1,e2,w1y,this]
theorem z3T (a b:List V):∀(vs:List V) (o:Nat),setAt (a++b) (a.length+o) vs=a++setAt b o vs
 |[],o=>rfl
 |v::r,o=>by
  have:=z3T a (b.set o v) r (o+1);simp only [setAt];rw [List.set_append,w0d (by omega),Nat.add_sub_cancel_left,w1e,this]
theorem z3m (b:List V):∀(vs a:List V) (o:Nat),o+vs.length<=a.length->setAt (a++b) o vs=setAt a o vs++b
 |[],a,o,_=>rfl
 |v::r,a,o,h=>by
  simp only [w0b] at h;have:=z3m b r (a.set o v) (o+1) (by simp;omega);simp only [setAt];rw [List.set_append,w0c (by omega),this]
theorem zcZ {α:Type} {f:α->List V} {sz:Nat} (h:∀x,(f x).length=sz) (vs:List V):∀(l:List α) (i j:Nat) (e e':α),l[i]?=some e->j+vs.length<=sz->setAt (f e) j vs=f e'->setAt (gE f l) (i*sz+j) vs=gE f (l.set i e')
 |[],i,j,e,e',hi,_,_=>by simp at hi
 |x::r,0,j,e,e',hi,hj,he=>by
  simp at hi;subst hi;simp only [gE,w0o,w1j,Nat.zero_mul,w0t,List.set_cons_zero];rw [z3m _ _ _ _ (by rw [h];exact hj),he]
 |x::r,i+1,j,e,e',hi,hj,he=>by
  have:=zcZ h vs r i j e e' (by simpa using hi) hj he;simp only [gE,w0o,w1j,List.set_cons_succ] at this⊢
  have e2:(i+1)*sz+j=(f x).length+(i*sz+j):=by rw [h,w1d];omega
  rw [e2,z3T,this]
theorem LeZ.gE {α:Type} {s:S} {m m' k ver len sz:Nat} (g:α->List T) (l:List α) {l':List α} (hk:m<=k) (hs:zl s.sto k=some (.gro ver (gE (gT g) l'))) (hl:l=l'.take len) (hn:len<=l'.length) (hg:∀x,(g x).length=sz):
  LeZ s m m' (.gsl k ver 0 len sz) (.t (.lst (l.map g))):=by
 subst hl;have hlen:=Y7 (f:=gT g) (yy hg)
 have e1:((Go.GB.gE (gT g) l').drop 0).take (len*sz)=Go.GB.gE (gT g) (l'.take len):=by
  have hsplit:=Qo (gT g) (l'.take len) (l'.drop len);rw [List.take_append_drop] at hsplit;rw [List.drop_zero,hsplit,List.take_append]
  have e2:(Go.GB.gE (gT g) (l'.take len)).length=len*sz:=by rw [hlen,w2c,Nat.min_eq_left hn]
  rw [e2,Nat.sub_self,List.take_zero,w18,w0w (by omega)]
 refine LeZ.gsl (ts:=((l'.take len).map g).flatten) hk hs ?_ ?_ Z (by simp;omega) (z2n hg _)
 ·rw [hlen,w0t];exact w10 _ hn
 ·rw [e1];exact zcU g _
section
variable {P:Program} {n m:Nat} {R:St->Prop}
variable {draw:Bool} {all:List AO} {after:List (List Nat)} {live:List Nat} {k:List It} {b:Nat} {fl:List (Bool×Bool)} {ops:List AO} {st st':St} {d:Option Nat} {b':Nat}
theorem Mid.zeE {α:Type} (f:α->List V) (l l2:List α) {sz by_ q ver:Nat} {x y:Ar} (hx:x.u st= .gsl q ver 0 l.length sz) (hq:zl st.s.sto q=some (.gro ver (gE f l))) (hy:z1Y st sz (y.u st)=some (gE f l2,l2.length)) (hc:∀x,(f x).all V.Zq=true) (hsz:∀x,(f x).length=sz) (h1:(l.length+l2.length)*by_<=140737488355328) (h2:l.length+l2.length<=9223372036854775807)
  (hst:Yo b st d {v:= .gsl q (ver+1) 0 (l++l2).length sz,ob:=[(q,.gro (ver+1) (gE f (l++l2)))],rd:=true} (fun b' st'=>some (b',st'))=some (b',st'))
  (h':Mid P n m R draw all after live k b' ((true,true)::fl) ops st'):Mid P n m R draw all after live k b fl (⟨d,none,.app sz by_ x y⟩::ops) st:=by
 simp only [y3,w00,w04] at hst;obtain ⟨rfl,rfl⟩:=hst;refine Mid.opY Z (.zau hx hq Z (Y7 hsz l) hy (zag hc _) h1 h2) ?_;rw [w0g,Qo] at h';exact h'
theorem z8m {gc:Bool} {x:Ar} {q r o:Nat} {p:List Bool} (hx:rd gc st x=(.gpt q r o,p)):yL (x.v st)=true:=by
 unfold rd at hx;generalize x.v st=u at hx⊢
 cases u<;>simp only [V.un,w04] at hx<;>simp_all [yL]
theorem Mid.zem {α:Type} {f:α->List V} {l:List α} {e:α} {cs:List V} (i j:Nat) {sz nn:Nat} {x:Ar} {q ver o:Nat} (hx:rd true st x=(.gpt q ver o,[])) (hq:zl st.s.sto q=some (.gro ver (gE f l))) (hv:0<ver) (ho:o=i*sz+j) (hsz:∀x,(f x).length=sz) (he:l[i]?=some e) (hj:j+nn<=sz) (hc:((f e).drop j).take nn=cs) (hs:zQ st d (.agg cs) some=some st')
  (h':Mid P n m R draw all after live k b ((true,false)::fl) ops st'):Mid P n m R draw all after live k b fl (⟨d,none,.ld true nn x⟩::ops) st:=by
 refine Mid.zdV (v:= .agg cs) (ps:=[true,true]) ?_ (z8m hx) ⟨rfl,rfl,trivial⟩ hs h';have hi:i<l.length:=(w02.1 he).1
 have hle:o+nn<=(gE f l).length:=by
  rw [Y7 hsz,ho];have:(i+1)*sz<=l.length*sz:=w10 _ hi;rw [w1d] at this;omega
 simp only [zk,hx,hq,w0v];rw [w0c hle,ho,z97 hsz l i j nn e he hj,hc];simp [hv]
theorem Mid.stG {α:Type} {f:α->List V} {l:List α} {e:α} (e':α) (i j:Nat) {sz nn:Nat} {x v:Ar} {vs:List V} {q ver o:Nat} (hx:x.u st= .gpt q ver o) (hq:zl st.s.sto q=some (.gro ver (gE f l))) (hv:(v.u st).parts=some vs) (hn:Nat.beq vs.length nn=true) (hc:vs.all V.Zq=true) (ho:o=i*sz+j) (hsz:∀x,(f x).length=sz) (he:l[i]?=some e) (hj:j+nn<=sz) (hset:setAt (f e) j vs=f e')
  (hst:Yo b st d {v:= .top,ob:=[(q,.gro ver (gE f (l.set i e')))],rd:=true} (fun b' st'=>some (b',st'))=some (b',st'))
  (h':Mid P n m R draw all after live k b' ((true,true)::fl) ops st'):Mid P n m R draw all after live k b fl (⟨d,none,.st nn x v⟩::ops) st:=by
 simp only [y3,w00,w04] at hst;obtain ⟨rfl,rfl⟩:=hst;have hn':=w0s hn;have hi:i<l.length:=(w02.1 he).1
 have hle:o+nn<=(gE f l).length:=by
  rw [Y7 hsz,ho];have:(i+1)*sz<=l.length*sz:=w10 _ hi;rw [w1d] at this;omega
 refine Mid.opY Z (.stG hx hq Z hv hn' hle hc) ?_;rw [ho,zcZ hsz vs l i j e e' he (by rw [hn'];exact hj) hset];exact h'
end
theorem V.zc7 (ρ:Nat->Nat) (a b:List V):V.w7 ρ (a++b)=V.w7 ρ a++V.w7 ρ b:=by
 simp [V.y7]
theorem V.z9E {α:Type} {ρ:Nat->Nat} {f f':α->List V} (h:∀x,V.w7 ρ (f x)=f' x):∀(l:List α),V.w7 ρ (gE f l)=gE f' l
 |[]=>rfl
 |x::r=>by
  have:=V.z9E h r;simp only [gE] at this;simp only [gE,w0o,w1j,V.zc7,h,this]
theorem z5.zW {α:Type} {ρ:Nat->Nat} {f f':α->List V} (h:∀x,V.w7 ρ (f x)=f' x) (r:Nat) (l:List α):(z5.gro r (gE f l)).ren ρ= .gro r (gE f' l):=by
 simp [z5.ren,V.z9E h]
end Go.GB
namespace Go.GB.C26
open Go.GB
variable {P:Program}
section
variable {s:zH} {name:Str} {here sp:List ze} {js:List zo} {ks:List zA} {F:List (Str×Int)} {A:List Int}
theorem zae (H:Pr P) (h:Sol s name here sp js ks F A) (hjl:js.length<=1000) (f:Str):z6 P 44 [s.v,.t (.str name),.t (.lst (here.map ze.enc)),.t (.str f)] ⟨[],0⟩ {v:= .gsl 5 (ZU s.z3.length sp js ks F A f 0 s.z3.length []).length 0 (ZU s.z3.length sp js ks F A f 0 s.z3.length []).length 3,ob:=[(5,.gro (ZU s.z3.length sp js ks F A f 0 s.z3.length []).length (gE (gT ze.enc) (ZU s.z3.length sp js ks F A f 0 s.z3.length [])))],n:=6}:=by
 have h1:=h.h1;have h2:=h.hN.z5j;have h3:=h.hN.jsL;refine z6.run H.i44 H.mixed Z Z ?_;refine fR Z ?_
 refine Mid.Zt [] (z4n H h) Z Z Z Z Z (by repeat' (first |exact trivial|exact rfl|refine And.intro ?_ ?_|exact (congrArg some (z5.zD _ _ _ _ _ _)).symm|exact (congrArg some (z5.zE _ _ _)).symm|(refine (congrArg some (z5.zW ?_ _ _)).symm;intro _;rfl))) Z Z (ob':=[(2,.map false (mE sE iE F) none),(3,.cells (cE iE A)),(4,.cells (nC4 s sp js ks))]) ((by simp only [wY,z5.zD,z5.zE];rfl)) Z Z ?_
 refine fM Z ?_;refine lM Z Z Z ?_;refine fM Z ?_
 refine zu s.z3 (fun i (B:List ze)=>{env:=[(3,.t (.str f)),(9,.ptr 4 0),(10,.gsl 5 B.length 0 B.length 3),(21,.t (.int .i64 s.z3.length)),(22,.t (.int .i64 i))],s:=⟨[(2,.map false (mE sE iE F) none),(3,.cells (cE iE A)),(4,.cells (nC4 s sp js ks)),(5,.gro B.length (gE (gT ze.enc) B))],6⟩}) (fun r i B=>B.length<=i*js.length/\ZU s.z3.length sp js ks F A f 0 s.z3.length []=ZU s.z3.length sp js ks F A f i r.length B) 5 [] Z ⟨by simp,rfl⟩ rfl rfl rfl ?_ ?_
 ·rintro B ⟨_,hinv⟩;refine fR Z ?_;refine Run.zf Z Z (by simp) ?_;refine fR Z ?_
  have e:ZU s.z3.length sp js ks F A f 0 s.z3.length []=B:=by rw [hinv];rfl
  rw [e];refine Run.fin Z (z4.chg Z Z ?_ ?_)
  ·exact .le (.same Z)
  ·exact ⟨.inl ⟨w0x Z,_,rfl,.gro (.gE Z fun _=>rfl)⟩,trivial⟩
 ·rintro i x r B hi1 hi hd ⟨hl,hinv⟩ ih;have hl2:i*js.length<=2000*js.length:=w10 _ (by omega);refine fR Z ?_;refine Run.zj Z Z (by simp;omega) ?_;refine fR Z ?_;refine lM Z Z Z ?_;refine fM Z ?_
  refine zu js (fun k (C:List ze)=>{env:=[(3,.t (.str f)),(9,.ptr 4 0),(10,.gsl 5 C.length 0 C.length 3),(11,.t (.int .i64 i)),(21,.t (.int .i64 s.z3.length)),(22,.t (.int .i64 i)),(28,.t (.lst (js.map zo.enc))),(29,.t (.int .i64 js.length)),(30,.t (.int .i64 k))],s:=⟨[(2,.map false (mE sE iE F) none),(3,.cells (cE iE A)),(4,.cells (nC4 s sp js ks)),(5,.gro C.length (gE (gT ze.enc) C))],6⟩}) (fun r k C=>C.length<=i*js.length+k/\yz s.z3.length sp ks F A f i js B=yz s.z3.length sp ks F A f i r C) 6 B Z ⟨by simpa using hl,rfl⟩ rfl rfl rfl ?_ ?_
  ·rintro C ⟨hCl,hC⟩;refine fR Z ?_;refine Run.zf Z Z (by simp) ?_;refine fR Z ?_;refine aL Z Z Z Z Z ?_;refine fM Z ?_;exact zh 6 Z (ih C ⟨by rw [Nat.succ_mul];omega,by rw [hinv];simp only [w0b,ZU];rw [hC];rfl⟩) rfl rfl rfl
  ·rintro k j r' C hk1 hk hkd ⟨hCl,hC⟩ ihk;refine fR Z ?_;refine Run.zj Z Z (by simp;omega) ?_;refine fR Z ?_;refine Mid.za Z Z Z hk1 Z Z ?_;refine fM Z ?_;refine Run.cond Z Z (fun hc=>?_) (fun hc=>?_)
   ·refine fR Z ?_;refine aL Z Z Z Z Z ?_;refine fM Z ?_;have hc2:(!(j.field==f)||!(j.graph==i)||j.ext)=true:=hc;exact zh 6 Z (ihk C ⟨by omega,by rw [hC];simp only [yz];rw [w0c hc2]⟩) rfl rfl rfl
   ·have hc2:¬ (!(j.field==f)||!(j.graph==i)||j.ext)=true:=by
     intro e;rw [show (!(j.field==f)||!(j.graph==i)||j.ext)=false from hc] at e;cases e
    refine fR Z ?_
    refine Mid.yM [4,2,3] (z94 (F:=F) H h.hN j (h.hN.jsO j (zMG hk1))) Z Z Z Z zK (by repeat' (first |exact trivial|exact rfl|refine And.intro ?_ ?_|exact (congrArg some (z5.zD _ _ _ _ _ _)).symm|exact (congrArg some (z5.zE _ _ _)).symm|(refine (congrArg some (z5.zW ?_ _ _)).symm;intro _;rfl))) Z ?_
    refine fM Z ?_;refine Run.cond Z Z (fun hd'=>?_) (fun hd'=>?_)
    ·have hd2:Zh s.z3.length sp ks F A j>0:=by simpa using hd'
     refine fR Z ?_;refine Mid.call (zcl H j.Zk (h.hN.jsO j (zMG hk1)).2.2) Z Z Z Z ?_;refine fM Z ?_;refine Mid.zeE (gT ze.enc) C [(⟨(i:Int),Zh s.z3.length sp ks F A j,j.Zk⟩:ze)] Z Z (zc8 Z (fun _=>rfl)) (z4y _) (yy (fun _=>rfl)) (by first |omega|(simp;omega)|(simp;done)) (by first |omega|(simp;omega)|(simp;done)) Z ?_;refine fM Z ?_;refine aL Z Z Z Z Z ?_;refine fM Z ?_;exact zh 6 Z (ihk (C++[⟨(i:Int),Zh s.z3.length sp ks F A j,j.Zk⟩]) ⟨by simp;omega,by rw [hC];simp only [yz];rw [w0d hc2,w0c hd2]⟩) rfl rfl rfl
    ·have hd2:¬ Zh s.z3.length sp ks F A j>0:=by simpa using hd'
     refine fR Z ?_;refine aL Z Z Z Z Z ?_;refine fM Z ?_;exact zh 6 Z (ihk C ⟨by omega,by rw [hC];simp only [yz];rw [w0d hc2,w0d hd2]⟩) rfl rfl rfl
end
end Go.GB.C26
namespace Go.GB.C29
open Go.GB Go.GB.C26
variable {P:Program}
def z0K (g:Int) (t:Str) (j:zo):Bool:=(j.graph==g)&&(j.ty==t)
theorem ze8 (H:YX P) (j:zo) (g:Int) (t:Str):z6 P 71 [.agg [.t (.str j.ty),.t (.str j.field),.t (.int .i64 j.graph),.t (.bool j.ext),.t (.lst (j.req.map sE)),.t (.lst (j.Zk.map sE))],.ptr 0 0,.ptr 1 0] ⟨[(0,.cells [.t (.int .i64 g)]),(1,.cells [.t (.str t)])],2⟩ {v:= .t (.bool (z0K g t j)),rd:=true}:=by
 refine z6.run H.i71 H.mixed Z Z ?_;refine fR Z ?_;refine Run.fin Z (z4.Zy Z Z Z (by first |exact rfl|exact zK|exact zM) (.t (rfl)))
theorem z9O (H:YX P) (l:List zo) (hl:l.length<=100000) (g:Int) (t:Str):z6 P 72 [.t (.lst (l.map zo.enc)),.fn 71 [(0,0),(1,0)]] ⟨[(0,.cells [.t (.int .i64 g)]),(1,.cells [.t (.str t)])],2⟩ {v:= .t (.int .i64 (z0b (z0K g t) 0 l)),rd:=true}:=by
 refine z6.run H.i72 H.mixed Z Z ?_;refine fR Z ?_;refine lM Z Z Z ?_;refine fM Z ?_;refine zu l (fun i (_:Unit)=>{env:=[(0,.t (.lst (l.map zo.enc))),(1,.fn 71 [(0,0),(1,0)]),(7,.t (.int .i64 l.length)),(8,.t (.int .i64 i))],s:=⟨[(0,.cells [.t (.int .i64 g)]),(1,.cells [.t (.str t)])],2⟩}) (fun r i _=>z0b (z0K g t) 0 l=z0b (z0K g t) i r) 2 () Z Z Z Z Z ?_ ?_
 ·intro _ hinv;refine fR Z ?_;refine Run.zf Z Z (by simp) ?_;refine fR Z ?_;refine Run.fin Z (z4.Zy Z Z Z (by first |exact rfl|exact zK|exact zM) (.t ((by rw [hinv];rfl))))
 ·intro i x r _ h1 hi hd hinv ih;refine fR Z ?_;refine Run.zj Z Z (by simp;omega) ?_;refine fR Z ?_;refine Mid.za Z Z Z h1 Z Z ?_;refine fM Z ?_;refine Mid.z5w Z (ze8 H x g t) Z Z Z Z ?_;refine fM Z ?_;refine Run.cond Z Z (fun hc=>?_) (fun hc=>?_)
  ·refine fR Z ?_;refine Run.fin Z (z4.Zy Z Z Z (by first |exact rfl|exact zK|exact zM) (.t ((by rw [hinv];simp [z0b,hc]))))
  ·refine fR Z ?_;refine aL Z Z Z Z Z ?_;refine fM Z ?_;exact zh 2 Z (ih () (by rw [hinv];simp [z0b,hc])) Z Z Z
theorem z5Y (H:YX P) (l:List zo) (hl:l.length<=100000) (g:Int) (t:Str):z6 P 47 [.t (.lst (l.map zo.enc)),.fn 71 [(0,0),(1,0)]] ⟨[(0,.cells [.t (.int .i64 g)]),(1,.cells [.t (.str t)])],2⟩ {v:= .t (.bool (l.any (z0K g t))),rd:=true}:=by
 refine z6.run H.i47 H.mixed Z Z ?_;refine fR Z ?_;refine Mid.Wd (z9O H l hl g t) Z Z (by first |exact rfl|exact zK|exact zM) Z ?_;refine fM Z ?_;refine Run.fin Z (z4.Zy Z Z Z (by first |exact rfl|exact zK|exact zM) (.t ((by rw [←z58 (z0K g t) l 0 (by omega)]))))
theorem z3A (H:YX P) (s:zH) (hj:s.zr.length<=100000) (xs:List (List T)) (g:Int) (t:Str):z6 P 46 [.ptr 0 0,.t (.int .i64 g),.t (.str t)] ⟨[(0,.cells [.t (.lst (s.z3.map sE)),.t s.doc,.t (.lst (s.keys.map zA.enc)),.t (.lst (s.zr.map zo.enc)),.own 1 6 xs]),(1,.arr xs.length)],2⟩ {v:= .t (.bool (s.zr.any (z0K g t))),rd:=true}:=by
 refine z6.run H.i46 H.mixed Z Z ?_;refine fR Z ?_
 refine Mid.yM [2,3] (z5Y H s.zr hj g t) Z Z Z Z Z (by repeat' (first |exact trivial|exact rfl|refine And.intro ?_ ?_|exact (congrArg some (z5.zD _ _ _ _ _ _)).symm|exact (congrArg some (z5.zE _ _ _)).symm|(refine (congrArg some (z5.zW ?_ _ _)).symm;intro _;rfl))) Z ?_
 refine fM Z ?_;refine Run.fin Z (z4.Zy Z Z Z Z (.t Z))
def QV (s:zH) (t:Str) (y:ze):Bool:=!s.zr.any (z0K y.graph t)
theorem zeb (H:YX P) (s:zH) (hj:s.zr.length<=100000) (xs:List (List T)) (t:Str) (y:ze) (o4:z5) (hb:zP 5 [(0,.cells [.ptr 1 0]),(1,.cells [.t (.lst (s.z3.map sE)),.t s.doc,.t (.lst (s.keys.map zA.enc)),.t (.lst (s.zr.map zo.enc)),.own 2 6 xs]),(2,.arr xs.length),(3,.cells [.t (.str t)]),(4,o4)]=true):z6 P 45 [.agg [.t (.int .i64 y.graph),.t (.int .i64 y.depth),.t (.lst (y.Zk.map sE))],.ptr 0 0,.ptr 3 0] ⟨[(0,.cells [.ptr 1 0]),(1,.cells [.t (.lst (s.z3.map sE)),.t s.doc,.t (.lst (s.keys.map zA.enc)),.t (.lst (s.zr.map zo.enc)),.own 2 6 xs]),(2,.arr xs.length),(3,.cells [.t (.str t)]),(4,o4)],5⟩ {v:= .t (.bool (QV s t y)),rd:=true}:=by
 refine z6.run H.i45 H.mixed Z Z ?_;refine fR Z ?_
 refine Mid.yM [1,2] (z3A H s hj xs y.graph t) Z Z Z Z Z (by repeat' (first |exact trivial|exact rfl|refine And.intro ?_ ?_|exact (congrArg some (z5.zD _ _ _ _ _ _)).symm|exact (congrArg some (z5.zE _ _ _)).symm|(refine (congrArg some (z5.zW ?_ _ _)).symm;intro _;rfl))) Z ?_
 refine fM Z ?_;refine Run.fin Z (z4.Zy Z Z Z hb (.t Z))
theorem zdK (H:YX P) (s:zH) (hj:s.zr.length<=100000) (xs:List (List T)) (t:Str) (y:ze) (o4 o5:z5) (hb:zP 6 [(0,.cells [.ptr 1 0]),(1,.cells [.t (.lst (s.z3.map sE)),.t s.doc,.t (.lst (s.keys.map zA.enc)),.t (.lst (s.zr.map zo.enc)),.own 2 6 xs]),(2,.arr xs.length),(3,.cells [.t (.str t)]),(4,o4),(5,o5)]=true):z6 P 45 [.agg [.t (.int .i64 y.graph),.t (.int .i64 y.depth),.t (.lst (y.Zk.map sE))],.ptr 0 0,.ptr 3 0] ⟨[(0,.cells [.ptr 1 0]),(1,.cells [.t (.lst (s.z3.map sE)),.t s.doc,.t (.lst (s.keys.map zA.enc)),.t (.lst (s.zr.map zo.enc)),.own 2 6 xs]),(2,.arr xs.length),(3,.cells [.t (.str t)]),(4,o4),(5,o5)],6⟩ {v:= .t (.bool (QV s t y)),rd:=true}:=by
 refine z6.run H.i45 H.mixed Z Z ?_;refine fR Z ?_
 refine Mid.yM [1,2] (z3A H s hj xs y.graph t) Z Z Z Z Z (by repeat' (first |exact trivial|exact rfl|refine And.intro ?_ ?_|exact (congrArg some (z5.zD _ _ _ _ _ _)).symm|exact (congrArg some (z5.zE _ _ _)).symm|(refine (congrArg some (z5.zW ?_ _ _)).symm;intro _;rfl))) Z ?_
 refine fM Z ?_;refine Run.fin Z (z4.Zy Z Z Z hb (.t Z))
end Go.GB.C29
namespace Go.GB
section
variable {P:Program} {n m:Nat} {R:St->Prop}
variable {draw:Bool} {all:List AO} {after:List (List Nat)} {live:List Nat} {k:List It} {b:Nat} {fl:List (Bool×Bool)} {ops:List AO} {st st':St} {d:Option Nat} {b':Nat}
theorem Mid.z80 {sz q ver off len:Nat} {z:List V} {x:Ar} {cs cs':List V} (hx:x.u st= .gsl q ver off len sz) (hq:zl st.s.sto q=some (.gro ver cs)) (ho:off+len*sz<=cs.length) (hcs:setAt cs off (List.replicate len z).flatten=cs')
  (hst:Yo b st d {v:= .top,ob:=[(q,.gro ver cs')],rd:=true} (fun b' st'=>some (b',st'))=some (b',st'))
  (h':Mid P n m R draw all after live k b' ((true,true)::fl) ops st'):Mid P n m R draw all after live k b fl (⟨d,none,.nw (.zd8 sz z x)⟩::ops) st:=by
 subst hcs;simp only [y3,w00,w04] at hst;obtain ⟨rfl,rfl⟩:=hst;exact Mid.opY Z (.z80 hx hq Z ho) h'
end
theorem zq.app {m m':Nat} {a b c d:List V} (h:zq m m' a b) (k:zq m m' c d):zq m m' (a++c) (b++d):=by
 induction h with
 |nil=>exact k
 |cons h _ ih=>exact .cons h ih
theorem z3v:∀(vs cs:List V) (off:Nat),off+vs.length=cs.length->setAt cs off vs=cs.take off++vs
 |[],cs,off,h=>by simp at h;simp [setAt,h]
 |v::r,cs,off,h=>by
  simp only [setAt];simp only [w0b] at h;rw [z3v r (cs.set off v) (off+1) (by simp;omega)];apply w1v;intro i;by_cases h1:i<off
  ·rw [w0h (by simp;omega),w0h (by simp;omega),w0p,w0p,w0c (by omega),w0c h1,w1i,w0d (by omega)]
  ·by_cases h2:i=off
   ·subst h2;rw [w0h (by simp;omega),w0i (by simp;omega),w0p,w0c (by omega),w1i,w0c rfl,w0c (by omega)];simp [Nat.min_eq_left (show i<=cs.length by omega)]
   ·rw [w0i (by simp;omega),w0i (by simp;omega)];simp only [w2c,List.length_set];rw [Nat.min_eq_left (by omega),Nat.min_eq_left (by omega)]
    have:i - off=(i - (off+1))+1:=by omega
    rw [this];simp
theorem ze5 {α:Type} {f:α->List V} {sz:Nat} (h:∀x,(f x).length=sz) (l:List α) (j:Nat):(gE f l).take (j*sz)=gE f (l.take j):=by
 by_cases hj:j<=l.length
 ·have e:gE f l=gE f (l.take j)++gE f (l.drop j):=by rw [←Qo,List.take_append_drop]
  have hl:(gE f (l.take j)).length=j*sz:=by rw [Y7 h];simp [Nat.min_eq_left hj]
  rw [e,←hl,List.take_left]
 ·rw [w0w (by rw [Y7 h];exact w10 _ (by omega)),w0w (by omega)]
end Go.GB
namespace Go.GB.C29
open Go.GB Go.GB.C26
variable {P:Program}
def za6 (p:ze->Bool) (l:List ze):Int:=match l.findIdx? p with|some i=>i|none=>-1
theorem gTb (m:Nat) (A:List ze):V.bds m (gE (gT ze.enc) A)=true:=V.z5i (fun x=>by simp [gT,ze.enc,V.bds,V.bd]) A
theorem zfG (s:zH) (xs:List (List T)) (t:Str) (N:Nat) (A:List ze):zP 5 [(0,.cells [.ptr 1 0]),(1,.cells [.t (.lst (s.z3.map sE)),.t s.doc,.t (.lst (s.keys.map zA.enc)),.t (.lst (s.zr.map zo.enc)),.own 2 6 xs]),(2,.arr xs.length),(3,.cells [.t (.str t)]),(4,.gro N (gE (gT ze.enc) A))]=true:=by
 simp [zP,z5.bd,V.bds,V.bd,gTb]
theorem zaQ (H:YX P) (s:zH) (hj:s.zr.length<=100000) (xs:List (List T)) (t:Str) (l:List ze) (hl:l.length<=1000000):z6 P 68 [.gsl 4 l.length 0 l.length 3,.fn 45 [(0,0),(3,0)]] ⟨[(0,.cells [.ptr 1 0]),(1,.cells [.t (.lst (s.z3.map sE)),.t s.doc,.t (.lst (s.keys.map zA.enc)),.t (.lst (s.zr.map zo.enc)),.own 2 6 xs]),(2,.arr xs.length),(3,.cells [.t (.str t)]),(4,.gro l.length (gE (gT ze.enc) l))],5⟩ {v:= .t (.int .i64 (za6 (QV s t) l)),rd:=true}:=by
 have hb:=zfG s xs t l.length l;refine z6.run H.i68 H.mixed Z Z ?_;refine fR Z ?_;refine pu Z ?_;refine fM Z ?_;refine zu l (fun i (_:Unit)=>{env:=[(0,.gsl 4 l.length 0 l.length 3),(1,.fn 45 [(0,0),(3,0)]),(7,.t (.int .i64 l.length)),(8,.t (.int .i64 i))],s:=⟨[(0,.cells [.ptr 1 0]),(1,.cells [.t (.lst (s.z3.map sE)),.t s.doc,.t (.lst (s.keys.map zA.enc)),.t (.lst (s.zr.map zo.enc)),.own 2 6 xs]),(2,.arr xs.length),(3,.cells [.t (.str t)]),(4,.gro l.length (gE (gT ze.enc) l))],5⟩}) (fun r i _=>l.findIdx? (QV s t)=((l.drop i).findIdx? (QV s t)).map (· +i)) 5 () Z (by simp) Z Z Z ?_ ?_
 ·intro _ hinv;rw [List.drop_length] at hinv;simp only [List.findIdx?_nil,w2h] at hinv
  have e:za6 (QV s t) l=-1:=by simp only [za6,hinv]
  rw [e];refine fR Z ?_;refine Run.zf Z Z (by simp) ?_;refine fR Z ?_;refine Run.fin Z (z4.Zy Z Z Z hb (.t Z))
 ·intro i x r _ h1 hi hd hinv ih
  have hdr:l.drop i=x::l.drop (i+1):=by
   obtain ⟨h2,rfl⟩:=w02.1 h1;exact w1k h2
  rw [hdr,w27] at hinv;refine fR Z ?_;refine Run.zj Z Z (by simp;omega) ?_;refine fR Z ?_;refine pu Z ?_;refine Mid.zem (i) 0 (sz:=3) Z Z (by omega) (by omega) (yy (fun _=>rfl)) (h1) (by decide) Z Z ?_;skip;refine Mid.z5w Z (zeb H s hj xs t x _ hb) Z Z hb Z ?_;refine fM Z ?_;by_cases hc:QV s t x=true
  ·rw [w0c hc] at hinv
   have e:za6 (QV s t) l=i:=by simp [za6,hinv]
   rw [e];refine Run.zj Z Z hc ?_;refine fR Z ?_;refine Run.fin Z (z4.Zy Z Z Z hb (.t Z))
  ·rw [w0d hc] at hinv;refine Run.zf Z Z (by simpa using hc) ?_;refine fR Z ?_;refine aL Z Z Z Z Z ?_;refine fM Z ?_;exact zh 5 Z (ih () (by rw [hinv,Option.map_map];congr 1;funext y;simp;omega)) Z Z Z
end Go.GB.C29
namespace Go.GB.C29
open Go.GB Go.GB.C26
variable {P:Program}
def yl (s:zH) (t:Str) (l:List ze):List ze:=l.filter fun y=>!QV s t y
def zS:ze:=⟨0,0,[]⟩
theorem z7e {m m':Nat}:∀k:Nat,zq m m' (List.replicate k [V.t (.int .i64 0),V.t (.int .i64 0),V.zJ]).flatten (gE (gT ze.enc) (List.replicate k zS))
 |0=> .nil
 |k+1=>by
  have ih:=z7e (m:=m) (m':=m') k;simp only [List.replicate_succ,w1j,gE,w0o] at ih⊢;exact .cons .t (.cons .t (.cons .Zb ih))
theorem zgJ (s:zH) (xs:List (List T)) (t:Str) (N:Nat) (A:List ze) (x:ze):zP 6 [(0,.cells [.ptr 1 0]),(1,.cells [.t (.lst (s.z3.map sE)),.t s.doc,.t (.lst (s.keys.map zA.enc)),.t (.lst (s.zr.map zo.enc)),.own 2 6 xs]),(2,.arr xs.length),(3,.cells [.t (.str t)]),(4,.gro N (gE (gT ze.enc) A)),(5,.cells [.t (.int .i64 x.graph),.t (.int .i64 x.depth),.t (.lst (x.Zk.map sE))])]=true:=by
 simp [zP,z5.bd,V.bds,V.bd,gTb]
structure z6L (s:zH) (t:Str) (l:List ze) (i:Nat) (A:List ze) (j:Nat):Prop where
 len:A.length=l.length
 tk:A.take j=yl s t (l.take i)
 dr:A.drop i=l.drop i
 ji:j<i
 jl:j=(yl s t (l.take i)).length
theorem z6L.skip {s:zH} {t:Str} {l A:List ze} {i j:Nat} {x:ze} (h:z6L s t l i A j) (hx:l[i]?=some x) (hb:QV s t x=true):z6L s t l (i+1) A j:=by
 have e:yl s t (l.take (i+1))=yl s t (l.take i):=by
  rw [w11,hx];simp [yl,hb]
 refine ⟨h.len,by rw [e,h.tk],?_,by have:=h.ji;omega,by rw [e];exact h.jl⟩
 have:=congrArg (List.drop 1) h.dr;simpa [w25] using this
theorem z6L.yq {s:zH} {t:Str} {l A:List ze} {i j:Nat} {x:ze} (h:z6L s t l i A j) (hx:l[i]?=some x) (hb:QV s t x=false):z6L s t l (i+1) (A.set j x) (j+1):=by
 have hil:=(w02.1 hx).1;have hji:=h.ji;have hAl:=h.len
 have e:yl s t (l.take (i+1))=yl s t (l.take i)++[x]:=by
  rw [w11,hx];simp [yl,hb]
 refine ⟨by simp [h.len],?_,?_,by omega,by rw [e,w0g,←h.jl];rfl⟩
 ·rw [e,←h.tk,w11,List.take_set_of_le (w07 _),w2f (by omega)];rfl
 ·rw [List.drop_set_of_lt (by omega)];have:=congrArg (List.drop 1) h.dr;simpa [w25] using this
theorem zas (H:YX P) (s:zH) (hj:s.zr.length<=100000) (xs:List (List T)) (t:Str) (l:List ze) (hl:l.length<=1000000):z6 P 43 [.gsl 4 l.length 0 l.length 3,.fn 45 [(0,0),(3,0)]] ⟨[(0,.cells [.ptr 1 0]),(1,.cells [.t (.lst (s.z3.map sE)),.t s.doc,.t (.lst (s.keys.map zA.enc)),.t (.lst (s.zr.map zo.enc)),.own 2 6 xs]),(2,.arr xs.length),(3,.cells [.t (.str t)]),(4,.gro l.length (gE (gT ze.enc) l))],5⟩ {v:= .gsl 4 l.length 0 (yl s t l).length 3,ob:=[(4,.gro l.length (gE (gT ze.enc) (yl s t l++List.replicate (l.length - (yl s t l).length) zS)))],n:=0,rd:=true}:=by
 have hb:=zfG s xs t l.length l;have hgl:(yl s t l).length<=l.length:=w1z _ _;have hi:=zaQ H s hj xs t l hl;unfold za6 at hi
 cases hx:l.findIdx? (QV s t) with
 |none=>
  rw [hx] at hi
  have e:yl s t l=l:=by
   refine List.filter_eq_self.2 fun y hy=>?_;have:=List.findIdx?_eq_none_iff.1 hx y hy;simp [this]
  rw [e,Nat.sub_self];refine z6.run H.i43 H.mixed Z Z ?_;refine fR Z ?_;refine Mid.Wd (hi) Z Z hb Z ?_;refine fM Z ?_;refine Run.zj Z Z Z ?_;refine fR Z ?_;refine Run.fin Z (z4.chg Z Z ?_ ?_)
  ·exact .le (.same Z)
  ·refine ⟨.inl ⟨w0x Z,_,rfl,.cells (.same Z)⟩,.inl ⟨w0x Z,_,rfl,.cells (.same Z)⟩,.inl ⟨w0x Z,_,rfl,.arr Z⟩,.inl ⟨w0x Z,_,rfl,.cells (.same Z)⟩,.inl ⟨w0x Z,_,rfl,.gro (.gE (by simp) fun _=>rfl)⟩,trivial⟩
 |some k=>
  rw [hx] at hi;obtain ⟨hk,hk2,hk3⟩:=w26.1 hx;have hx0:l[k]?=some l[k]:=w09 hk
  have g0:yl s t (l.take k)=l.take k:=by
   refine List.filter_eq_self.2 fun y hy=>?_;obtain ⟨j,hj1,hj2⟩:=List.getElem_of_mem hy;rw [w2c] at hj1;have:=hk3 j (by omega);rw [List.getElem_take] at hj2;rw [hj2] at this;simpa using this
  have hD0:z6L s t l (k+1) l k:=by
   have e:yl s t (l.take (k+1))=l.take k:=by
    rw [w11,hx0];simp only [yl,List.filter_append] at g0⊢;rw [g0];simp [hk2]
   exact ⟨rfl,e.symm,rfl,by omega,by rw [e];simp;omega⟩
  refine z6.run H.i43 H.mixed Z Z ?_;refine fR Z ?_;refine Mid.Wd (hi) Z Z hb Z ?_;refine fM Z ?_;refine Run.zf Z Z (by simp) ?_;refine fR Z ?_;refine aL Z Z Z Z Z ?_;refine fM Z ?_;refine zu (l.drop (k+1)) (fun i (B:List ze×Nat)=>{env:=[(0,.gsl 4 l.length 0 l.length 3),(1,.fn 45 [(0,0),(3,0)]),(5,.t (.int .i64 B.2)),(6,.t (.int .i64 (k+1+i:Nat)))],s:=⟨[(0,.cells [.ptr 1 0]),(1,.cells [.t (.lst (s.z3.map sE)),.t s.doc,.t (.lst (s.keys.map zA.enc)),.t (.lst (s.zr.map zo.enc)),.own 2 6 xs]),(2,.arr xs.length),(3,.cells [.t (.str t)]),(4,.gro l.length (gE (gT ze.enc) B.1))],5⟩}) (fun r i B=>z6L s t l (k+1+i) B.1 B.2) 5 (l,k) Z hD0 Z Z Z ?_ ?_
  ·rintro ⟨A,j⟩ hinv;dsimp only at hinv;dsimp only
   have hlen:k+1+(l.drop (k+1)).length=l.length:=by simp;omega
   have hdl:(l.drop (k+1)).length=l.length - (k+1):=by simp
   rw [hlen] at hinv;have hji:=hinv.ji;have hAl:=hinv.len;have htk:=hinv.tk;have hjl:=hinv.jl;rw [w1f] at htk hjl;have hz:∀x:ze,(gT ze.enc x).length=3:=yy (fun _=>rfl);refine fR Z ?_;refine pu Z ?_;refine fM Z ?_;refine Run.zf Z Z (by simp;omega) ?_;refine fR Z ?_;refine pu Z ?_;refine Mid.z80 (cs':=gE (gT ze.enc) (A.take j)++(List.replicate (l.length - j) [V.t (.int .i64 0),V.t (.int .i64 0),V.zJ]).flatten) Z Z ?_ ?_ Z ?_
   ·rw [Y7 hz];simp;omega
   ·simp only [Int.toNat_natCast,w0t];rw [z3v _ _ _ (by rw [Y7 hz];simp;omega),ze5 hz]
   refine fM Z ?_;refine pu Z ?_;refine fM Z ?_;refine Run.fin Z (z4.chg Z Z ?_ ?_)
   ·exact .le (.QD Z (by simp) (by simp [hjl]) (w0x Z))
   ·refine ⟨.inl ⟨w0x Z,_,rfl,.cells (.same Z)⟩,.inl ⟨w0x Z,_,rfl,.cells (.same Z)⟩,.inl ⟨w0x Z,_,rfl,.arr Z⟩,.inl ⟨w0x Z,_,rfl,.cells (.same Z)⟩,.inl ⟨w0x Z,_,rfl,.gro (by rw [Qo,htk,←hjl];exact .app (.gE rfl fun _=>rfl) (z7e _))⟩,trivial⟩
  ·rintro i x r ⟨A,j⟩ h1 hi' hd hinv ih;dsimp only at hinv;dsimp only;rw [w0z] at h1;have hlt:=(w02.1 h1).1;have hji:=hinv.ji;have hAl:=hinv.len
   have hA1:A[k+1+i]?=some x:=by
    have:=congrArg (fun z=>z[0]?) hinv.dr;simpa [h1] using this
   have hAj:A[j]?=some A[j]:=w09 (by omega);refine fR Z ?_;refine pu Z ?_;refine fM Z ?_;refine Run.zj Z Z (by simp;omega) ?_;refine fR Z ?_;refine pu Z ?_;refine Mid.zem ((k+1+i)) 0 (sz:=3) Z Z (by omega) (by omega) (yy (fun _=>rfl)) (hA1) (by decide) Z Z ?_;refine fM Z ?_;refine Mid.z5w Z (zdK H s hj xs t x _ _ (zgJ s xs t l.length A x)) Z Z (zgJ s xs t l.length A x) Z ?_;refine fM Z ?_
   cases hbx:QV s t x with
   |true=>
    refine Run.zf Z Z Z ?_;refine fR Z ?_;refine aL Z Z Z Z Z ?_;refine fM Z ?_;exact zh 5 Z (ih (A,j) (hinv.skip h1 hbx)) Z Z Z
   |false=>
    refine Run.zj Z Z Z ?_;refine fR Z ?_;refine pu Z ?_;refine Mid.stG (x) (j) 0 (sz:=3) Z Z Z Z Z (by omega) (yy (fun _=>rfl)) (hAj) (by decide) Z Z ?_;refine fM Z ?_;refine aL Z Z Z Z Z ?_;refine fM Z ?_;refine aL Z Z Z Z Z ?_;refine fM Z ?_;exact zh 5 Z (ih (A.set j x,j+1) (hinv.yq h1 hbx)) Z Z Z
end Go.GB.C29
namespace Go.GB.C29
open Go.GB Go.GB.C26
variable {P:Program}
structure Place where
 parent:Int
 hop:Hop
 ty:Str
 zX:List ze
 z7:List zg
def Place.enc (p:Place):List T:=[.int .i64 p.parent,.str p.hop.on,.str p.hop.key,.str p.ty,.lst (p.zX.map ze.enc),.lst (p.z7.map zg.enc)]
def Place.v (p:Place):V:= .agg [.t (.int .i64 p.parent),.t (.str p.hop.on),.t (.str p.hop.key),.t (.str p.ty),.t (.lst (p.zX.map ze.enc)),.t (.lst (p.z7.map zg.enc))]
structure Env (s:zH) (ds:List Def) (G:List ze->Prop) (Ch:Str->List ze->Str->List ze):Prop where
 doc:s.doc= .lst (ds.map Def.enc)
 z6T:Z6 ds
 js:s.zr.length<=100000
 ok:∀ty here f,G here->∃sp js ks F A,Sol s ty here sp js ks F A/\js.length<=1000/\ZU s.z3.length sp js ks F A f 0 s.z3.length []=Ch ty here f
 cl:∀ty here f t,G here->G (yl s t (Ch ty here f))
 len:∀ty here f,G here->(Ch ty here f).length<=1000000
section
variable {s:zH} {ds:List Def} {G:List ze->Prop} {Ch:Str->List ze->Str->List ze}
variable (s) (ds) (Ch) in
def W5:Nat->Place->List Place->List Place
 |0,_,out=>out
 |k+1,p,out=>p.z7.foldl (fun o x=>(C11.Y3 ds x.ty.name).foldl (fun o t=>if (onF x.z7 t).isEmpty then o else W5 k ⟨out.length,⟨p.ty,x.key⟩,t,yl s t (Ch p.ty p.zX x.name),onF x.z7 t⟩ o) o) (out++[p])
theorem ym {α β:Type} {f:List β->α->List β} (h:∀o x,o.length<=(f o x).length):∀(l:List α) (o:List β),o.length<=(l.foldl f o).length
 |[],o=>w07 _
 |x::r,o=>w0u (h o x) (ym h r _)
theorem Qv:∀(k:Nat) (p:Place) (o:List Place),o.length<=(W5 s ds Ch k p o).length
 |0,p,o=>w07 _
 |k+1,p,o=>by
  simp only [W5];refine w0u (by simp) (ym (fun o x=>ym (fun o t=>?_) _ _) _ (o++[p]));split
  ·exact w07 _
  ·exact Qv k _ _
abbrev stepT (s:zH) (ds:List Def) (Ch:Str->List ze->Str->List ze) (k:Nat) (p:Place) (n:Nat) (x:zg) (o:List Place) (t:Str):List Place:=
 if (onF x.z7 t).isEmpty then o else W5 s ds Ch k ⟨n,⟨p.ty,x.key⟩,t,yl s t (Ch p.ty p.zX x.name),onF x.z7 t⟩ o
abbrev yc (s:zH) (ds:List Def) (Ch:Str->List ze->Str->List ze) (k:Nat) (p:Place) (n:Nat) (o:List Place) (x:zg):List Place:=(C11.Y3 ds x.ty.name).foldl (stepT s ds Ch k p n x) o
theorem z09 (k:Nat) (p:Place) (n:Nat) (x:zg) (o:List Place) (t:Str):o.length<=(stepT s ds Ch k p n x o t).length:=by
 unfold stepT;split
 ·exact w07 _
 ·exact Qv k _ _
theorem qc (k:Nat) (p:Place) (n:Nat) (o:List Place) (x:zg):o.length<=(yc s ds Ch k p n o x).length:=ym (fun o t=>z09 k p n x o t) _ _
theorem Wr (k:Nat) (p:Place) (o:List Place):W5 s ds Ch (k+1) p o=p.z7.foldl (yc s ds Ch k p o.length) (o++[p]):=rfl
structure zgx (G:List ze->Prop) (p:Place):Prop where
 pk:∀x,x∈p.z7->x.Ok
 pl:p.z7.length*160<=140737488355328
 g:G p.zX
theorem z4X {l:List zg} {t:Str} {x:zg} (h:x∈onF l t):x∈l:=(w2a.1 h).1
theorem z62 (l:List zg) (t:Str):(onF l t).length<=l.length:=w1z _ _
theorem Q6 (f:zg->Bool):∀l:List zg,zg.Zm (l.filter f)<=zg.Zm l
 |[]=>w07 _
 |x::r=>by
  have ih:=Q6 f r;simp only [w20];split
  ·simp only [zg.Zm];omega
  ·simp only [zg.Zm];omega
theorem z2h:∀{l:List zg} {x:zg},x∈l->x.cnt<=zg.Zm l
 |y::r,x,h=>by
  simp only [zg.Zm]
  rcases w17.1 h with rfl|h
  ·omega
  ·have:=z2h h;omega
theorem Q5 (t:Def) (nm:Str):∀(r pre:List Def),(C11.YU t nm pre r).length<=r.length
 |[],_=>by simp [C11.YU]
 |o::r,pre=>by
  have ih:=Q5 t nm r (pre++[o]);simp only [C11.YU];split
  ·simp;omega
  ·simp;omega
theorem qO (ds:List Def) (nm:Str):(C11.Y3 ds nm).length<=ds.length:=by
 unfold C11.Y3;split
 ·simp
 ·exact Q5 _ _ _ _
def zeU (P:Program) (s:zH) (ds:List Def) (G:List ze->Prop) (Ch:Str->List ze->Str->List ze) (k:Nat):Prop:=
 ∀(p:Place) (o:List Place),zgx G p->zg.Zm p.z7<k->(W5 s ds Ch k p o).length<=1000000->
  z6 P 25 [.ptr 0 0,p.v] ⟨[(0,.cells [.t (.lst (s.z3.map sE)),.t s.doc,.t (.lst (s.keys.map zA.enc)),.t (.lst (s.zr.map zo.enc)),.own 1 6 (o.map Place.enc)]),(1,.arr o.length)],2⟩ {v:= .tup [],ob:=[(0,.cells [.t (.lst (s.z3.map sE)),.t s.doc,.t (.lst (s.keys.map zA.enc)),.t (.lst (s.zr.map zo.enc)),.own 1 6 ((W5 s ds Ch k p o).map Place.enc)]),(1,.arr (W5 s ds Ch k p o).length)],n:=0,rd:=true}
theorem zbP (H:YX P) (E:Env s ds G Ch) (k:Nat) (hrec:zeU P s ds G Ch k):zeU P s ds G Ch (k+1):=by
 intro p o hp hc hl;have hpl:=hp.pl;rw [Wr] at hl⊢;have hl0:=ym (f:=yc s ds Ch k p o.length) (fun o' x=>qc k p o.length o' x) p.z7 (o++[p]);generalize hfin:p.z7.foldl (yc s ds Ch k p o.length) (o++[p])=fin at hl hl0⊢
 have hol:o.length<=1000000:=by simp at hl0;omega
 refine z6.run H.i25 H.mixed Z Z ?_;refine fR Z ?_;refine lM Z Z Z ?_;refine fM Z ?_;refine apM Place.enc o [p] Z Z Z Z Z ?_ (h1:=by first |omega|(simp;omega)|(simp;done)) (h2:=by first |omega|(simp;omega)|(simp;done));refine fM rfl ?_;refine lM rfl rfl rfl ?_;refine fM rfl ?_;refine zu p.z7 (fun i (B:List Place)=>{env:=[(2,.ptr 2 0),(3,.ptr 3 0),(4,.t (.int .i64 o.length)),(27,.t (.lst (p.z7.map zg.enc))),(28,.t (.int .i64 p.z7.length)),(29,.t (.int .i64 i))],s:=⟨[(0,.cells [.t (.lst (s.z3.map sE)),.t s.doc,.t (.lst (s.keys.map zA.enc)),.t (.lst (s.zr.map zo.enc)),.own 1 6 (B.map Place.enc)]),(1,.arr B.length),(2,.cells [.ptr 0 0]),(3,.cells [.t (.int .i64 p.parent),.t (.str p.hop.on),.t (.str p.hop.key),.t (.str p.ty),.t (.lst (p.zX.map ze.enc)),.t (.lst (p.z7.map zg.enc))])],4⟩}) (fun r i B=>r.foldl (yc s ds Ch k p o.length) B=fin) 4 (o++[p]) rfl hfin rfl rfl rfl ?_ ?_
 ·intro B hB;simp only [List.foldl_nil] at hB;subst hB;refine fR Z ?_;refine Run.zf Z Z (by simp) ?_;skip;refine Run.fin Z (z4.chg Z Z ?_ ?_)
  ·exact .tup .nil
  ·exact ⟨.inl ⟨w0x Z,_,rfl,.cells (.same Z)⟩,.inl ⟨w0x Z,_,rfl,.arr Z⟩,trivial⟩
 ·intro i x r B h1 hi hd hB ih;have hxk:=hp.pk x (zMG h1)
  have hcx:zg.Zm x.z7<k:=by
   have:=z2h (zMG h1);rw [zg.z06] at this;omega
  have hposs:z6 P 34 [.agg [.t s.doc],.t (.str x.ty.name)] ⟨[],0⟩ {v:= .t (.lst ((C11.Y3 ds x.ty.name).map Go.GB.sE))}:=by
   rw [E.doc];exact C11.z6f H.p11 ds E.z6T x.ty.name
  simp only [w1t] at hB;have hgr:=ym (f:=yc s ds Ch k p o.length) (fun o' x=>qc k p o.length o' x) r (yc s ds Ch k p o.length B x);rw [hB] at hgr;generalize hX:yc s ds Ch k p o.length B x=X at hB hgr;unfold yc at hX;have hts:=qO ds x.ty.name;have hdl0:=E.z6T.l;generalize C11.Y3 ds x.ty.name=ts at hposs hX hts;refine fR Z ?_;refine Run.zj Z Z (by simp;omega) ?_;refine fR Z ?_;refine Mid.Z2 (zg.zx x) Z Z Z h1 Z Z ?_;refine fM Z ?_;refine Mid.call (hposs) Z Z Z Z ?_;refine lM Z Z Z ?_;refine fM Z ?_;refine zu ts (fun j (C:List Place)=>{env:=[(2,.ptr 2 0),(3,.ptr 3 0),(4,.t (.int .i64 o.length)),(6,.ptr 4 0),(27,.t (.lst (p.z7.map zg.enc))),(28,.t (.int .i64 p.z7.length)),(29,.t (.int .i64 i)),(41,.t (.lst (ts.map Go.GB.sE))),(42,.t (.int .i64 ts.length)),(43,.t (.int .i64 j))],s:=⟨[(0,.cells [.t (.lst (s.z3.map sE)),.t s.doc,.t (.lst (s.keys.map zA.enc)),.t (.lst (s.zr.map zo.enc)),.own 1 6 (C.map Place.enc)]),(1,.arr C.length),(2,.cells [.ptr 0 0]),(3,.cells [.t (.int .i64 p.parent),.t (.str p.hop.on),.t (.str p.hop.key),.t (.str p.ty),.t (.lst (p.zX.map ze.enc)),.t (.lst (p.z7.map zg.enc))]),(4,(XBo x))],5⟩}) (fun r j C=>r.foldl (stepT s ds Ch k p o.length x) C=X) 5 B Z hX Z Z Z ?_ ?_
  ·intro C hC;simp only [List.foldl_nil] at hC;subst hC;refine fR Z ?_;refine Run.zf Z Z (by simp) ?_;refine fR Z ?_;refine aL Z Z Z Z Z ?_;refine fM Z ?_;exact zh 4 Z (ih C hB) Z Z Z
  ·intro j t r2 C k1 hj kd hC ih2;simp only [w1t] at hC;have hgr2:=ym (f:=stepT s ds Ch k p o.length x) (fun o' t=>z09 k p o.length x o' t) r2 (stepT s ds Ch k p o.length x C t);rw [hC] at hgr2;have hof:=zgk H x.z7 hxk.pl hxk.p t;refine fR Z ?_;refine Run.zj Z Z (by simp;omega) ?_;refine fR Z ?_;refine Mid.za Z Z Z k1 Z Z ?_;refine fM Z ?_;refine Mid.call (hof) Z Z Z Z ?_;refine fM Z ?_;refine lM Z Z Z ?_;refine fM Z ?_;by_cases hemp:(onF x.z7 t).isEmpty=true
   ·rw [show stepT s ds Ch k p o.length x C t=C from w0c hemp] at hC;refine Run.zj Z Z (by simpa [List.isEmpty_iff] using hemp) ?_;refine fR Z ?_;refine aL Z Z Z Z Z ?_;refine fM Z ?_;exact zh 5 Z (ih2 C hC) Z Z Z
   ·rw [show stepT s ds Ch k p o.length x C t=W5 s ds Ch k ⟨o.length,⟨p.ty,x.key⟩,t,yl s t (Ch p.ty p.zX x.name),onF x.z7 t⟩ C from w0d hemp] at hC hgr2;refine Run.zf Z Z (by simpa [List.isEmpty_iff] using hemp) ?_;refine fR Z ?_;obtain ⟨sp,js,ks,F,A,hS,hjl,hCh⟩:=E.ok p.ty p.zX x.name hp.g;have hc1:=zae H.p26 hS hjl x.name;rw [hCh] at hc1;have hcl:=E.len p.ty p.zX x.name hp.g;have hG:=E.cl p.ty p.zX x.name t hp.g;have hgrC:=Qv (s:=s) (ds:=ds) (Ch:=Ch) k ⟨o.length,⟨p.ty,x.key⟩,t,yl s t (Ch p.ty p.zX x.name),onF x.z7 t⟩ C
    have hadd:=hrec ⟨o.length,⟨p.ty,x.key⟩,t,yl s t (Ch p.ty p.zX x.name),onF x.z7 t⟩ C ⟨fun y hy=>hxk.p y (z4X hy),by have:=z62 x.z7 t;have:=hxk.pl;dsimp only;omega,hG⟩ (by dsimp only;have:=Q6 (fun p=>p.on==t) x.z7;unfold onF;omega) (by omega)
    generalize W5 s ds Ch k ⟨o.length,⟨p.ty,x.key⟩,t,yl s t (Ch p.ty p.zX x.name),onF x.z7 t⟩ C=C2 at hadd hC hgr2 hgrC;unfold Place.v at hadd;dsimp only at hadd;generalize Ch p.ty p.zX x.name=c at hc1 hcl hadd;have hdl:=zas H s E.js (C.map Place.enc) t c hcl;rw [w1g] at hdl;have hb5:=zfG s (C.map Place.enc) t c.length c;rw [w1g] at hb5
    refine Mid.Zt [] (hc1) Z Z Z Z Z (by repeat' (first |exact trivial|exact rfl|refine And.intro ?_ ?_|exact (congrArg some (z5.zD _ _ _ _ _ _)).symm|exact (congrArg some (z5.zE _ _ _)).symm|(refine (congrArg some (z5.zW ?_ _ _)).symm;intro _;rfl))) Z Z (ob':=[(11,.gro c.length (gE (gT ze.enc) c))]) ((by simp only [wY,z5.zW (f:=gT ze.enc) (f':=gT ze.enc) (fun _=>rfl)];rfl)) Z Z ?_
    refine fM Z ?_
    refine Mid.Zt [2,0,1,5,11] (hdl) Z Z Z Z hb5 (by repeat' (first |exact trivial|exact rfl|refine And.intro ?_ ?_|exact (congrArg some (z5.zD _ _ _ _ _ _)).symm|exact (congrArg some (z5.zE _ _ _)).symm|(refine (congrArg some (z5.zW ?_ _ _)).symm;intro _;rfl))) Z Z (ob':=[(11,.gro c.length (gE (gT ze.enc) (yl s t c++List.replicate (c.length - (yl s t c).length) zS)))]) ((by simp only [wY,z5.zW (f:=gT ze.enc) (f':=gT ze.enc) (fun _=>rfl)];rfl)) Z Z ?_
    refine Mid.W3 (f:=2) Z (by (repeat' (first |exact trivial|exact w0j _|exact yY _|exact yX _|exact grd3 _ _|exact yZ _ _|refine And.intro ?_ ?_|exact rfl|(simp;done)|(simp<;>omega)));done) ?_
    refine Run.QM 6 Z (st':={env:=[(2,.ptr 2 0),(3,.ptr 3 0),(4,.t (.int .i64 o.length)),(6,.ptr 4 0),(8,.ptr 5 0),(9,.t (.lst ((onF x.z7 t).map zg.enc))),(10,.t (.lst ((yl s t c).map ze.enc))),(27,.t (.lst (p.z7.map zg.enc))),(28,.t (.int .i64 p.z7.length)),(29,.t (.int .i64 i)),(41,.t (.lst (ts.map Go.GB.sE))),(42,.t (.int .i64 ts.length)),(43,.t (.int .i64 j))],s:=⟨[(0,.cells [.t (.lst (s.z3.map sE)),.t s.doc,.t (.lst (s.keys.map zA.enc)),.t (.lst (s.zr.map zo.enc)),.own 1 6 (C.map Place.enc)]),(1,.arr C.length),(2,.cells [.ptr 0 0]),(3,.cells [.t (.int .i64 p.parent),.t (.str p.hop.on),.t (.str p.hop.key),.t (.str p.ty),.t (.lst (p.zX.map ze.enc)),.t (.lst (p.z7.map zg.enc))]),(4,(XBo x)),(5,.cells [.t (.str t)])],6⟩}) ?_ Z Z Z (by repeat' (first |exact trivial|exact LeZ.le (w0x rfl) (by first |exact LeX.t|exact LeX.top|exact LeX.same rfl|exact LeX.Zc|exact LeX.Zb|exact LeX.fowT|exact LeX.tEq (by simp))|exact LeZ.gE _ _ (w0x rfl) rfl (by first |exact w1f.symm|exact (w0w (by simp)).symm|simp) (by simp) (fun _=>rfl)|exact Or.inr ⟨w0x rfl,w0x rfl,rfl⟩|refine Or.inl ⟨w0x rfl,_,rfl,?_⟩|refine Yw.cells ?_|exact Yw.le (LeO.arr (by first |rfl|simp))|exact Yw.le (LeO.cE (by first |rfl|simp))|exact Yw.le (LeO.mE (by first |rfl|simp) (by first |exact Or.inl rfl|exact Or.inr rfl))|refine WS.cons ?_ ?_|exact WS.nil|refine And.intro ?_ ?_)) (by repeat' (first |exact trivial|exact LeZ.le (w0x rfl) (by first |exact LeX.t|exact LeX.top|exact LeX.same rfl|exact LeX.Zc|exact LeX.Zb|exact LeX.fowT|exact LeX.tEq (by simp))|exact LeZ.gE _ _ (w0x rfl) rfl (by first |exact w1f.symm|exact (w0w (by simp)).symm|simp) (by simp) (fun _=>rfl)|exact Or.inr ⟨w0x rfl,w0x rfl,rfl⟩|refine Or.inl ⟨w0x rfl,_,rfl,?_⟩|refine Yw.cells ?_|exact Yw.le (LeO.arr (by first |rfl|simp))|exact Yw.le (LeO.cE (by first |rfl|simp))|exact Yw.le (LeO.mE (by first |rfl|simp) (by first |exact Or.inl rfl|exact Or.inr rfl))|refine WS.cons ?_ ?_|exact WS.nil|refine And.intro ?_ ?_))
    refine fR Z ?_
    refine Mid.Zt [0,1] (hadd) Z Z Z Z Z (by repeat' (first |exact trivial|exact rfl|refine And.intro ?_ ?_|exact (congrArg some (z5.zD _ _ _ _ _ _)).symm|exact (congrArg some (z5.zE _ _ _)).symm|(refine (congrArg some (z5.zW ?_ _ _)).symm;intro _;rfl))) Z Z (ob':=[(0,.cells [.t (.lst (s.z3.map sE)),.t s.doc,.t (.lst (s.keys.map zA.enc)),.t (.lst (s.zr.map zo.enc)),.own 1 6 (C2.map Place.enc)]),(1,.arr C2.length)]) (rfl) Z Z ?_
    refine fM Z ?_;refine aL Z Z Z Z Z ?_;refine fM Z ?_;exact zh 5 Z (ih2 C2 hC) Z Z Z
end
end Go.GB.C29
namespace Go.GB.C29
open Go.GB Go.GB.C26
variable {P:Program}
section
variable {s:zH} {ds:List Def} {G:List ze->Prop} {Ch:Str->List ze->Str->List ze}
theorem zcn (H:YX P) (E:Env s ds G Ch):∀k,zeU P s ds G Ch k
 |0=>fun p o _ h=>absurd h (Nat.not_lt_zero _)
 |k+1=>zbP H E k (zcn H E k)
def Y5 (s:zH) (kind:Int) (z7:List zg):Place:=⟨-1,⟨[],[]⟩,yV kind,yU (yV kind) s.zr 0 s.z3.length [],z7⟩
variable (s) (ds) (Ch) in
def ZQ (kind:Int) (z7:List zg):List Place:=W5 s ds Ch (zg.Zm z7+1) (Y5 s kind z7) []
theorem z16 (H:YX P) (E:Env s ds G Ch) (kind:Int) (z7:List zg) (hp:z7.length*160<=140737488355328) (ho:∀x,x∈z7->x.Ok) (hg:G (Y5 s kind z7).zX) (hs1:s.z3.length<=2000) (hl:(ZQ s ds Ch kind z7).length<=1000000):z6 P 10 [s.v,.agg [.t (.int .i64 kind),.t (.lst (z7.map zg.enc))]] ⟨[],0⟩ {v:= .t (.lst ((ZQ s ds Ch kind z7).map Place.enc))}:=by
 have hadd:=zcn H E (zg.Zm z7+1) (Y5 s kind z7) [] ⟨ho,hp,hg⟩ (w2r _) hl;have hroots:=zbq H.p26 s (yV kind) hs1 E.js;unfold ZQ at hl⊢;unfold Place.v Y5 at hadd;dsimp only at hadd;unfold Y5;generalize W5 s ds Ch (zg.Zm z7+1) ⟨-1,⟨[],[]⟩,yV kind,yU (yV kind) s.zr 0 s.z3.length [],z7⟩ []=res at hadd⊢;generalize yU (yV kind) s.zr 0 s.z3.length []=rt at hadd hroots;refine z6.run H.i10 H.mixed Z Z ?_;refine fR Z ?_;refine Mid.call (zdA H kind) Z Z Z Z ?_;refine fM Z ?_;refine lM Z Z Z ?_;refine fM Z ?_;generalize yV kind=rf at hadd hroots;refine zu z7 (fun i (B:List zg)=>{env:=[(2,.ptr 0 0),(5,.ptr 2 0),(6,.t (.str rf)),(7,.own 4 9 (B.map zg.enc)),(17,.t (.lst (z7.map zg.enc))),(18,.t (.int .i64 z7.length)),(19,.t (.int .i64 i))],s:=⟨[(0,.cells [.t (.lst (s.z3.map sE)),.t s.doc,.t (.lst (s.keys.map zA.enc)),.t (.lst (s.zr.map zo.enc))]),(2,.cells [.t (.lst (s.z3.map sE)),.t s.doc,.t (.lst (s.keys.map zA.enc)),.t (.lst (s.zr.map zo.enc)),.own 3 6 (([]:List Place).map Place.enc)]),(3,.arr ([]:List Place).length),(4,.arr B.length)],5⟩}) (fun r i B=>B=z7.take i) 3 [] Z Z Z Z Z ?_ ?_
 ·intro B hB;rw [w1f] at hB;subst hB;refine fR Z ?_;refine Run.zf Z Z (by simp) ?_;refine Yz 4 Z (st':={env:=[(2,.ptr 0 0),(5,.ptr 2 0),(6,.t (.str rf)),(7,.t (.lst (B.map zg.enc)))],s:=⟨[(0,.cells [.t (.lst (s.z3.map sE)),.t s.doc,.t (.lst (s.keys.map zA.enc)),.t (.lst (s.zr.map zo.enc))]),(2,.cells [.t (.lst (s.z3.map sE)),.t s.doc,.t (.lst (s.keys.map zA.enc)),.t (.lst (s.zr.map zo.enc)),.own 3 6 (([]:List Place).map Place.enc)]),(3,.arr ([]:List Place).length)],4⟩}) ?_ Z Z Z;refine fR Z ?_;refine Mid.call (hroots) Z Z Z Z ?_;refine fM Z ?_
  refine Mid.Zt [2,3] (hadd) Z Z Z Z Z (by repeat' (first |exact trivial|exact rfl|refine And.intro ?_ ?_|exact (congrArg some (z5.zD _ _ _ _ _ _)).symm|exact (congrArg some (z5.zE _ _ _)).symm|(refine (congrArg some (z5.zW ?_ _ _)).symm;intro _;rfl))) Z Z (ob':=[(2,.cells [.t (.lst (s.z3.map sE)),.t s.doc,.t (.lst (s.keys.map zA.enc)),.t (.lst (s.zr.map zo.enc)),.own 3 6 (res.map Place.enc)]),(3,.arr res.length)]) (rfl) Z Z ?_
  refine fM Z ?_;refine Run.fin Z (z4.go ?_);exact .own Z
 ·intro i x r B h1 hi hd hB ih;have hc:=zbw H x (ho x (zMG h1))
  have hBl:B.length=i:=by rw [hB];simp;omega
  refine fR Z ?_;refine Run.zj Z Z (by simp;omega) ?_;refine fR Z ?_;refine Mid.Z2 (zg.zx x) Z Z Z h1 Z Z ?_;refine fM Z ?_;refine Mid.call (hc) Z Z Z Z ?_;refine fM Z ?_;refine apM zg.enc B [x] Z (congrArg (fun c=>some (T.lst [c])) (zg.zx x).symm) Z Z Z ?_ (hl:=fun x=>(congrArg List.length (zg.zx x)).trans Z);refine fM Z ?_;refine aL Z Z Z Z Z ?_;refine fM Z ?_;exact zh 5 Z (ih (B++[x]) (by rw [hB,w11,h1];rfl)) Z Z Z
def z6n (Lv:Str->List ze->Str->Int) (ty:Str) (sp:List ze):List zg->Int->Option Int
 |[],m=>some m
 |x::r,m=>if Lv ty sp x.name>0 then z6n Lv ty sp r (if Lv ty sp x.name>m then Lv ty sp x.name else m) else none
def z05 (Lv:Str->List ze->Str->Int):List Place->Int->Option Int
 |[],m=>some m
 |p::r,m=>match z6n Lv p.ty p.zX p.z7 m with|some m'=>z05 Lv r m'|none=>none
def zfs (o:Option Int):V:= .tup [.t (.int .i64 (o.getD 0)),.t (.int .i64 (if o.isSome then 0 else 60))]
structure zfw (s:zH) (G:List ze->Prop) (Lv:Str->List ze->Str->Int):Prop where
 ok:∀ty here f,G here->∃sp js ks F A,Sol s ty here sp js ks F A/\zZ s.z3.length F A f=Lv ty here f
theorem z7t (H:YX P) (E:Env s ds G Ch) {Lv:Str->List ze->Str->Int} (EL:zfw s G Lv) (kind:Int) (z7:List zg) (hp:z7.length*160<=140737488355328) (ho:∀x,x∈z7->x.Ok) (hg:G (Y5 s kind z7).zX) (hs1:s.z3.length<=2000) (hl:(ZQ s ds Ch kind z7).length<=1000000) (hpl:∀p,p∈ZQ s ds Ch kind z7->G p.zX/\p.z7.length<=140737488355328):z6 P 14 [s.v,.agg [.t (.int .i64 kind),.t (.lst (z7.map zg.enc))]] ⟨[],0⟩ {v:=zfs (z05 Lv (ZQ s ds Ch kind z7) 0)}:=by
 have hpp:=z16 H E kind z7 hp ho hg hs1 hl;generalize ZQ s ds Ch kind z7=l at hpp hl hpl⊢;generalize hR:z05 Lv l 0=R;refine z6.run H.i14 H.mixed Z Z ?_;refine fR Z ?_;refine Mid.call (hpp) Z Z Z Z ?_;refine lM Z Z Z ?_;refine fM Z ?_;refine zu l (fun i (m:Int)=>{env:=[(2,.ptr 0 0),(6,.t (.int .i64 m)),(15,.t (.lst (l.map Place.enc))),(16,.t (.int .i64 l.length)),(17,.t (.int .i64 i))],s:=⟨[(0,.cells [.t (.lst (s.z3.map sE)),.t s.doc,.t (.lst (s.keys.map zA.enc)),.t (.lst (s.zr.map zo.enc))])],1⟩}) (fun r i m=>z05 Lv r m=R) 1 0 Z hR Z Z Z ?_ ?_
 ·intro m hm;simp only [z05] at hm;subst hm;refine fR Z ?_;refine Run.zf Z Z (by simp) ?_;refine fR Z ?_;refine Run.fin Z (z4.go ?_);exact .wx (.t Z) (.t Z)
 ·intro i p r m h1 hi hd hm ih;obtain ⟨hpg,hpk⟩:=hpl p (zMG h1);simp only [z05] at hm;refine fR Z ?_;refine Run.zj Z Z (by simp;omega) ?_;refine fR Z ?_;refine Mid.za Z Z Z h1 Z Z ?_;refine fM Z ?_;refine lM Z Z Z ?_;refine fM Z ?_
  refine zu p.z7 (fun j (c:Int)=>{env:=[(2,.ptr 0 0),(6,.t (.int .i64 c)),(8,.ptr 1 0),(15,.t (.lst (l.map Place.enc))),(16,.t (.int .i64 l.length)),(17,.t (.int .i64 i)),(22,.t (.lst (p.z7.map zg.enc))),(23,.t (.int .i64 p.z7.length)),(24,.t (.int .i64 j))],s:=⟨[(0,.cells [.t (.lst (s.z3.map sE)),.t s.doc,.t (.lst (s.keys.map zA.enc)),.t (.lst (s.zr.map zo.enc))]),(1,.cells [.t (.int .i64 p.parent),.t (.str p.hop.on),.t (.str p.hop.key),.t (.str p.ty),.t (.lst (p.zX.map ze.enc)),.t (.lst (p.z7.map zg.enc))])],2⟩}) (fun r2 j c=>(match z6n Lv p.ty p.zX r2 c with|some m'=>z05 Lv r m'|none=>none)=R) 2 m Z hm Z Z Z ?_ ?_
  ·intro c hc;simp only [z6n] at hc;refine fR Z ?_;refine Run.zf Z Z (by simp) ?_;refine fR Z ?_;refine aL Z Z Z Z Z ?_;refine fM Z ?_;exact zh 1 Z (ih c hc) Z Z Z
  ·intro j x r2 c k1 hj kd hc ih2;obtain ⟨sp,js,ks,F,A,hS,hLv⟩:=EL.ok p.ty p.zX x.name hpg;have hget:=zfT H.p26 hS x.name;rw [hLv] at hget;simp only [z6n] at hc;refine fR Z ?_;refine Run.zj Z Z (by simp;omega) ?_;refine fR Z ?_;refine Mid.Z2 (zg.zx x) Z Z Z k1 Z Z ?_;refine fM Z ?_;refine Mid.call (hget) Z Z Z Z ?_;refine fM Z ?_;by_cases hpos:Lv p.ty p.zX x.name>0
   ·rw [w0c hpos] at hc;refine Run.zf Z Z (by simpa using hpos) ?_;refine fR Z ?_;refine aL Z Z Z Z Z ?_;refine fM Z ?_;exact zh 2 Z (ih2 _ hc) Z Z Z
   ·rw [w0d hpos] at hc;subst hc;refine Run.zj Z Z (by simpa using hpos) ?_;refine fR Z ?_;refine Run.fin Z (z4.go ?_);exact .wx (.t Z) (.t Z)
end
end Go.GB.C29
namespace Go.GB.C29
open Go.GB Go.GB.C26
variable {P:Program}
def upF (l:List Place):Nat->Nat->List Hop->Option (List Hop)
 |0,_,_=>none
 |k+1,i,acc=>
  match l[i]? with
  |none=>none
  |some p=>if p.parent=-1 then some acc else if p.parent< -1∨p.parent≥i then none else upF l k p.parent.toNat (acc++[p.hop])
def z4x (l:List Place) (i:Int):List Hop:=if i<0∨i≥l.length then [] else match upF l (i.toNat+1) i.toNat [] with|some h=>h.reverse|none=>[]
theorem zgs (H:YX P) (l:List Place) (hl:l.length<=1000000):z6 P 9 [.t (.lst (l.map Place.enc))] ⟨[],0⟩ {v:= .t (.lst (l.map Place.enc))}:=by
 refine z6.run H.i9 H.mixed Z Z ?_;refine fR Z ?_;refine zu l (fun i (B:List Place)=>{env:=[(0,.t (.lst (l.map Place.enc))),(3,.own 0 6 (B.map Place.enc)),(4,.t (.int .i64 i))],s:=⟨[(0,.arr B.length)],1⟩}) (fun r i B=>B=l.take i) 0 [] Z Z Z Z Z ?_ ?_
 ·intro B hB;rw [w1f] at hB;refine fR Z ?_;refine lM Z Z Z ?_;refine fM Z ?_;refine Run.zf Z Z (by simp) ?_;refine fR Z ?_;refine Run.fin Z (z4.go ?_);exact .own (by rw [hB])
 ·intro i x r B h1 hi hd hB ih
  have hBl:B.length=i:=by rw [hB];simp;omega
  refine fR Z ?_;refine lM Z Z Z ?_;refine fM Z ?_;refine Run.zj Z Z (by simp;omega) ?_;refine fR Z ?_;refine Mid.za Z Z Z h1 Z Z ?_;refine fM Z ?_;refine Mid.za Z Z Z h1 Z Z ?_;refine fM Z ?_;refine Mid.za Z Z Z h1 Z Z ?_;refine fM Z ?_;refine Mid.za Z Z Z h1 Z Z ?_;refine fM Z ?_;refine Mid.za Z Z Z h1 Z Z ?_;refine fM Z ?_;refine apM Place.enc B [x] Z Z Z Z Z ?_ (h1:=by first |omega|(simp;omega)|(simp;done)) (h2:=by first |omega|(simp;omega)|(simp;done));refine fM rfl ?_;refine aL rfl rfl rfl rfl rfl ?_;refine fM rfl ?_;exact zh 1 rfl (ih (B++[x]) (by rw [hB,w11,h1];rfl)) rfl rfl rfl
end Go.GB.C29
namespace Go.GB.C29
open Go.GB Go.GB.C26
variable {P:Program}
structure zam (l:List Hop) (i j:Nat) (A:List Hop):Prop where
 len:A.length=l.length
 ij:i+j+1=l.length
 at_:∀k,k<l.length->A[k]?=if k<i∨j<k then l.reverse[k]? else l[k]?
theorem zam.done {l A:List Hop} {i j:Nat} (h:zam l i j A) (hij:¬ i<j):A=l.reverse:=by
 apply w1v;intro k;have hij2:=h.ij;by_cases hk:k<l.length
 ·rw [h.at_ k hk];split
  ·rfl
  ·have:k=i/\k=j:=by omega
   obtain ⟨rfl,rfl⟩:=this;rw [List.getElem?_reverse (by omega)];congr 1;omega
 ·rw [w12 (by rw [h.len];omega),w12 (by simp;omega)]
theorem zam.step {l A:List Hop} {i j:Nat} {x y:Hop} (h:zam l i j A) (hij:i<j) (hx:A[i]?=some x) (hy:A[j]?=some y):zam l (i+1) (j - 1) ((A.set i y).set j x):=by
 have hij2:=h.ij
 have hx':l[i]?=some x:=by
  have:=h.at_ i (by omega);rw [w0d (by omega)] at this;rw [←this,hx]
 have hy':l[j]?=some y:=by
  have:=h.at_ j (by omega);rw [w0d (by omega)] at this;rw [←this,hy]
 refine ⟨by simp [h.len],by omega,fun k hk=>?_⟩
 have hAl:=h.len;by_cases h1:k=j
 ·subst h1;rw [w2f (by simp;omega),w0c (by omega),List.getElem?_reverse (by omega),←hx'];congr 1;omega
 ·rw [w2n (fun e=>h1 e.symm)];by_cases h2:k=i
  ·subst h2;rw [w2f (by omega),w0c (by omega),List.getElem?_reverse (by omega),←hy'];congr 1;omega
  ·rw [w2n (fun e=>h2 e.symm),h.at_ k hk];by_cases h3:k<i∨j<k
   ·rw [w0c h3,w0c (by omega)]
   ·rw [w0d h3,w0d (by omega)]
theorem hTb (m:Nat) (A:List Hop):V.bds m (gE (gT Hop.enc) A)=true:=V.z5i (fun x=>by simp [gT,Hop.enc,V.bds,V.bd]) A
theorem z82 (H:YX P) (l:List Hop) (hl:l.length<=1000000):z6 P 39 [.gsl 0 l.length 0 l.length 2] ⟨[(0,.gro l.length (gE (gT Hop.enc) l))],1⟩ {v:= .tup [],ob:=[(0,.gro l.length (gE (gT Hop.enc) l.reverse))],n:=0,rd:=true}:=by
 by_cases hn:l=[]
 ·subst hn;refine z6.run H.i39 H.mixed Z Z ?_;refine fR Z ?_;refine pu Z ?_;refine s64 Z Z Z ?_;refine fM Z ?_;refine Run.loop Z ?_;refine Run.wQ ?_;refine fR Z ?_;refine Run.zf Z Z Z ?_;skip;refine Run.fin Z (z4.chg Z Z ?_ ?_)
  ·exact .tup .nil
  ·exact ⟨.inl ⟨w0x Z,_,rfl,.gro (.same Z)⟩,trivial⟩
 have hlp:0<l.length:=List.length_pos_iff.2 hn;refine z6.run H.i39 H.mixed Z Z ?_;refine fR Z ?_;refine pu Z ?_;refine s64 Z Z Z ?_;refine fM Z ?_
 refine z13 (fun (B:(Nat×Nat)×List Hop)=>{env:=[(0,.gsl 0 l.length 0 l.length 2),(2,.t (.int .i64 B.1.1)),(3,.t (.int .i64 B.1.2))],s:=⟨[(0,.gro l.length (gE (gT Hop.enc) B.2))],1⟩}) (fun B=>zam l B.1.1 B.1.2 B.2) (fun B=>l.length - B.1.1) 1 ((0,l.length - 1),l) Z ⟨rfl,by dsimp only;omega,fun k hk=>by rw [w0d (by dsimp only;omega)]⟩ rfl rfl rfl ?_ (he:=?_) (hs:=?_)
 ·rintro ⟨⟨i,j⟩,A⟩ hI ih;dsimp only at hI;dsimp only;have hAl:=hI.len;have hij2:=hI.ij;refine fR Z ?_;by_cases hij:i<j
  ·obtain ⟨x,hx⟩:∃x,A[i]?=some x:=⟨_,w09 (by omega)⟩;obtain ⟨y,hy⟩:∃y,A[j]?=some y:=⟨_,w09 (by omega)⟩
   have hy2:(A.set i y)[j]?=some y:=by rw [w2n (by omega)];exact hy
   refine Run.zj Z Z (by simp;omega) ?_;refine fR Z ?_;refine pu Z ?_;refine Mid.zem (j) 0 (sz:=2) Z Z (by omega) (by omega) (yy (fun _=>rfl)) (hy) (by decide) Z Z ?_;refine fM Z ?_;refine pu Z ?_;refine Mid.zem (i) 0 (sz:=2) Z Z (by omega) (by omega) (yy (fun _=>rfl)) (hx) (by decide) Z Z ?_;refine pu Z ?_;refine Mid.stG (y) (i) 0 (sz:=2) Z Z Z Z Z (by omega) (yy (fun _=>rfl)) (hx) (by decide) Z Z ?_;refine pu Z ?_;refine Mid.stG (x) (j) 0 (sz:=2) Z Z Z Z Z (by omega) (yy (fun _=>rfl)) (hy2) (by decide) Z Z ?_;refine fM Z ?_;refine aL Z Z Z Z Z ?_;refine fM Z ?_;refine s64 Z Z Z ?_;refine fM Z ?_;exact zh 1 Z (ih ((i+1,j - 1),(A.set i y).set j x) (by dsimp only;omega) (hI.step hij hx hy)) Z Z Z (he:=⟨.same Z,.t,.tEq (by congr 1;dsimp only;omega),trivial⟩) (hs:=⟨.inl ⟨w0x Z,_,rfl,.gro (.gE Z fun _=>rfl)⟩,trivial⟩)
  ·refine Run.zf Z Z (by simp;omega) ?_;skip;have hd:=hI.done hij;subst hd;refine Run.fin Z (z4.chg Z Z ?_ ?_)
   ·exact .tup .nil
   ·exact ⟨.inl ⟨w0x Z,_,rfl,.gro (.gE Z fun _=>rfl)⟩,trivial⟩
 ·refine ⟨.same Z,.tEq ?_,.tEq ?_,trivial⟩
  ·rfl
  ·congr 1;dsimp only;omega
 ·exact ⟨.inl ⟨w0x Z,_,rfl,.gro (.gE Z fun _=>rfl)⟩,trivial⟩
end Go.GB.C29
namespace Go.GB.C29
open Go.GB Go.GB.C26
variable {P:Program}
theorem zbR (l:List Place):∀(n:Nat) (k:Nat) (acc:List Hop),n<k->upF l k n acc=upF l (n+1) n acc:=by
 intro n
 induction n using Nat.strongRecOn with
 |_ n ih=>
  intro k acc hk
  obtain ⟨k,rfl⟩:∃j,k=j+1:=⟨k - 1,by omega⟩
  simp only [upF]
  cases l[n]? with
  |none=>rfl
  |some p=>
   simp only;split
   ·rfl
   ·split
    ·rfl
    ·rename_i h1 h2
     have hq:p.parent.toNat<n:=by omega
     rw [ih _ hq k _ (by omega),ih _ hq n _ hq]
def zdv (o:Option (List Hop)):List Hop:=match o with|some h=>h.reverse|none=>[]
theorem zc0 {l:List Place} {n:Nat} (h:n<l.length):z4x l n=zdv (upF l (n+1) n []):=by
 unfold z4x zdv;rw [w0d (by omega)]
 simp only [Int.toNat_natCast]<;>rfl
theorem zfX {l:List Place} {n:Nat} {p:Place} {acc:List Hop} (h:l[n]?=some p):upF l (n+1) n acc=if p.parent=-1 then some acc else if p.parent< -1∨p.parent≥n then none else upF l (p.parent.toNat+1) p.parent.toNat (acc++[p.hop]):=by
 simp only [upF,h];split
 ·rfl
 ·split
  ·rfl
  ·exact zbR l _ _ _ (by omega)
theorem zdt (H:YX P) (l:List Place) (hl:l.length<=1000000) (i:Int):z6 P 22 [.t (.lst (l.map Place.enc)),.t (.int .i64 i)] ⟨[],0⟩ {v:= .t (.lst ((z4x l i).map Hop.enc))}:=by
 by_cases hi:i<0∨i≥l.length
 ·have e:z4x l i=[]:=by unfold z4x;rw [w0c hi]
  rw [e];refine z6.run H.i22 H.mixed Z Z ?_;refine fR Z ?_;refine lMG Z Z Z Z ?_;refine fM Z ?_;refine Run.zj Z Z (by simp;omega) ?_;refine fR Z ?_;refine Run.fin Z (z4.go ?_);exact .nil Z
 obtain ⟨n0,rfl⟩:∃n:Nat,i=n:=⟨i.toNat,by omega⟩
 have hn0:n0<l.length:=by omega
 rw [zc0 hn0];generalize hR:zdv (upF l (n0+1) n0 [])=R;refine z6.run H.i22 H.mixed Z Z ?_;refine fR Z ?_;refine lMG Z Z Z Z ?_;refine fM Z ?_;refine Run.zf Z Z (by simp;omega) ?_;refine fR Z ?_
 refine z13 (fun (B:Nat×List Hop)=>{env:=[(0,.t (.lst (l.map Place.enc))),(1,.t (.int .i64 B.1)),(5,.gsl 0 B.2.length 0 B.2.length 2)],s:=⟨[(0,.gro B.2.length (gE (gT Hop.enc) B.2))],1⟩}) (fun B=>B.1+B.2.length<=n0/\zdv (upF l (B.1+1) B.1 B.2)=R) (fun B=>B.1) 0 (n0,[]) Z ⟨by simp,hR⟩ rfl rfl rfl ?_
 rintro ⟨n,acc⟩ ⟨hn,hE⟩ ih;dsimp only at hn hE;dsimp only;obtain ⟨p,hp⟩:∃p,l[n]?=some p:=⟨_,w09 (by omega)⟩;rw [zfX hp] at hE;refine fR Z ?_;refine Mid.za Z Z Z hp Z Z ?_;refine fM Z ?_;by_cases h1:p.parent=-1
 ·rw [w0c h1] at hE;refine Run.zf Z Z (by simp [h1]) ?_;have hrv:=z82 H acc (by omega);have hE:acc.reverse=R:=hE;rw [hE] at hrv
  refine Run.W3 (f:=3) Z (by (repeat' (first |exact trivial|exact w0j _|exact yY _|exact yX _|exact grd3 _ _|exact yZ _ _|refine And.intro ?_ ?_|exact rfl|(simp;done)|(simp<;>omega)));done) ?_
  refine Mid.Zt [0] (hrv) Z Z Z Z (by simp [zP,z5.bd,hTb]) (by repeat' (first |exact trivial|exact rfl|refine And.intro ?_ ?_|exact (congrArg some (z5.zD _ _ _ _ _ _)).symm|exact (congrArg some (z5.zE _ _ _)).symm|(refine (congrArg some (z5.zW ?_ _ _)).symm;intro _;rfl))) Z Z (ob':=[(0,.gro acc.length (gE (gT Hop.enc) R))]) ((by simp only [wY,z5.zW (f:=gT Hop.enc) (f':=gT Hop.enc) (fun _=>rfl)];rfl)) Z Z ?_
  refine Mid.W3 (f:=1) Z (by (repeat' (first |exact trivial|exact w0j _|exact yY _|exact yX _|exact grd3 _ _|exact yZ _ _|refine And.intro ?_ ?_|exact rfl|(simp;done)|(simp<;>omega)));done) ?_
  have hRl:R.length=acc.length:=by rw [←hE];simp
  refine Run.QM 0 Z (st':={env:=[(5,.t (.lst (R.map Hop.enc)))],s:=⟨[],0⟩}) ?_ Z Z Z ⟨LeZ.gE _ _ (w0x Z) Z (w0w (by omega)).symm (by omega) (fun _=>rfl),trivial⟩ trivial;refine fR Z ?_;refine Run.fin Z (z4.go ?_);exact .t Z
 ·rw [w0d h1] at hE;refine Run.zj Z Z (by simpa using h1) ?_;refine fR Z ?_;refine Mid.za Z Z Z hp Z Z ?_;refine fM Z ?_;by_cases h2:p.parent< -1∨p.parent≥n
  ·rw [w0c h2] at hE;subst hE;refine Run.zj Z Z (by simp;omega) ?_;refine fR Z ?_;refine Run.fin Z (z4.go ?_);exact .nil Z
  ·rw [w0d h2] at hE;refine Run.zf Z Z (by simp;omega) ?_;refine fR Z ?_;refine Mid.za Z Z Z hp Z Z ?_;refine fM Z ?_;refine Mid.zeE (gT Hop.enc) acc [p.hop] Z Z (zc8 Z (fun _=>rfl)) (z4y _) (yy (fun _=>rfl)) (by first |omega|(simp;omega)|(simp;done)) (by first |omega|(simp;omega)|(simp;done)) Z ?_;refine fM Z ?_;exact zh 1 Z (ih (p.parent.toNat,acc++[p.hop]) (by dsimp only;omega) ⟨by dsimp only;simp;omega,hE⟩) rfl rfl rfl (he:=⟨.same rfl,.tEq (by congr 1;dsimp only;omega),.QD (by simp) rfl rfl (w0x rfl),trivial⟩) (hs:=⟨.inl ⟨w0x rfl,_,rfl,.qF (by simp) (.gE rfl fun _=>rfl)⟩,trivial⟩)
end Go.GB.C29
namespace Go.GB.C26
open Go.GB
variable {P:Program}
def least (a b:Int):Int:=if (a==0||(decide (b>0)&&decide (b<a)))=true then b else a
theorem Wq (H:Pr P) (a b:Int):z6 P 84 [.t (.int .i64 a),.t (.int .i64 b)] ⟨[],0⟩ {v:= .t (.int .i64 (least a b))}:=by
 refine z6.run H.i84 H.mixed Z Z ?_;refine fR Z ?_;refine Run.cond Z Z (fun h=>?_) (fun h=>?_)
 ·refine fR Z ?_;refine Run.fin Z (z4.go ?_);exact .t (by simp only [least,h,w0v])
 ·refine fR Z ?_;refine Run.fin Z (z4.go ?_);exact .t (by simp only [least,h];simp)
def z74 (s:Str):List Str->Bool
 |[]=>false
 |x::r=>if x=s then true else z74 s r
theorem zdM (s:Str) (l:List Str):z74 s l=decide (s∈l):=by
 induction l with
 |nil=>simp [z74]
 |cons x r ih=>
  simp only [z74];by_cases h:x=s
  ·subst h;simp
  ·have:¬ s=x:=fun e=>h e.symm;simp [h,ih,this]
theorem z3x (H:Pr P) (l:List Str) (hl:l.length<=9223372036854775807) (s:Str):z6 P 106 [.t (.lst (l.map sE)),.t (.str s)] ⟨[],0⟩ {v:= .t (.bool (decide (s∈l)))}:=by
 rw [←zdM];refine z6.run H.i106 H.mixed Z Z ?_;refine fR Z ?_;refine zu l (fun i (_:Unit)=>{env:=[(0,.t (.lst (l.map sE))),(1,.t (.str s)),(5,.t (.int .i64 i))],s:=⟨[],0⟩}) (fun r i _=>z74 s l=z74 s r) 0 () Z Z Z Z Z ?_ ?_
 ·intro _ hinv;refine fR Z ?_;refine lM Z Z Z ?_;refine fM Z ?_;refine Run.zf Z Z (by simp) ?_;refine fR Z ?_;refine Run.fin Z (z4.go ?_);exact .t (by rw [hinv];rfl)
 ·intro i x r _ h1 hi hd hinv ih;refine fR Z ?_;refine lM Z Z Z ?_;refine fM Z ?_;refine Run.zj Z Z (by simp;omega) ?_;refine fR Z ?_;refine Mid.za Z Z Z h1 Z Z ?_;refine fM Z ?_;refine Run.cond Z Z (fun h=>?_) (fun h=>?_)
  ·refine fR Z ?_;refine Run.fin Z (z4.go ?_)
   have:x=s:=by simpa using h
   exact .t (by rw [hinv];simp [z74,this])
  ·refine fR Z ?_;refine aL Z Z Z Z Z ?_;refine fM Z ?_
   have:¬ x=s:=by simpa using h
   exact zh 0 Z (ih () (by rw [hinv];simp [z74,this])) Z Z Z
def z0Z (n:Nat) (js:List zo) (ks:List zA) (sp:List ze) (D A:List Int):List (Nat×z5):=
 [(0,.cells [.t (.int .i64 n),.t (.lst (js.map zo.enc)),.t (.lst (ks.map zA.enc)),.t (.lst (sp.map ze.enc)),.slc 1 0 js.length 1,.slc 2 0 n 1]),(1,.cells (cE iE D)),(2,.cells (cE iE A))]
theorem zM {n:Nat} {js:List zo} {ks:List zA} {sp:List ze} {D A:List Int}:zP 3 (z0Z n js ks sp D A)=true:=by
 simp [z0Z,zP,z5.z6x,z5.z7b];simp [z5.bd,V.bds,V.bd]
structure TOk (n:Nat) (js:List zo) (ks:List zA) (sp:List ze) (D A:List Int):Prop where
 hn:n<=2000
 zha:D.length=js.length
 z5j:A.length=n
 jsL:js.length<=100000
 ksL:ks.length<=100000
 spL:sp.length<=100000
 spO:∀x∈sp,x.ok
 jsO:∀j∈js,(0<=j.graph/\j.graph<n)/\j.req.length<=100000/\j.Zk.length<=100000
 ksO:∀k∈ks,k.ok
def z2l (A:List Int):Nat->Nat->Int->Int
 |_,0,b=>b
 |i,c+1,b=>z2l A (i+1) c (least b (A.getD i 0))
def z0x (D:List Int) (f:Str):Nat->List zo->Int->Int
 |_,[],b=>b
 |i,j::r,b=>z0x D f (i+1) r (if j.field=f then least b (D.getD i 0) else b)
def Zw (n:Nat) (js:List zo) (D A:List Int) (f:Str):Int:=
 if f=tyN then z2l A 0 n 0 else z0x D f 0 js 0
def y5 (n:Nat) (js:List zo) (D A:List Int):List Str->Int->Int
 |[],m=>m
 |f::r,m=>if Zw n js D A f=0 then 0 else y5 n js D A r (if Zw n js D A f>m then Zw n js D A f else m)
def wy (n:Nat) (js:List zo) (D A:List Int) (g:Int):List zA->Int->Int
 |[],b=>b
 |k::r,b=>wy n js D A g r (if k.graph=g then least b (y5 n js D A k.fields 0) else b)
section
variable {n:Nat} {js:List zo} {ks:List zA} {sp:List ze} {D A:List Int}
theorem z3V (H:Pr P) (hT:TOk n js ks sp D A) (f:Str):z6 P 59 [.ptr 0 0,.t (.str f)] ⟨z0Z n js ks sp D A,3⟩ {v:= .t (.int .i64 (Zw n js D A f)),rd:=true}:=by
 have h1:=hT.hn;have h2:=hT.z5j;have h3:=hT.zha;have h4:=hT.jsL;refine z6.run H.i59 H.mixed Z Z ?_;refine fR Z ?_;refine Run.cond Z Z (fun hf=>?_) (fun hf=>?_)
 ·refine fR Z ?_
  have hf':f=tyN:=by simpa [tyN] using hf
  refine zu (List.range n) (fun i (b:Int)=>{env:=[(0,.ptr 0 0),(5,.t (.int .i64 b)),(6,.t (.int .i64 i))],s:=⟨z0Z n js ks sp D A,3⟩}) (fun r i b=>Zw n js D A f=z2l A i r.length b) 3 0 Z (by simp [Zw,hf']) Z Z Z ?_ ?_
  ·intro b hinv;refine fR Z ?_;refine Run.zf Z Z (by simp) ?_;refine fR Z ?_;refine Run.fin Z (z4.Zy Z Z Z (by first |exact rfl|exact zK|exact zM) (.t ((by rw [hinv];rfl))))
  ·intro i x r b hi1 hi hd hinv ih;simp only [w2k] at hi;refine fR Z ?_;refine Run.zj Z Z (by simp;omega) ?_
   have hgd:A[0+i*1]?=some (A.getD i 0):=by
    have e:0+i*1=i:=by omega
    rw [e,w0e,w09 (by omega)];rfl
   refine fR Z ?_;refine Mid.iaS Z Z (by omega) Z ?_;refine Mid.ldE Z Z (hgd) Z ?_;skip;refine Mid.call (Wq H b (A.getD i 0)) Z Z Z Z ?_;refine fM Z ?_;refine aL Z Z Z Z Z ?_;refine fM Z ?_;exact zh 3 Z (ih (least b (A.getD i 0)) (by rw [hinv];rfl)) Z Z Z
 ·refine fR Z ?_
  have hf':¬ f=tyN:=by
   intro h;rw [h] at hf;revert hf;decide
  refine zu js (fun i (b:Int)=>{env:=[(0,.ptr 0 0),(1,.t (.str f)),(5,.t (.int .i64 b)),(7,.t (.int .i64 i))],s:=⟨z0Z n js ks sp D A,3⟩}) (fun r i b=>Zw n js D A f=z0x D f i r b) 3 0 Z (by simp [Zw,hf']) Z Z Z ?_ ?_
  ·intro b hinv;refine fR Z ?_;refine lM Z Z Z ?_;refine fM Z ?_;refine Run.zf Z Z (by simp) ?_;refine fR Z ?_;refine Run.fin Z (z4.Zy Z Z Z (by first |exact rfl|exact zK|exact zM) (.t ((by rw [hinv];rfl))))
  ·intro i x r b hi1 hi hd hinv ih;refine fR Z ?_;refine lM Z Z Z ?_;refine fM Z ?_;refine Run.zj Z Z (by simp;omega) ?_
   have hgd:D[0+i*1]?=some (D.getD i 0):=by
    have e:0+i*1=i:=by omega
    rw [e,w0e,w09 (by omega)];rfl
   refine fR Z ?_;refine Mid.za Z Z Z hi1 Z Z ?_;refine fM Z ?_;refine Run.cond Z Z (fun hc=>?_) (fun hc=>?_)
   ·refine fR Z ?_;refine Mid.iaS Z Z (by omega) Z ?_
    have hc':x.field=f:=by simpa using hc
    refine Mid.ldE Z Z (hgd) Z ?_;skip;refine Mid.call (Wq H b (D.getD i 0)) Z Z Z Z ?_;refine fM Z ?_;refine aL Z Z Z Z Z ?_;refine fM Z ?_;exact zh 3 Z (ih (least b (D.getD i 0)) (by rw [hinv];simp only [z0x,hc',w0v])) Z Z Z
   ·refine fR Z ?_;refine aL Z Z Z Z Z ?_;refine fM Z ?_
    have hc':¬ x.field=f:=by simpa using hc
    exact zh 3 Z (ih b (by rw [hinv];simp only [z0x,hc',w0r])) Z Z Z
theorem z4j (H:Pr P) (hT:TOk n js ks sp D A) (l:List Str) (hl:l.length<=100000):z6 P 108 [.ptr 0 0,.t (.lst (l.map sE))] ⟨z0Z n js ks sp D A,3⟩ {v:= .t (.int .i64 (y5 n js D A l 0)),rd:=true}:=by
 refine z6.run H.i108 H.mixed Z Z ?_;refine fR Z ?_;refine zu l (fun i (b:Int)=>{env:=[(0,.ptr 0 0),(1,.t (.lst (l.map sE))),(5,.t (.int .i64 b)),(6,.t (.int .i64 i))],s:=⟨z0Z n js ks sp D A,3⟩}) (fun r i b=>y5 n js D A l 0=y5 n js D A r b) 3 0 Z Z Z Z Z ?_ ?_
 ·intro b hinv;refine fR Z ?_;refine lM Z Z Z ?_;refine fM Z ?_;refine Run.zf Z Z (by simp) ?_;refine fR Z ?_;refine Run.fin Z (z4.Zy Z Z Z (by first |exact rfl|exact zK|exact zM) (.t ((by rw [hinv];rfl))))
 ·intro i x r b h1 hi hd hinv ih;refine fR Z ?_;refine lM Z Z Z ?_;refine fM Z ?_;refine Run.zj Z Z (by simp;omega) ?_;refine fR Z ?_;refine Mid.za Z Z Z h1 Z Z ?_;refine fM Z ?_;refine Mid.Wd (z3V H hT x) Z Z (by first |exact rfl|exact zK|exact zM) Z ?_;refine fM Z ?_;refine Run.cond Z Z (fun h0=>?_) (fun h0=>?_)
  ·refine fR Z ?_
   have h0':Zw n js D A x=0:=by simpa using h0
   refine Run.fin Z (z4.Zy Z Z Z (by first |exact rfl|exact zK|exact zM) (.t ((by rw [hinv];simp [y5,h0']))))
  ·refine fR Z ?_;refine aL Z Z Z Z Z ?_;refine fM Z ?_
   have h0':¬ Zw n js D A x=0:=by simpa using h0
   exact zh 3 Z (ih (if Zw n js D A x>b then Zw n js D A x else b) (by rw [hinv];simp only [y5,h0',w0r])) Z Z Z
theorem z5p (H:Pr P) (hT:TOk n js ks sp D A) (g:Int):z6 P 107 [.ptr 0 0,.t (.int .i64 g)] ⟨z0Z n js ks sp D A,3⟩ {v:= .t (.int .i64 (wy n js D A g ks 0)),rd:=true}:=by
 have h2:=hT.ksL;refine z6.run H.i107 H.mixed Z Z ?_;refine fR Z ?_;refine zu ks (fun i (b:Int)=>{env:=[(0,.ptr 0 0),(1,.t (.int .i64 g)),(5,.t (.int .i64 b)),(6,.t (.int .i64 i))],s:=⟨z0Z n js ks sp D A,3⟩}) (fun r i b=>wy n js D A g ks 0=wy n js D A g r b) 3 0 Z Z Z Z Z ?_ ?_
 ·intro b hinv;refine fR Z ?_;refine lM Z Z Z ?_;refine fM Z ?_;refine Run.zf Z Z (by simp) ?_;refine fR Z ?_;refine Run.fin Z (z4.Zy Z Z Z (by first |exact rfl|exact zK|exact zM) (.t ((by rw [hinv];rfl))))
 ·intro i x r b h1 hi hd hinv ih;refine fR Z ?_;refine lM Z Z Z ?_;refine fM Z ?_;refine Run.zj Z Z (by simp;omega) ?_;refine fR Z ?_;refine Mid.za Z Z Z h1 Z Z ?_;refine fM Z ?_;refine Run.cond Z Z (fun hg=>?_) (fun hg=>?_)
  ·refine fR Z ?_
   have hg':x.graph=g:=by simpa using hg
   refine Mid.za Z Z Z h1 Z Z ?_;refine fM Z ?_;refine Mid.Wd (z4j H hT x.fields (hT.ksO x (zMG h1))) Z Z (by first |exact rfl|exact zK|exact zM) Z ?_;skip;refine Mid.call (Wq H b (y5 n js D A x.fields 0)) Z Z Z Z ?_;refine fM Z ?_;refine aL Z Z Z Z Z ?_;refine fM Z ?_;exact zh 3 Z (ih (least b (y5 n js D A x.fields 0)) (by rw [hinv];simp only [wy,hg',w0v])) Z Z Z
  ·refine fR Z ?_;refine aL Z Z Z Z Z ?_;refine fM Z ?_
   have hg':¬ x.graph=g:=by simpa using hg
   exact zh 3 Z (ih b (by rw [hinv];simp only [wy,hg',w0r])) Z Z Z
end
end Go.GB.C26
namespace Go.GB.C26
open Go.GB
variable {P:Program}
def WA (g:Int):List ze->Int->Int
 |[],b=>b
 |x::r,b=>WA g r (if x.graph=g then least b x.depth else b)
def ZT (n:Nat) (js:List zo) (ks:List zA) (sp:List ze) (D A:List Int) (g:Int):Int:=
 if wy n js D A g ks 0>0 then least (WA g sp 0) (IntKind.i64.wrap (1+wy n js D A g ks 0)) else WA g sp 0
def z0n (j:zo):List ze->Int->Int
 |[],b=>b
 |x::r,b=>z0n j r (if (x.graph==j.graph&&decide (j.field∈x.Zk))=true then least b x.depth else b)
def yt (n:Nat) (js:List zo) (ks:List zA) (sp:List ze) (D A:List Int) (j:zo):Int:=
 if j.ext=true then z0n j sp 0
 else if j.req.length=0 then ZT n js ks sp D A j.graph
 else if (wy n js D A j.graph ks 0==0||y5 n js D A j.req 0==0)=true then 0
 else IntKind.i64.wrap (1+(if y5 n js D A j.req 0>wy n js D A j.graph ks 0 then y5 n js D A j.req 0 else wy n js D A j.graph ks 0))
section
variable {n:Nat} {js:List zo} {ks:List zA} {sp:List ze} {D A:List Int}
theorem z4w (H:Pr P) (hT:TOk n js ks sp D A) (g:Int):z6 P 83 [.ptr 0 0,.t (.int .i64 g)] ⟨z0Z n js ks sp D A,3⟩ {v:= .t (.int .i64 (ZT n js ks sp D A g)),rd:=true}:=by
 have h2:=hT.spL;refine z6.run H.i83 H.mixed Z Z ?_;refine fR Z ?_;refine zu sp (fun i (b:Int)=>{env:=[(0,.ptr 0 0),(1,.t (.int .i64 g)),(5,.t (.int .i64 b)),(6,.t (.int .i64 i))],s:=⟨z0Z n js ks sp D A,3⟩}) (fun r i b=>WA g sp 0=WA g r b) 3 0 Z Z Z Z Z ?_ ?_
 ·intro b hinv
  have hinv':WA g sp 0=b:=by rw [hinv];rfl
  refine fR Z ?_;refine lM Z Z Z ?_;refine fM Z ?_;refine Run.zf Z Z (by simp) ?_;refine fR Z ?_;refine Mid.Wd (z5p H hT g) Z Z (by first |exact rfl|exact zK|exact zM) Z ?_;refine fM Z ?_;refine Run.cond Z Z (fun hk=>?_) (fun hk=>?_)
  ·refine fR Z ?_
   have hk':wy n js D A g ks 0>0:=by simpa using hk
   refine Mid.Wd (z5p H hT g) Z Z (by first |exact rfl|exact zK|exact zM) Z ?_;refine p0 Z ?_;refine Mid.call (Wq H b (IntKind.i64.wrap (1+wy n js D A g ks 0))) Z Z Z Z ?_;refine fM Z ?_;refine Run.fin Z (z4.Zy Z Z Z (by first |exact rfl|exact zK|exact zM) (.t ((by simp only [ZT,hk',w0v,hinv']))))
  ·refine fR Z ?_
   have hk':¬ wy n js D A g ks 0>0:=by simpa using hk
   refine Run.fin Z (z4.Zy Z Z Z (by first |exact rfl|exact zK|exact zM) (.t ((by simp only [ZT,hk',w0r,hinv']))))
 ·intro i x r b h1 hi hd hinv ih;refine fR Z ?_;refine lM Z Z Z ?_;refine fM Z ?_;refine Run.zj Z Z (by simp;omega) ?_;refine fR Z ?_;refine Mid.za Z Z Z h1 Z Z ?_;refine fM Z ?_;refine Run.cond Z Z (fun hg=>?_) (fun hg=>?_)
  ·refine fR Z ?_
   have hg':x.graph=g:=by simpa using hg
   refine Mid.za Z Z Z h1 Z Z ?_;refine fM Z ?_;refine Mid.call (Wq H b x.depth) Z Z Z Z ?_;refine fM Z ?_;refine aL Z Z Z Z Z ?_;refine fM Z ?_;exact zh 3 Z (ih (least b x.depth) (by rw [hinv];simp only [WA,hg',w0v])) Z Z Z
  ·refine fR Z ?_;refine aL Z Z Z Z Z ?_;refine fM Z ?_
   have hg':¬ x.graph=g:=by simpa using hg
   exact zh 3 Z (ih b (by rw [hinv];simp only [WA,hg',w0r])) Z Z Z
theorem zbl (H:Pr P) (hT:TOk n js ks sp D A) (j:zo) (hq:j.req.length<=100000):z6 P 82 [.ptr 0 0,.agg [.t (.str j.ty),.t (.str j.field),.t (.int .i64 j.graph),.t (.bool j.ext),.t (.lst (j.req.map sE)),.t (.lst (j.Zk.map sE))]] ⟨z0Z n js ks sp D A,3⟩ {v:= .t (.int .i64 (yt n js ks sp D A j)),rd:=true}:=by
 have h2:=hT.spL;refine z6.run H.i82 H.mixed Z Z ?_;refine fR Z ?_;refine Run.cond Z Z (fun he=>?_) (fun he=>?_)
 ·refine fR Z ?_;refine zu sp (fun i (b:Int)=>{env:=[(0,.ptr 0 0),(3,.ptr 3 0),(5,.t (.int .i64 b)),(6,.t (.int .i64 i))],s:=⟨z0Z n js ks sp D A++[(3,.cells [.t (.str j.ty),.t (.str j.field),.t (.int .i64 j.graph),.t (.bool j.ext),.t (.lst (j.req.map sE)),.t (.lst (j.Zk.map sE))])],4⟩}) (fun r i b=>yt n js ks sp D A j=z0n j r b) 4 0 Z (by simp [yt,he]) Z Z Z ?_ ?_
  ·intro b hinv;refine fR Z ?_;refine lM Z Z Z ?_;refine fM Z ?_;refine Run.zf Z Z (by simp) ?_;refine fR Z ?_;refine Run.fin Z (z4.Zy Z Z Z (by first |exact rfl|exact zK|exact zM) (.t ((by rw [hinv];rfl))))
  ·intro i x r b h1 hi hd hinv ih;refine fR Z ?_;refine lM Z Z Z ?_;refine fM Z ?_;refine Run.zj Z Z (by simp;omega) ?_;refine fR Z ?_;refine Mid.za Z Z Z h1 Z Z ?_;refine fM Z ?_;refine elG Z Z Z Z h1 Z Z ?_;refine fM Z ?_;refine caG Z Z (fun hg=>⟨_,rfl,z3x H x.Zk (hT.spO x (zMG h1)) j.field,rfl⟩) Z Z ?_;refine fM Z ?_;refine Run.cond Z Z (fun hc=>?_) (fun hc=>?_)
   ·refine fR Z ?_;refine Mid.za Z Z Z h1 Z Z ?_;refine fM Z ?_;refine Mid.call (Wq H b x.depth) Z Z Z Z ?_;refine fM Z ?_;refine aL Z Z Z Z Z ?_;refine fM Z ?_;exact zh 4 Z (ih (least b x.depth) (by rw [hinv];simp only [z0n,hc,w0v])) Z Z Z
   ·refine fR Z ?_;refine aL Z Z Z Z Z ?_;refine fM Z ?_;exact zh 4 Z (ih b (by rw [hinv];simp only [z0n,hc];simp)) Z Z Z
 ·refine fR Z ?_;refine lM Z Z Z ?_;refine fM Z ?_;refine Run.cond Z Z (fun hr=>?_) (fun hr=>?_)
  ·refine fR Z ?_
   have hr':j.req.length=0:=by simpa using hr
   refine Mid.yM [0,1,2] (z4w H hT j.graph) Z Z Z Z zM (by repeat' (first |exact trivial|exact rfl|refine And.intro ?_ ?_|exact (congrArg some (z5.zD _ _ _ _ _ _)).symm|exact (congrArg some (z5.zE _ _ _)).symm)) Z ?_
   refine fM Z ?_;refine Run.fin Z (z4.Zy Z Z Z (by first |exact rfl|exact zK|exact zM) (.t ((by simp [yt,he,hr']))))
  ·refine fR Z ?_
   have hr':¬ j.req.length=0:=by simpa using hr
   refine Mid.yM [0,1,2] (z5p H hT j.graph) Z Z Z Z zM (by repeat' (first |exact trivial|exact rfl|refine And.intro ?_ ?_|exact (congrArg some (z5.zD _ _ _ _ _ _)).symm|exact (congrArg some (z5.zE _ _ _)).symm)) Z ?_
   refine fM Z ?_
   refine Mid.yM [0,1,2] (z4j H hT j.req hq) Z Z Z Z zM (by repeat' (first |exact trivial|exact rfl|refine And.intro ?_ ?_|exact (congrArg some (z5.zD _ _ _ _ _ _)).symm|exact (congrArg some (z5.zE _ _ _)).symm)) Z ?_
   refine fM Z ?_;refine Run.cond Z Z (fun hz=>?_) (fun hz=>?_)
   ·refine fR Z ?_;refine Run.fin Z (z4.Zy Z Z Z (by first |exact rfl|exact zK|exact zM) (.t ((by simp only [yt,he,hr',hz];simp))))
   ·refine fR Z ?_;refine p0 Z ?_;refine fM Z ?_;refine Run.fin Z (z4.Zy Z Z Z (by first |exact rfl|exact zK|exact zM) (.t ((by simp only [yt,he,hr',hz];simp))))
end
end Go.GB.C26
namespace Go.GB.C26
open Go.GB
variable {P:Program}
def YS (y j:zo):Bool:=(y.ty==j.ty)&&(y.field==j.field)&&(y.graph==j.graph)
def YF (j:zo):List zo->Bool->Bool
 |[],b=>b
 |y::r,b=>YF j r (if YS y j=true then false else b)
def inR (n:Nat) (name:Str) (j:zo) (b:Bool):Bool:=(j.ty==name)&&decide (j.graph≥0)&&decide (j.graph<n)&&b
def yo (n:Nat) (name:Str):List zo->List zo->List zo->List zo
 |_,[],acc=>acc
 |pre,j::r,acc=>yo n name (pre++[j]) r (if inR n name j (YF j pre true)=true then acc++[j] else acc)
def Wo (n:Nat):List ze->List ze->List ze
 |[],acc=>acc
 |x::r,acc=>Wo n r (if inb n x=true then acc++[x] else acc)
section
variable {s:zH} {name:Str} {here sp:List ze} {js:List zo} {ks:List zA}
theorem z8V (H:Pr P) (h1:s.z3.length<=2000) (h2:here.length<=100000) (h3:s.zr.length<=100000) (h4:s.keys.length<=100000)
  (e1:Wo s.z3.length here []=sp) (e2:yo s.z3.length name [] s.zr []=js) (e3:Y9 s.z3.length name s.keys []=ks) (hl:js.length<=100000):
  z6 P 49 [s.v,.t (.str name),.t (.lst (here.map ze.enc))] ⟨[],0⟩
  {v:= .ptr 1 0,ob:=[(1,.cells [.t (.int .i64 s.z3.length),.t (.lst (js.map zo.enc)),.t (.lst (ks.map zA.enc)),.t (.lst (sp.map ze.enc)),.slc 3 0 js.length 1,.slc 4 0 s.z3.length 1]),(3,.cells (cE iE (List.replicate js.length 0))),(4,.cells (cE iE (List.replicate s.z3.length 0)))],n:=5}:=by
 refine z6.run H.i49 H.mixed Z Z ?_;refine fR Z ?_;refine lM Z Z Z ?_;refine fM Z ?_
 refine zu s.zr (fun i (b:List zo)=>{env:=[(1,.t (.str name)),(2,.t (.lst (here.map ze.enc))),(3,.ptr 0 0),(7,.ptr 1 0),(8,.t (.int .i64 i))],s:=⟨[(0,.cells [.t (.lst (s.z3.map sE)),.t s.doc,.t (.lst (s.keys.map zA.enc)),.t (.lst (s.zr.map zo.enc))]),(1,.cells [.t (.int .i64 s.z3.length),.own 2 6 (b.map zo.enc),.zJ,.zJ,.zJ,.zJ]),(2,.arr b.length)],3⟩}) (fun r i b=>b.length<=i/\yo s.z3.length name (s.zr.take i) r b=js) 2 [] Z ⟨by simp,e2⟩ rfl rfl rfl ?_ ?_
 ·rintro js' ⟨_,hinv⟩;simp only [yo] at hinv;subst hinv;refine fR Z ?_;refine lM Z Z Z ?_;refine fM Z ?_;refine Run.zf Z Z (by simp) ?_;refine fR Z ?_
  refine zu s.keys (fun i (b:List zA)=>{env:=[(1,.t (.str name)),(2,.t (.lst (here.map ze.enc))),(3,.ptr 0 0),(7,.ptr 1 0),(12,.t (.int .i64 i))],s:=⟨[(0,.cells [.t (.lst (s.z3.map sE)),.t s.doc,.t (.lst (s.keys.map zA.enc)),.t (.lst (s.zr.map zo.enc))]),(1,.cells [.t (.int .i64 s.z3.length),.t (.lst (js'.map zo.enc)),.own 2 3 (b.map zA.enc),.zJ,.zJ,.zJ]),(2,.arr b.length)],3⟩}) (fun r i b=>b.length<=i/\Y9 s.z3.length name r b=ks) 2 [] Z ⟨by simp,e3⟩ rfl rfl rfl ?_ ?_
  ·rintro ks' ⟨_,hinv⟩;simp only [Y9] at hinv;subst hinv;refine fR Z ?_;refine lM Z Z Z ?_;refine fM Z ?_;refine Run.zf Z Z (by simp) ?_;refine fR Z ?_
   refine zu here (fun i (b:List ze)=>{env:=[(2,.t (.lst (here.map ze.enc))),(7,.ptr 1 0),(14,.t (.int .i64 i))],s:=⟨[(1,.cells [.t (.int .i64 s.z3.length),.t (.lst (js'.map zo.enc)),.t (.lst (ks'.map zA.enc)),.own 2 3 (b.map ze.enc),.zJ,.zJ]),(2,.arr b.length)],3⟩}) (fun r i b=>b.length<=i/\Wo s.z3.length r b=sp) 2 [] Z ⟨by simp,e1⟩ rfl rfl rfl ?_ ?_
   ·rintro sp' ⟨_,hinv⟩;simp only [Wo] at hinv;subst hinv;refine fR Z ?_;refine lM Z Z Z ?_;refine fM Z ?_;refine Run.zf Z Z (by simp) ?_;refine fR Z ?_;refine lM Z Z Z ?_;refine Mid.zbu [0] Z (by omega) (by omega) Z Z Z ?_;refine fM Z ?_;refine Mid.zbu [0] Z (by omega) (by omega) Z Z Z ?_;refine fM Z ?_;refine Run.fin Z (z4.chg Z Z ?_ ?_)
    ·exact .le (.same Z)
    ·exact leSA
   ·rintro i x r b hi1 hi hd ⟨hl,hinv⟩ ih;refine fR Z ?_;refine lM Z Z Z ?_;refine fM Z ?_;refine Run.zj Z Z (by simp;omega) ?_;refine fR Z ?_;refine Mid.za Z Z Z hi1 Z Z ?_;refine fM Z ?_;refine Run.cond Z Z (fun hc=>?_) (fun hc=>?_)
    ·have hc2:inb s.z3.length x=true:=hc;refine fR Z ?_;refine apM ze.enc b [x] Z Z Z Z Z ?_;refine fM Z ?_;refine aL Z Z Z Z Z ?_;refine fM Z ?_;exact zh 3 Z (ih (b++[x]) ⟨by simp;omega,by rw [←hinv];simp only [Wo,hc2,w0v]⟩) rfl rfl rfl
    ·refine fR Z ?_;refine aL Z Z Z Z Z ?_;refine fM Z ?_;have hc2:inb s.z3.length x=false:=hc;exact zh 3 Z (ih b ⟨by omega,by rw [←hinv];simp [Wo,hc2]⟩) rfl rfl rfl
  ·rintro i x r b hi1 hi hd ⟨hl,hinv⟩ ih;refine fR Z ?_;refine lM Z Z Z ?_;refine fM Z ?_;refine Run.zj Z Z (by simp;omega) ?_;refine fR Z ?_;refine Mid.za Z Z Z hi1 Z Z ?_;refine fM Z ?_;refine Run.cond Z Z (fun hc=>?_) (fun hc=>?_)
   ·have hc2:ink s.z3.length name x=true:=hc;refine fR Z ?_;refine apM zA.enc b [x] Z Z Z Z Z ?_;refine fM Z ?_;refine aL Z Z Z Z Z ?_;refine fM Z ?_;exact zh 3 Z (ih (b++[x]) ⟨by simp;omega,by rw [←hinv];simp only [Y9,hc2,w0v]⟩) rfl rfl rfl
   ·refine fR Z ?_;refine aL Z Z Z Z Z ?_;refine fM Z ?_;have hc2:ink s.z3.length name x=false:=hc;exact zh 3 Z (ih b ⟨by omega,by rw [←hinv];simp [Y9,hc2]⟩) rfl rfl rfl
 ·rintro i x r b hi1 hi hd ⟨hl,hinv⟩ ih
  have htk:s.zr.take (i+1)=s.zr.take i++[x]:=by rw [w11,hi1];rfl
  have hlen:(s.zr.take i).length=i:=by simp;omega
  refine fR Z ?_;refine lM Z Z Z ?_;refine fM Z ?_;refine Run.zj Z Z (by simp;omega) ?_;refine fR Z ?_;refine Mid.za Z Z Z hi1 Z Z ?_;refine fM Z ?_;refine zu (s.zr.take i) (fun k (f:Bool)=>{env:=[(1,.t (.str name)),(2,.t (.lst (here.map ze.enc))),(3,.ptr 0 0),(7,.ptr 1 0),(8,.t (.int .i64 i)),(9,.ptr 3 0),(10,.t (.bool f)),(11,.t (.int .i64 k))],s:=⟨[(0,.cells [.t (.lst (s.z3.map sE)),.t s.doc,.t (.lst (s.keys.map zA.enc)),.t (.lst (s.zr.map zo.enc))]),(1,.cells [.t (.int .i64 s.z3.length),.own 2 6 (b.map zo.enc),.zJ,.zJ,.zJ,.zJ]),(2,.arr b.length),(3,.cells [.t (.str x.ty),.t (.str x.field),.t (.int .i64 x.graph),.t (.bool x.ext),.t (.lst (x.req.map sE)),.t (.lst (x.Zk.map sE))])],4⟩}) (fun r k f=>YF x (s.zr.take i) true=YF x r f) 4 true Z Z Z Z Z ?_ ?_
  ·intro f hf
   have hf':YF x (s.zr.take i) true=f:=by rw [hf];rfl
   refine fR Z ?_;refine Run.zf Z Z (by simp;omega) ?_;refine fR Z ?_;refine Run.cond Z Z (fun hc=>?_) (fun hc=>?_)
   ·have hc2:inR s.z3.length name x (YF x (s.zr.take i) true)=true:=by rw [hf'];exact hc
    refine fR Z ?_;refine apM zo.enc b [x] Z Z Z Z Z ?_;refine fM Z ?_;refine aL Z Z Z Z Z ?_;refine fM Z ?_;exact zh 3 Z (ih (b++[x]) ⟨by simp;omega,by rw [←hinv,htk];simp only [yo,hc2,w0v]⟩) rfl rfl rfl
   ·refine fR Z ?_;refine aL Z Z Z Z Z ?_;refine fM Z ?_
    have hc2:inR s.z3.length name x (YF x (s.zr.take i) true)=false:=by rw [hf'];exact hc
    exact zh 3 Z (ih b ⟨by omega,by rw [←hinv,htk];simp only [yo,hc2];simp⟩) rfl rfl rfl
  ·intro k y r' f hk1 hk hkd hf ihk
   have hk2:s.zr[k]?=some y:=by rw [w0p] at hk1;split at hk1<;>simp_all
   refine fR Z ?_;refine Run.zj Z Z (by simp;omega) ?_;refine fR Z ?_;refine Mid.za Z Z Z hk2 Z Z ?_;refine fM Z ?_;refine elG Z Z Z Z hk2 Z Z ?_;refine fM Z ?_;refine elG Z Z Z Z hk2 Z Z ?_;refine fM Z ?_;refine Run.cond Z Z (fun hc=>?_) (fun hc=>?_)
   ·refine fR Z ?_;refine aL Z Z Z Z Z ?_;refine fM Z ?_;have hc2:YS y x=true:=hc;exact zh 4 Z (ihk false (by rw [hf];simp only [YF,hc2,w0v])) Z Z Z
   ·refine fR Z ?_;refine aL Z Z Z Z Z ?_;refine fM Z ?_;have hc2:YS y x=false:=hc;exact zh 4 Z (ihk f (by rw [hf];simp only [YF,hc2];simp)) Z Z Z
end
end Go.GB.C26
namespace Go.GB.C26
open Go.GB
variable {P:Program}
def dR (n:Nat) (js:List zo) (ks:List zA) (sp:List ze) (A:List Int):Nat->List zo->List Int->Bool->List Int×Bool
 |_,[],D,ch=>(D,ch)
 |i,j::r,D,ch=>if yt n js ks sp D A j≠D.getD i 0 then dR n js ks sp A (i+1) r (D.set i (yt n js ks sp D A j)) true else dR n js ks sp A (i+1) r D ch
def aR (n:Nat) (js:List zo) (ks:List zA) (sp:List ze) (D:List Int):Nat->Nat->List Int->Bool->List Int×Bool
 |_,0,A,ch=>(A,ch)
 |i,c+1,A,ch=>if ZT n js ks sp D A i≠A.getD i 0 then aR n js ks sp D (i+1) c (A.set i (ZT n js ks sp D A i)) true else aR n js ks sp D (i+1) c A ch
def yR (n:Nat) (js:List zo) (ks:List zA) (sp:List ze) (D A:List Int):List Int×List Int×Bool:=
 ((dR n js ks sp A 0 js D false).1,(aR n js ks sp (dR n js ks sp A 0 js D false).1 0 n A (dR n js ks sp A 0 js D false).2).1,(aR n js ks sp (dR n js ks sp A 0 js D false).1 0 n A (dR n js ks sp A 0 js D false).2).2)
def z2i (n:Nat) (js:List zo) (ks:List zA) (sp:List ze):Nat->List Int->List Int->List Int×List Int
 |0,D,A=>(D,A)
 |f+1,D,A=>if (yR n js ks sp D A).2.2=true then z2i n js ks sp f (yR n js ks sp D A).1 (yR n js ks sp D A).2.1 else ((yR n js ks sp D A).1,(yR n js ks sp D A).2.1)
def z2S (n:Nat) (js:List zo) (ks:List zA) (sp:List ze):Nat->List Int->List Int->Prop
 |0,_,_=>False
 |f+1,D,A=>(yR n js ks sp D A).2.2=true->z2S n js ks sp f (yR n js ks sp D A).1 (yR n js ks sp D A).2.1
structure Fil (s:zH) (name:Str) (here sp:List ze) (js:List zo) (ks:List zA) (D1 A1:List Int):Prop where
 h1:s.z3.length<=2000
 h2:here.length<=100000
 h3:s.zr.length<=100000
 h4:s.keys.length<=100000
 e1:Wo s.z3.length here []=sp
 e2:yo s.z3.length name [] s.zr []=js
 e3:Y9 s.z3.length name s.keys []=ks
 hT:∀D A,D.length=js.length->A.length=s.z3.length->TOk s.z3.length js ks sp D A
 hD1:D1.length=js.length
 hA1:A1.length=s.z3.length
 ex:∃fuel,z2S s.z3.length js ks sp fuel (List.replicate js.length 0) (List.replicate s.z3.length 0)/\z2i s.z3.length js ks sp fuel (List.replicate js.length 0) (List.replicate s.z3.length 0)=(D1,A1)
def tC (s:zH) (sp:List ze) (js:List zo) (ks:List zA):List V:=
 [.t (.int .i64 s.z3.length),.t (.lst (js.map zo.enc)),.t (.lst (ks.map zA.enc)),.t (.lst (sp.map ze.enc)),.slc 4 0 js.length 1,.slc 5 0 s.z3.length 1]
section
variable {s:zH} {name:Str} {here sp:List ze} {js:List zo} {ks:List zA} {D1 A1:List Int}
theorem z8Y (H:Pr P) (h:Fil s name here sp js ks D1 A1):z6 P 58 [s.v,.t (.str name),.t (.lst (here.map ze.enc))] ⟨[],0⟩
  {v:= .ptr 2 0,ob:=[(2,.cells (tC s sp js ks)),(4,.cells (cE iE D1)),(5,.cells (cE iE A1))],n:=6}:=by
 obtain ⟨fuel,g1,g2⟩:=h.ex;have hjl:=(h.hT (List.replicate js.length 0) (List.replicate s.z3.length 0) (by simp) (by simp)).jsL;have hjO:=(h.hT (List.replicate js.length 0) (List.replicate s.z3.length 0) (by simp) (by simp)).jsO;have hgl:=h.h1;refine z6.run H.i58 H.mixed Z Z ?_;refine fR Z ?_
 refine Mid.Zt [] (z8V H h.h1 h.h2 h.h3 h.h4 h.e1 h.e2 h.e3 hjl) Z Z Z Z Z (by repeat' (first |exact trivial|exact rfl|refine And.intro ?_ ?_|exact (congrArg some (z5.zD _ _ _ _ _ _)).symm|exact (congrArg some (z5.zE _ _ _)).symm)) Z Z (ob':=[(2,.cells (tC s sp js ks)),(4,.cells (cE iE (List.replicate js.length 0))),(5,.cells (cE iE (List.replicate s.z3.length 0)))]) ((by simp only [wY,z5.zD,z5.zE];rfl)) Z Z ?_
 refine fM Z ?_
 refine z13 (β:=Nat×List Int×List Int×Bool) (fun b=>{env:=[(7,.ptr 2 0),(8,.t (.bool b.2.2.2))],s:=⟨[(2,.cells (tC s sp js ks)),(4,.cells (cE iE b.2.1)),(5,.cells (cE iE b.2.2.1))],6⟩})
  (fun b=>b.2.1.length=js.length/\b.2.2.1.length=s.z3.length/\(b.2.2.2=true->z2S s.z3.length js ks sp b.1 b.2.1 b.2.2.1/\z2i s.z3.length js ks sp b.1 b.2.1 b.2.2.1=(D1,A1))/\(b.2.2.2=false->(b.2.1,b.2.2.1)=(D1,A1))) (fun b=>b.1) 6 (fuel,List.replicate js.length 0,List.replicate s.z3.length 0,true) rfl ⟨by simp,by simp,fun _=>⟨g1,g2⟩,fun h=>by cases h⟩ rfl rfl rfl ?_ (he:=leEA) (hs:=leSA)
 rintro ⟨f,D,A,ch⟩ ⟨hD,hA,hs1,hs2⟩ ih;simp only at hD hA hs1 hs2
 cases ch with
 |false=>
  have:=hs2 rfl;cases this;refine fR Z ?_;refine Run.zf Z Z Z ?_;refine fR Z ?_;refine Run.fin Z (z4.chg Z Z ?_ ?_)
  ·exact .le (.same Z)
  ·exact leSA
 |true=>
  obtain ⟨hs3,hs4⟩:=hs1 rfl;refine fR Z ?_;refine Run.zj Z Z Z ?_;refine fR Z ?_;refine zu js (fun i (b:List Int×Bool)=>{env:=[(7,.ptr 2 0),(8,.t (.bool b.2)),(9,.t (.int .i64 i))],s:=⟨[(2,.cells (tC s sp js ks)),(4,.cells (cE iE b.1)),(5,.cells (cE iE A))],6⟩}) (fun r i b=>b.1.length=js.length/\dR s.z3.length js ks sp A 0 js D false=dR s.z3.length js ks sp A i r b.1 b.2) 6 (D,false) Z ⟨hD,rfl⟩ Z Z Z ?_ ?_
  ·rintro ⟨D',c1⟩ ⟨hD',hinv⟩;simp only at hD'
   have k1:dR s.z3.length js ks sp A 0 js D false=(D',c1):=by rw [hinv];rfl
   refine fR Z ?_;refine lM Z Z Z ?_;refine fM Z ?_;refine Run.zf Z Z (by simp) ?_;refine fR Z ?_
   refine zu (List.range s.z3.length) (fun i (b:List Int×Bool)=>{env:=[(7,.ptr 2 0),(8,.t (.bool b.2)),(11,.t (.int .i64 i))],s:=⟨[(2,.cells (tC s sp js ks)),(4,.cells (cE iE D')),(5,.cells (cE iE b.1))],6⟩}) (fun r i b=>b.1.length=s.z3.length/\aR s.z3.length js ks sp D' 0 s.z3.length A c1=aR s.z3.length js ks sp D' i r.length b.1 b.2) 6 (A,c1) Z ⟨hA,by simp⟩ rfl rfl rfl ?_ ?_
   ·rintro ⟨A',c2⟩ ⟨hA',hinv'⟩;simp only at hA'
    have k2:aR s.z3.length js ks sp D' 0 s.z3.length A c1=(A',c2):=by rw [hinv'];rfl
    have k3:yR s.z3.length js ks sp D A=(D',A',c2):=by simp only [yR,k1,k2]
    refine fR Z ?_;refine Run.zf Z Z (by simp) ?_;skip
    cases f with
    |zero=>exact hs3.elim
    |succ f=>
     simp only [z2S,k3] at hs3;simp only [z2i,k3] at hs4
     exact zh 6 Z (ih (f,D',A',c2) (by simp) ⟨hD',hA',fun e=>⟨hs3 e,by rw [w0c e] at hs4;exact hs4⟩,fun e=>by simp only at e;rw [e] at hs4;simpa using hs4⟩) rfl rfl rfl
   ·rintro i x r ⟨A',c2⟩ hi1 hi hd ⟨hA',hinv'⟩ ih2;simp only [w2k] at hi;simp only at hA'
    have hgd:A'[0+i*1]?=some (A'.getD i 0):=by
     have e:0+i*1=i:=by omega
     rw [e,w0e,w09 (by omega)];rfl
    refine fR Z ?_;refine Run.zj Z Z (by simp;omega) ?_;refine fR Z ?_
    refine Mid.yM [2,4,5] (z4w H (h.hT D' A' hD' hA') (i:Int)) Z Z Z Z zM (by repeat' (first |exact trivial|exact rfl|refine And.intro ?_ ?_|exact (congrArg some (z5.zD _ _ _ _ _ _)).symm|exact (congrArg some (z5.zE _ _ _)).symm)) Z ?_
    refine fM Z ?_;refine Mid.iaS Z Z (by omega) Z ?_;refine Mid.ldE Z Z (hgd) Z ?_;refine fM Z ?_;refine Run.cond Z Z (fun hc=>?_) (fun hc=>?_)
    ·have hc2:ZT s.z3.length js ks sp D' A' i≠A'.getD i 0:=by simpa [iE] using hc
     refine fR Z ?_;refine Mid.iaS Z Z (by omega) Z ?_;refine Mid.stE Z Z ((by show 0+i*1<A'.length;omega)) Z Z ?_;refine fM Z ?_;refine aL Z Z Z Z Z ?_;refine fM Z ?_;exact zh 6 Z (ih2 (A'.set i (ZT s.z3.length js ks sp D' A' i),true) ⟨by simp [hA'],by rw [hinv'];simp only [w0b,aR];rw [w0c hc2]⟩) rfl rfl rfl
    ·have hc2:ZT s.z3.length js ks sp D' A' i=A'.getD i 0:=by simpa [iE] using hc
     refine fR Z ?_;refine aL Z Z Z Z Z ?_;refine fM Z ?_;exact zh 6 Z (ih2 (A',c2) ⟨hA',by rw [hinv'];simp only [w0b,aR];rw [w0d (fun e=>e hc2)]⟩) rfl rfl rfl
  ·rintro i x r ⟨D',c1⟩ hi1 hi hd ⟨hD',hinv⟩ ih2;simp only at hD'
   have hgd:D'[0+i*1]?=some (D'.getD i 0):=by
    have e:0+i*1=i:=by omega
    rw [e,w0e,w09 (by omega)];rfl
   refine fR Z ?_;refine lM Z Z Z ?_;refine fM Z ?_;refine Run.zj Z Z (by simp;omega) ?_;refine fR Z ?_;refine Mid.za Z Z Z hi1 Z Z ?_;refine fM Z ?_
   refine Mid.yM [2,4,5] (zbl H (h.hT D' A hD' hA) x (hjO x (zMG hi1)).2.1) Z Z Z Z zM (by repeat' (first |exact trivial|exact rfl|refine And.intro ?_ ?_|exact (congrArg some (z5.zD _ _ _ _ _ _)).symm|exact (congrArg some (z5.zE _ _ _)).symm)) Z ?_
   refine fM Z ?_;refine Mid.iaS Z Z (by omega) Z ?_;refine Mid.ldE Z Z (hgd) Z ?_;refine fM Z ?_;refine Run.cond Z Z (fun hc=>?_) (fun hc=>?_)
   ·have hc2:yt s.z3.length js ks sp D' A x≠D'.getD i 0:=by simpa [iE] using hc
    refine fR Z ?_;refine Mid.iaS Z Z (by omega) Z ?_;refine Mid.stE Z Z ((by show 0+i*1<D'.length;omega)) Z Z ?_;refine fM Z ?_;refine aL Z Z Z Z Z ?_;refine fM Z ?_;exact zh 6 Z (ih2 (D'.set i (yt s.z3.length js ks sp D' A x),true) ⟨by simp [hD'],by rw [hinv];simp only [dR];rw [w0c hc2]⟩) rfl rfl rfl
   ·have hc2:yt s.z3.length js ks sp D' A x=D'.getD i 0:=by simpa [iE] using hc
    refine fR Z ?_;refine aL Z Z Z Z Z ?_;refine fM Z ?_;exact zh 6 Z (ih2 (D',c1) ⟨hD',by rw [hinv];simp only [dR];rw [w0d (fun e=>e hc2)]⟩) rfl rfl rfl
end
end Go.GB.C26
namespace Go.GB.C26
open Go.GB
variable {P:Program}
def tC4 (s:zH) (sp:List ze) (js:List zo) (ks:List zA):List V:=
 [.t (.int .i64 s.z3.length),.t (.lst (js.map zo.enc)),.t (.lst (ks.map zA.enc)),.t (.lst (sp.map ze.enc)),.slc 5 0 js.length 1,.slc 6 0 s.z3.length 1]
section
variable {s:zH} {name:Str} {here sp:List ze} {js:List zo} {ks:List zA} {D A:List Int}
theorem zex (H:Pr P) (h:Fil s name here sp js ks D A) (f:Str):z6 P 33 [s.v,.t (.str name),.t (.lst (here.map ze.enc)),.t (.str f)] ⟨[],0⟩ {v:= .tup [.t (.int .i64 (Zw s.z3.length js D A f)),.t (.bool (decide (Zw s.z3.length js D A f>0)))]}:=by
 refine z6.run H.i33 H.mixed Z Z ?_;refine fR Z ?_
 refine Mid.Zt [] (z8Y H h) Z Z Z Z Z (by repeat' (first |exact trivial|exact rfl|refine And.intro ?_ ?_|exact (congrArg some (z5.zD _ _ _ _ _ _)).symm|exact (congrArg some (z5.zE _ _ _)).symm)) Z Z (ob':=[(3,.cells (tC4 s sp js ks)),(5,.cells (cE iE D)),(6,.cells (cE iE A))]) ((by simp only [wY,z5.zD,z5.zE];rfl)) Z Z ?_
 refine fM Z ?_
 refine Mid.yM [3,5,6] (z3V H (h.hT D A h.hD1 h.hA1) f) Z Z Z Z zM (by repeat' (first |exact trivial|exact rfl|refine And.intro ?_ ?_|exact (congrArg some (z5.zD _ _ _ _ _ _)).symm|exact (congrArg some (z5.zE _ _ _)).symm)) Z ?_
 refine fM Z ?_;refine Run.fin Z (z4.go ?_);exact .wx (.t Z) (.t Z)
end
end Go.GB.C26
namespace Go.GB.C26
open Go.GB
variable {P:Program}
end Go.GB.C26
