/-
  YtablikngmojchaaGreatP7: lemmas. No conditions.
-/
import Derived.Test.YtablikngmojchaaGreatP6
import Derived.Test.YtablikngmojchaaGreatP4
import Derived.Test.YtablikngmojchaaGreatP5
set_option linter.all false
set_option maxRecDepth 100000
set_option maxHeartbeats 16000000
namespace Go.GB
theorem LeZ.zgJ {s:S} {m m' k off:Nat} {cs:List V} {ts:List T} (hk:m<=k) (hs:zj s.sto k=some (.cells cs)) (hts:(cs.drop off).mapM V.zw=some ts):LeZ s m m' (.ptr k off) (.t (.ptr ts)):=by
 intro Λ v hm hr hv
 cases hv with
 |@ptr b _ _ hkn hlab=>
  obtain ⟨_,b',arr,e,h1,h2,h3,h4⟩:=hr.sto k _ hs;obtain rfl:=hr.inj b b' k hlab h1;obtain ⟨k1,k2⟩:=z0P _ ts hts
  have hlab':(Λ.cut m m').lab b= .fix none:=by simp [L.cut,hlab];omega
  have hat:∀(j:Nat) (x:T),ts[j]?=some x->∃c,cs[off+j]?=some c/\c.zw=some x/\off+j<arr.size:=fun j x hj=>by
   have hjl:j<ts.length:=(w02.1 hj).1;rw [←k1,List.length_drop] at hjl
   have hc:(cs.drop off)[j]?=some (cs[off+j]'(by omega)):=by
    rw [w0z,w0f (by omega)]
   exact ⟨cs[off+j]'(by omega),w0f (by omega),k2 j _ x hc hj,by omega⟩
  refine .t (.ptr ts b off (fun j=>arr.getD (off+j) undef) (fun j x _=>by simp [Rd,hlab']) (fun j x hj=>?_) (fun j x hj=>?_))
  ·obtain ⟨c,_,_,hl⟩:=hat j x hj;show Λ.w.cell? _=_;simp [World.cell?,h2,hl]
  ·obtain ⟨c,hc,hc1,hl⟩:=hat j x hj
   have hv:arr[off+j]?=some (arr.getD (off+j) undef):=by simp [hl]
   exact ((h4 (off+j) _ c hv hc).zw hc1).cut
end Go.GB
namespace Go.GB.C24
open Go.GB Go.GB.C11
variable {P:Program}
def yZ (a b:List Input) (n:Str):List z4:=a.flatMap (yy b n)++zE (Yd a) (fun y=>zK n 45 y.name) b
theorem z66 (a b:List Input) (n:Str):(yZ a b n).length<=a.length+b.length:=by
 have h1:=zO (l:=a) (g:=yy b n) fun x _=>z4k _ _ x;have h2:=ZC (Yd a) (fun y=>zK n 45 y.name) b;simp only [yZ,w03];omega
theorem Wt (a b:Ref):W8 a b=W8 b a:=by
 rw [w1n,wy,wy];exact eq_comm
theorem z8u (H:zX P) (n:Str) (hn:n.length<=140737488355328) (F:List z4) (hF:F.length<=4398000000000) (a b:List Input) (ha:a.length<=1000) (hb:b.length<=1000) (hao:∀x,x∈a->x.Ok/\x.name≠[]) (hbo:∀x,x∈b->x.Ok/\x.name≠[]):z6 P 40 [.ptr 0 0,.t (.lst (a.map Input.enc)),.t (.lst (b.map Input.enc))] ⟨[(0,.cells [.t (.str n),.own 1 2 ((F).map z4.enc)]),(1,.arr (F).length)],2⟩ {v:= .tup [],ob:=[(0,.cells [.t (.str n),.own 1 2 ((F++yZ a b n).map z4.enc)]),(1,.arr (F++yZ a b n).length)],rd:=true}:=by
 have e0:F++(a.flatMap (yy b n)++zE (Yd a) (fun y=>zK n 45 y.name) b)=F++yZ a b n:=rfl;have hlen:=z66 a b n
 have hTl:(F++yZ a b n).length<=4398046511104:=by simp only [w03];omega
 generalize F++yZ a b n=tot at e0 hTl⊢;refine z6.run H.i40 H.mixed Z Z ?_;refine fR Z ?_;refine lM Z Z Z ?_;refine fM Z ?_;refine zu a (fun i (C:List z4)=>{env:=[(0,.ptr 0 0),(1,.t (.lst (a.map Input.enc))),(2,.t (.lst (b.map Input.enc))),(14,.t (.lst (a.map Input.enc))),(15,.t (.int .i64 a.length)),(16,.t (.int .i64 i))],s:=⟨[(0,.cells [.t (.str n),.own 1 2 ((C).map z4.enc)]),(1,.arr (C).length)],2⟩}) (fun r i C=>C++(r.flatMap (yy b n)++zE (Yd a) (fun y=>zK n 45 y.name) b)=tot) 2 F Z e0 Z Z Z ?_ ?_
 ·intro C hC;refine fR Z ?_;refine Run.ze Z Z (by simp) ?_;refine fR Z ?_;refine lM Z Z Z ?_;refine fM Z ?_;refine zu b (fun i (C:List z4)=>{env:=[(0,.ptr 0 0),(1,.t (.lst (a.map Input.enc))),(54,.t (.lst (b.map Input.enc))),(55,.t (.int .i64 b.length)),(56,.t (.int .i64 i))],s:=⟨[(0,.cells [.t (.str n),.own 1 2 ((C).map z4.enc)]),(1,.arr (C).length)],2⟩}) (fun r i C=>C++zE (Yd a) (fun y=>zK n 45 y.name) r=tot) 2 C Z (by simpa using hC) Z Z Z ?_ ?_
  ·intro D hD
   have hD2:D=tot:=by simpa [zE] using hD
   rw [hD2];refine fR Z ?_;refine Run.ze Z Z (by simp) ?_;skip;refine Run.fin Z (z3.chg Z Z ?_ ?_)
   ·exact .le (.same Z)
   ·exact leSA
  ·intro i x r D h1 hi hdr hD ih
   have hD:D++(one (Yd a x) (zK n 45 x.name)++zE (Yd a) (fun y=>zK n 45 y.name) r)=tot:=by rw [←hD];simp [zE]
   have hDl:D.length<=4398046511104:=by have:=congrArg List.length hD;simp only [w03] at this;omega
   have hx:=hbo x (zMG h1);have hxn:=hx.1.nm;have g1:=wx H n D hDl (Yd a x) 45 x.name (by omega) (by omega);rw [yp _ _ _ hx.2] at g1;refine fR Z ?_;refine Run.zf Z Z (by simp;omega) ?_;refine fR Z ?_;refine Mid.zb Z Z Z h1 Z Z ?_;refine fM Z ?_;refine Mid.call (qU H.p13.toPr a (by omega) x.name) Z Z Z Z ?_;refine fM Z ?_
   refine Mid.yH [0,1] (g1) Z Z Z Z (by simp [Z1];simp [zd.bd,V.bds,V.bd]) (by repeat' (first |exact trivial|exact rfl|refine And.intro ?_ ?_|exact (congrArg some (zd.ren_mE _ _ _ _ _ _)).symm|exact (congrArg some (zd.ren_cE _ _ _)).symm|(refine (congrArg some (zd.Za ?_ _ _)).symm;intro _;rfl))) Z Z (ob':=[(0,.cells [.t (.str n),.own 1 2 ((D++one (Yd a x) (zK n 45 x.name)).map z4.enc)]),(1,.arr (D++one (Yd a x) (zK n 45 x.name)).length)]) (rfl) Z Z ?_
   refine fM Z ?_;refine aL Z Z Z Z Z ?_;refine fM Z ?_;exact zl 2 Z (ih (D++one (Yd a x) (zK n 45 x.name)) (by rw [←hD];simp)) Z Z Z
 ·intro i x r D h1 hi hdr hD ih
  have hD:D++(yy b n x++(r.flatMap (yy b n)++zE (Yd a) (fun y=>zK n 45 y.name) b))=tot:=by rw [←hD];simp
  have hDl:D.length<=4398046511104:=by have:=congrArg List.length hD;simp only [w03] at this;omega
  have hx:=hao x (zMG h1);have hxn:=hx.1.nm;refine fR Z ?_;refine Run.zf Z Z (by simp;omega) ?_;refine fR Z ?_;refine Mid.zb Z Z Z h1 Z Z ?_;refine fM Z ?_;refine Mid.call (qU H.p13.toPr b (by omega) x.name) Z Z Z Z ?_;refine fM Z ?_
  cases hf:zn x.name b with
  |none=>
   have e:yy b n x=[zK n 45 x.name]:=by simp [yy,hf]
   rw [e] at hD;have g1:=wx H n D hDl true 45 x.name (by omega) (by omega);rw [yp _ _ _ hx.2,z3R] at g1;refine Run.zf Z Z Z ?_;refine fR Z ?_
   refine Mid.yH [0,1] (g1) Z Z Z Z (by simp [Z1];simp [zd.bd,V.bds,V.bd]) (by repeat' (first |exact trivial|exact rfl|refine And.intro ?_ ?_|exact (congrArg some (zd.ren_mE _ _ _ _ _ _)).symm|exact (congrArg some (zd.ren_cE _ _ _)).symm|(refine (congrArg some (zd.Za ?_ _ _)).symm;intro _;rfl))) Z Z (ob':=[(0,.cells [.t (.str n),.own 1 2 ((D++[zK n 45 x.name]).map z4.enc)]),(1,.arr (D++[zK n 45 x.name]).length)]) (rfl) Z Z ?_
   refine fM Z ?_;refine aL Z Z Z Z Z ?_;refine fM Z ?_;exact zl 2 Z (ih (D++[zK n 45 x.name]) (by rw [←hD];simp)) Z Z Z
  |some y=>
   have hy:=hbo y (Yr hf);refine Run.ze Z Z Z ?_;refine fR Z ?_;refine Mid.call (z0R H.p13.toPr x.ty y.ty hx.1.t hy.1.t) Z Z Z Z ?_;refine fM Z ?_;refine Run.cond Z Z (fun hs=>?_) (fun hs=>?_)
   ·have hs':W8 y.ty x.ty=false:=by rw [Wt];simpa using hs
    have e:yy b n x=[zK n 10 x.name]:=by simp [yy,hf,hs']
    rw [e] at hD;have g1:=wx H n D hDl true 10 x.name (by omega) (by omega);rw [yp _ _ _ hx.2,z3R] at g1;refine fR Z ?_
    refine Mid.yH [0,1] (g1) Z Z Z Z (by simp [Z1];simp [zd.bd,V.bds,V.bd]) (by repeat' (first |exact trivial|exact rfl|refine And.intro ?_ ?_|exact (congrArg some (zd.ren_mE _ _ _ _ _ _)).symm|exact (congrArg some (zd.ren_cE _ _ _)).symm|(refine (congrArg some (zd.Za ?_ _ _)).symm;intro _;rfl))) Z Z (ob':=[(0,.cells [.t (.str n),.own 1 2 ((D++[zK n 10 x.name]).map z4.enc)]),(1,.arr (D++[zK n 10 x.name]).length)]) (rfl) Z Z ?_
    refine fM Z ?_;refine aL Z Z Z Z Z ?_;refine fM Z ?_;exact zl 2 Z (ih (D++[zK n 10 x.name]) (by rw [←hD];simp)) Z Z Z
   ·have hs':W8 y.ty x.ty=true:=by rw [Wt];simpa using hs
    have e:yy b n x=one (!alike x y) (zK n 22 x.name):=by rw [z3x];simp [yy,hf,hs']
    rw [e] at hD;have g1:=wx H n D hDl (!alike x y) 22 x.name (by omega) (by omega);rw [yp _ _ _ hx.2] at g1;refine fR Z ?_;refine Mid.call (z5A H x y hx.1 hy.1) Z Z Z Z ?_;refine fM Z ?_
    refine Mid.yH [0,1] (g1) Z Z Z Z (by simp [Z1];simp [zd.bd,V.bds,V.bd]) (by repeat' (first |exact trivial|exact rfl|refine And.intro ?_ ?_|exact (congrArg some (zd.ren_mE _ _ _ _ _ _)).symm|exact (congrArg some (zd.ren_cE _ _ _)).symm|(refine (congrArg some (zd.Za ?_ _ _)).symm;intro _;rfl))) Z Z (ob':=[(0,.cells [.t (.str n),.own 1 2 ((D++one (!alike x y) (zK n 22 x.name)).map z4.enc)]),(1,.arr (D++one (!alike x y) (zK n 22 x.name)).length)]) (rfl) Z Z ?_
    refine fM Z ?_;refine aL Z Z Z Z Z ?_;refine fM Z ?_;exact zl 2 Z (ih (D++one (!alike x y) (zK n 22 x.name)) (by rw [←hD];simp)) Z Z Z
def Wo (l:List zh) (x:zh):zh:=match zo x.name l with|some y=>⟨x.name,Zw x.zg y.zg⟩|none=>x
def ZI (a b:List zh) (n:Str):List z4:=a.flatMap (ym b n)++zE (wU a) (fun y=>zK n 45 y.name) b
theorem z4J (a b:List zh) (n:Str):(ZI a b n).length<=a.length+b.length:=by
 have h1:=zO (l:=a) (g:=ym b n) fun x _=>z3i _ _ x;have h2:=ZC (wU a) (fun y=>zK n 45 y.name) b;simp only [ZI,w03];omega
structure MK (x:zh):Prop where
 ok:x.Ok
 dl:DL x.zg
 da:DA x.zg
 nn:x.name≠[]
theorem z7S (H:zX P) (n:Str) (hn:n.length<=140737488355328) (F:List z4) (hF:F.length<=4398000000000) (a b:List zh) (ha:a.length<=1000) (hb:b.length<=1000) (hao:∀x,x∈a->MK x) (hbo:∀x,x∈b->MK x):z6 P 39 [.ptr 0 0,.t (.lst (a.map zh.enc)),.t (.lst (b.map zh.enc))] ⟨[(0,.cells [.t (.str n),.own 1 2 ((F).map z4.enc)]),(1,.arr (F).length)],2⟩ {v:= .t (.lst ((a.map (Wo b)).map zh.enc)),ob:=[(0,.cells [.t (.str n),.own 1 2 ((F++ZI a b n).map z4.enc)]),(1,.arr (F++ZI a b n).length)],rd:=true}:=by
 have e0:F++(a.flatMap (ym b n)++zE (wU a) (fun y=>zK n 45 y.name) b)=F++ZI a b n:=rfl;have hlen:=z4J a b n
 have hTl:(F++ZI a b n).length<=4398046511104:=by simp only [w03];omega
 generalize F++ZI a b n=tot at e0 hTl⊢;refine z6.run H.i39 H.mixed Z Z ?_;refine fR Z ?_;refine lM Z Z Z ?_;refine fM Z ?_;refine zu a (fun i (q:List z4×List zh)=>{env:=[(0,.ptr 0 0),(1,.t (.lst (a.map zh.enc))),(2,.t (.lst (b.map zh.enc))),(7,.own 2 2 (q.2.map zh.enc)),(16,.t (.lst (a.map zh.enc))),(17,.t (.int .i64 a.length)),(18,.t (.int .i64 i))],s:=⟨[(0,.cells [.t (.str n),.own 1 2 (q.1.map z4.enc)]),(1,.arr q.1.length),(2,.arr q.2.length)],3⟩}) (fun r i q=>q.1++(r.flatMap (ym b n)++zE (wU a) (fun y=>zK n 45 y.name) b)=tot/\q.2++r.map (Wo b)=a.map (Wo b)) 2 (F,[]) Z ⟨e0,rfl⟩ Z Z Z ?_ ?_
 ·rintro ⟨C,M⟩ ⟨hC,hM⟩;dsimp only at hC hM⊢
  have hM2:M=a.map (Wo b):=by simpa using hM
  refine fR Z ?_;refine Run.ze Z Z (by simp) ?_;refine fR Z ?_;refine lM Z Z Z ?_;refine fM Z ?_;refine zu b (fun i (C:List z4)=>{env:=[(0,.ptr 0 0),(1,.t (.lst (a.map zh.enc))),(7,.t (.lst (M.map zh.enc))),(50,.t (.lst (b.map zh.enc))),(51,.t (.int .i64 b.length)),(52,.t (.int .i64 i))],s:=⟨[(0,.cells [.t (.str n),.own 1 2 ((C).map z4.enc)]),(1,.arr (C).length)],2⟩}) (fun r i C=>C++zE (wU a) (fun y=>zK n 45 y.name) r=tot) 2 C Z (by simpa using hC) Z Z Z ?_ ?_
  ·intro D hD
   have hD2:D=tot:=by simpa [zE] using hD
   rw [hD2,←hM2];refine fR Z ?_;refine Run.ze Z Z (by simp) ?_;refine fR Z ?_;refine Run.fin Z (z3.chg Z Z ?_ ?_)
   ·exact .t Z
   ·exact leSA
  ·intro i x r D h1 hi hdr hD ih
   have hD:D++(one (wU a x) (zK n 45 x.name)++zE (wU a) (fun y=>zK n 45 y.name) r)=tot:=by rw [←hD];simp [zE]
   have hDl:D.length<=4398046511104:=by have:=congrArg List.length hD;simp only [w03] at this;omega
   have hx:=hbo x (zMG h1);have hxn:=hx.ok.nm;have g1:=wx H n D hDl (wU a x) 45 x.name (by omega) (by omega);rw [yp _ _ _ hx.nn] at g1;refine fR Z ?_;refine Run.zf Z Z (by simp;omega) ?_;refine fR Z ?_;refine Mid.zb Z Z Z h1 Z Z ?_;refine fM Z ?_;refine Mid.call (z4u H a (by omega) x.name) Z Z Z Z ?_;refine fM Z ?_
   refine Mid.yH [0,1] (g1) Z Z Z Z (by simp [Z1];simp [zd.bd,V.bds,V.bd]) (by repeat' (first |exact trivial|exact rfl|refine And.intro ?_ ?_|exact (congrArg some (zd.ren_mE _ _ _ _ _ _)).symm|exact (congrArg some (zd.ren_cE _ _ _)).symm|(refine (congrArg some (zd.Za ?_ _ _)).symm;intro _;rfl))) Z Z (ob':=[(0,.cells [.t (.str n),.own 1 2 ((D++one (wU a x) (zK n 45 x.name)).map z4.enc)]),(1,.arr (D++one (wU a x) (zK n 45 x.name)).length)]) (rfl) Z Z ?_
   refine fM Z ?_;refine aL Z Z Z Z Z ?_;refine fM Z ?_;exact zl 2 Z (ih (D++one (wU a x) (zK n 45 x.name)) (by rw [←hD];simp)) Z Z Z
 ·rintro i x r ⟨D,M⟩ h1 hi hdr ⟨hD,hM⟩ ih;dsimp only at hD hM⊢
  have hD:D++(ym b n x++(r.flatMap (ym b n)++zE (wU a) (fun y=>zK n 45 y.name) b))=tot:=by rw [←hD];simp
  have hDl:D.length+(ym b n x).length<=4398046511104:=by have:=congrArg List.length hD;simp only [w03] at this;omega
  have hM:M++(Wo b x::r.map (Wo b))=a.map (Wo b):=hM
  have hMl:M.length<=1000:=by have:=congrArg List.length hM;simp only [w03,w0r] at this;omega
  have hx:=hao x (zMG h1);have hxn:=hx.ok.nm;refine fR Z ?_;refine Run.zf Z Z (by simp;omega) ?_;refine fR Z ?_;refine Mid.zb Z Z Z h1 Z Z ?_;refine fM Z ?_;refine Mid.call (z4u H b (by omega) x.name) Z Z Z Z ?_;refine fM Z ?_
  cases hf:zo x.name b with
  |none=>
   have e:ym b n x=[zK n 45 x.name]:=by simp [ym,hf]
   have e2:Wo b x=x:=by simp [Wo,hf]
   rw [e] at hD hDl;rw [e2] at hM;have g1:=wx H n D (by omega) true 45 x.name (by omega) (by omega);rw [yp _ _ _ hx.nn,z3R] at g1
   refine Mid.yH [0,1] (g1) Z Z Z Z (by simp [Z1];simp [zd.bd,V.bds,V.bd]) (by repeat' (first |exact trivial|exact rfl|refine And.intro ?_ ?_|exact (congrArg some (zd.ren_mE _ _ _ _ _ _)).symm|exact (congrArg some (zd.ren_cE _ _ _)).symm|(refine (congrArg some (zd.Za ?_ _ _)).symm;intro _;rfl))) Z Z (ob':=[(0,.cells [.t (.str n),.own 1 2 ((D++[zK n 45 x.name]).map z4.enc)]),(1,.arr (D++[zK n 45 x.name]).length)]) (rfl) Z Z ?_
   refine fM Z ?_;refine Run.ze Z Z Z ?_;refine fR Z ?_;refine apM zh.enc M [x] Z Z Z Z Z ?_ (h1:=by first |omega|(simp;omega)|(simp;done)) (h2:=by first |omega|(simp;omega)|(simp;done));refine fM rfl ?_;refine aL rfl rfl rfl rfl rfl ?_;refine fM rfl ?_;exact zl 3 rfl (ih (D++[zK n 45 x.name],M++[x]) ⟨by rw [←hD];simp,by rw [←hM];simp⟩) rfl rfl rfl
  |some y=>
   have hy:=hbo y (ZS hf)
   have e:ym b n x=one (Z4 x.zg y.zg) (zK n 29 x.name):=by simp [ym,hf]
   have e2:Wo b x=⟨x.name,Zw x.zg y.zg⟩:=by simp [Wo,hf]
   rw [e] at hD hDl;rw [e2] at hM;have g1:=wx H n D (by omega) false 45 x.name (by omega) (by omega);rw [z5o,w1j] at g1;have g2:=z3D H n D (by omega) x.zg y.zg hx.dl hy.dl hx.da hy.da x.name (by omega) (by omega);rw [yp _ _ _ hx.nn] at g2
   refine Mid.yH [0,1] (g1) Z Z Z Z (by simp [Z1];simp [zd.bd,V.bds,V.bd]) (by repeat' (first |exact trivial|exact rfl|refine And.intro ?_ ?_|exact (congrArg some (zd.ren_mE _ _ _ _ _ _)).symm|exact (congrArg some (zd.ren_cE _ _ _)).symm|(refine (congrArg some (zd.Za ?_ _ _)).symm;intro _;rfl))) Z Z (ob':=[(0,.cells [.t (.str n),.own 1 2 ((D).map z4.enc)]),(1,.arr (D).length)]) (rfl) Z Z ?_
   refine fM Z ?_;refine Run.zf Z Z Z ?_;refine fR Z ?_
   refine Mid.yH [0,1] (g2) Z Z Z Z (by simp [Z1];simp [zd.bd,V.bds,V.bd]) (by repeat' (first |exact trivial|exact rfl|refine And.intro ?_ ?_|exact (congrArg some (zd.ren_mE _ _ _ _ _ _)).symm|exact (congrArg some (zd.ren_cE _ _ _)).symm|(refine (congrArg some (zd.Za ?_ _ _)).symm;intro _;rfl))) Z Z (ob':=[(0,.cells [.t (.str n),.own 1 2 ((D++one (Z4 x.zg y.zg) (zK n 29 x.name)).map z4.enc)]),(1,.arr (D++one (Z4 x.zg y.zg) (zK n 29 x.name)).length)]) (rfl) Z Z ?_
   refine fM Z ?_;refine apM zh.enc M [(⟨x.name,Zw x.zg y.zg⟩:zh)] Z Z Z Z Z ?_ (h1:=by first |omega|(simp;omega)|(simp;done)) (h2:=by first |omega|(simp;omega)|(simp;done));refine fM rfl ?_;refine aL rfl rfl rfl rfl rfl ?_;refine fM rfl ?_;exact zl 3 rfl (ih (D++one (Z4 x.zg y.zg) (zK n 29 x.name),M++[⟨x.name,Zw x.zg y.zg⟩]) ⟨by rw [←hD];simp,by rw [←hM];simp⟩) rfl rfl rfl
theorem zaE {l:List Field} {x:Field} (h:z5 x.name l=none):Y5 l x=zH x:=by
 simp [Y5,h,zH,Zw,Zi,Field.zero]
theorem zbg {l:List Field} {x y:Field} (h:z5 x.name l=some y):Y5 l x=⟨x.name,x.args,yq x.ty y.ty,Zw x.zg y.zg⟩:=by
 simp [Y5,h]
theorem z90 (H:zX P) {k:Nat} (hk:k<=1000000) (n:Str) (hn:n.length<=140737488355328) (F:List z4) (hF:F.length<=2000000) (a b:Def) (ha:DB k a) (hb:DB k b) (na:NM a) (nb:NM b):z6 P 37 [.ptr 0 0,a.v,b.v] ⟨[(0,.cells [.t (.str n),.own 1 2 ((F).map z4.enc)]),(1,.arr (F).length)],2⟩ {v:= .t (.lst ((a.fields.map (Y5 b.fields)++Zu a.fields b.fields).map Field.enc)),ob:=[(0,.cells [.t (.str n),.own 1 2 ((F++a.fields.flatMap (Zk b.fields n)).map z4.enc)]),(1,.arr (F++a.fields.flatMap (Zk b.fields n)).length)],rd:=true}:=by
 have hal:=ha.fl;have hbl:=hb.fl;have h1:=zO (l:=a.fields) (g:=Zk b.fields n) fun x hx=>Qp hb.f _ (ha.f x hx)
 have hTl:(F++a.fields.flatMap (Zk b.fields n)).length<=4398000000000:=by
  have:a.fields.length*2002<=1000000*2002:=w0s _ (by omega);simp only [w03];omega
 generalize hT:F++a.fields.flatMap (Zk b.fields n)=tot at hTl⊢;have hRl:=z28 a.fields b.fields;generalize hR:a.fields.map (Y5 b.fields)++Zu a.fields b.fields=res
 have hresl:res.length<=2000000:=by rw [←hR];simp;omega
 refine z6.run H.i37 H.mixed Z Z ?_;refine fR Z ?_;refine lM Z Z Z ?_;refine fM Z ?_;refine zu a.fields (fun i (q:List z4×List Field)=>{env:=[(0,.ptr 0 0),(4,.ptr 2 0),(5,.ptr 3 0),(7,.own 4 5 (q.2.map Field.enc)),(20,.t (.lst (a.fields.map Field.enc))),(21,.t (.int .i64 a.fields.length)),(22,.t (.int .i64 i))],s:=⟨[(0,.cells [.t (.str n),.own 1 2 (q.1.map z4.enc)]),(1,.arr q.1.length),(2,(TCo a)),(3,(TCo b)),(4,.arr q.2.length)],5⟩}) (fun r i q=>q.1++r.flatMap (Zk b.fields n)=tot/\q.2++(r.map (Y5 b.fields)++Zu a.fields b.fields)=res) 4 (F,[]) Z ⟨hT,hR⟩ Z Z Z ?_ ?_
 ·rintro ⟨C,M⟩ ⟨hC,hM⟩;dsimp only at hC hM⊢
  have hC2:C=tot:=by simpa using hC
  rw [hC2];refine fR Z ?_;refine Run.ze Z Z (by simp) ?_;refine fR Z ?_;refine lM Z Z Z ?_;refine fM Z ?_;refine zu b.fields (fun i (M:List Field)=>{env:=[(4,.ptr 2 0),(7,.own 4 5 (M.map Field.enc)),(71,.t (.lst (b.fields.map Field.enc))),(72,.t (.int .i64 b.fields.length)),(73,.t (.int .i64 i))],s:=⟨[(0,.cells [.t (.str n),.own 1 2 (tot.map z4.enc)]),(1,.arr tot.length),(2,(TCo a)),(4,.arr M.length)],5⟩}) (fun r i M=>M++Zu a.fields r=res) 5 M Z (by simpa using hM) Z Z Z ?_ ?_
  ·intro N hN
   have hN2:N=res:=by simpa [Zu] using hN
   rw [hN2];refine fR Z ?_;refine Run.ze Z Z (by simp) ?_;refine fR Z ?_;refine Run.fin Z (z3.chg Z Z ?_ ?_)
   ·exact .own Z
   ·exact leSA
  ·intro i x r N h1 hi hdr hN ih;have hxm:=zMG h1;have hxb:=hb.f x hxm
   have hNl:N.length+(Zu a.fields (x::r)).length<=2000000:=by have:=congrArg List.length hN;simp only [w03] at this;omega
   have g1:=qY H hk x hxb (nb.fa x hxm) (nb.fi x hxm);refine fR Z ?_;refine Run.zf Z Z (by simp;omega) ?_;refine fR Z ?_;refine Mid.zb Z Z Z h1 Z Z ?_;refine fM Z ?_;refine Mid.call (qW H.p13.toPr a (by omega) x.name) Z Z Z Z ?_;refine fM Z ?_;refine Run.cond Z Z (fun hc=>?_) (fun hc=>?_)
   ·have e:Zu a.fields (x::r)=zH x::Zu a.fields r:=by simp only [Zu];rw [w0e (show Ze a.fields x=true from hc)]
    rw [e] at hN hNl;refine fR Z ?_;refine Mid.call (g1) Z Z Z Z ?_;refine fM Z ?_;refine apM Field.enc N [zH x] Z Z Z Z Z ?_ (h1:=by first |omega|(simp;omega)|(simp;done)) (h2:=by first |omega|(simp;omega)|(simp;done));refine fM rfl ?_;refine aL rfl rfl rfl rfl rfl ?_;refine fM rfl ?_;exact zl 5 rfl (ih (N++[zH x]) (by rw [←hN];simp)) rfl rfl rfl
   ·have e:Zu a.fields (x::r)=Zu a.fields r:=by simp only [Zu];rw [w0g (show ¬ Ze a.fields x=true by rw [show Ze a.fields x=false from hc];simp)]
    rw [e] at hN;refine fR Z ?_;refine aL Z Z Z Z Z ?_;refine fM Z ?_;exact zl 5 Z (ih N hN) Z Z Z
 ·rintro i x r ⟨D,M⟩ h1 hi hdr ⟨hD,hM⟩ ih;dsimp only at hD hM⊢;have hxm:=zMG h1;have hxb:=ha.f x hxm;have hxn:=hxb.ok.nm
  have hD:D++(Zk b.fields n x++r.flatMap (Zk b.fields n))=tot:=by rw [←hD];simp
  have hDl:D.length+(Zk b.fields n x).length<=4398000000000:=by have:=congrArg List.length hD;simp only [w03] at this;omega
  have hM:M++(Y5 b.fields x::(r.map (Y5 b.fields)++Zu a.fields b.fields))=res:=hM
  have hMl:M.length<=2000000:=by have:=congrArg List.length hM;simp only [w03] at this;omega
  have g1:=qY H hk x hxb (na.fa x hxm) (na.fi x hxm);refine fR Z ?_;refine Run.zf Z Z (by simp;omega) ?_;refine fR Z ?_;refine Mid.zb Z Z Z h1 Z Z ?_;refine fM Z ?_;refine Mid.call (g1) Z Z Z Z ?_;refine fM Z ?_;refine Mid.call (qW H.p13.toPr b (by omega) x.name) Z Z Z Z ?_;refine fM Z ?_
  cases hf:z5 x.name b.fields with
  |none=>
   have e:Zk b.fields n x=[]:=by simp [Zk,hf]
   rw [e,w0u] at hD;rw [zaE hf] at hM;refine Run.ze Z Z Z ?_;refine fR Z ?_;refine apM Field.enc M [zH x] Z Z Z Z Z ?_ (h1:=by first |omega|(simp;omega)|(simp;done)) (h2:=by first |omega|(simp;omega)|(simp;done));refine fM rfl ?_;refine aL rfl rfl rfl rfl rfl ?_;refine fM rfl ?_;exact zl 5 rfl (ih (D,M++[zH x]) ⟨hD,by rw [←hM];simp⟩) rfl rfl rfl
  |some y=>
   have hym:=z05 hf;have hyb:=hb.f y hym
   have e:Zk b.fields n x=one (!Zz x.ty y.ty) (zK n 10 x.name)++(Yv x y (n++[46]++x.name)++one (Z4 x.zg y.zg) (zK n 29 x.name)):=by simp [Zk,hf,W5,Yv,zK]
   rw [e] at hD hDl;simp only [w03] at hDl;rw [zbg hf] at hM;have g2:=z3w H x.ty y.ty hxb.ok.t hyb.ok.t;have g3:=wx H n D (by omega) (!Zz x.ty y.ty) 10 x.name (by omega) (by omega);rw [yp _ _ _ (na.fN x hxm)] at g3;have g4:=zeB H n hn (D++one (!Zz x.ty y.ty) (zK n 10 x.name)) (by simp only [w03];omega) x y hxb hyb;have g5:=z3D H n (D++one (!Zz x.ty y.ty) (zK n 10 x.name)++Yv x y (n++[46]++x.name)) (by simp only [w03];omega) x.zg y.zg (hxb.d hk) (hyb.d hk) (na.fa x hxm) (nb.fa y hym) x.name (by omega) (by omega);rw [yp _ _ _ (na.fN x hxm)] at g5;refine Run.zf Z Z Z ?_;refine fR Z ?_;refine Mid.call g2 Z Z Z Z ?_
   refine Mid.Q8 (f:=6) Z (by (repeat' (first |exact trivial|exact w12 _|exact Qi _|exact Qg _|exact grd3 _ _|exact Qk _ _|refine And.intro ?_ ?_|exact rfl|(simp;done)|(simp<;>omega)));done) ?_
   refine Mid.z0m Z ?_
   refine Run.z3j 8 Z (st':={env:=[(0,.ptr 0 0),(4,.ptr 2 0),(5,.ptr 3 0),(7,.own 4 5 (M.map Field.enc)),(9,.ptr 5 0),(10,.ptr 6 0),(11,.ptr 7 0),(13,.t (.ptr [.str (yq x.ty y.ty).name,.lst ((yq x.ty y.ty).za.map nE)])),(14,.t (.bool (Zz x.ty y.ty))),(20,.t (.lst (a.fields.map Field.enc))),(21,.t (.int .i64 a.fields.length)),(22,.t (.int .i64 i))],s:=⟨[(0,.cells [.t (.str n),.own 1 2 (D.map z4.enc)]),(1,.arr D.length),(2,(TCo a)),(3,(TCo b)),(4,.arr M.length),(5,.cells [.t (.str x.name),.t (.lst (x.args.map Input.enc)),.t (.str x.ty.name),.t (.lst (x.ty.za.map nE)),.t (.lst (x.zg.map Dir.enc))]),(6,.cells [.t (.str (zH x).name),.t (.lst ((zH x).args.map Input.enc)),.t (.str (zH x).ty.name),.t (.lst ((zH x).ty.za.map nE)),.t (.lst ((zH x).zg.map Dir.enc))]),(7,.cells [.t (.str y.name),.t (.lst (y.args.map Input.enc)),.t (.str y.ty.name),.t (.lst (y.ty.za.map nE)),.t (.lst (y.zg.map Dir.enc))])],8⟩}) ?_ Z Z Z (by repeat' (first |exact trivial|exact LeZ.le (w11 rfl) (.same rfl)|exact LeZ.zgJ (w11 rfl) rfl rfl|exact Or.inl ⟨w11 rfl,_,rfl,.le (.cells (.same rfl))⟩|exact Or.inl ⟨w11 rfl,_,rfl,.le (.arr rfl)⟩|refine And.intro ?_ ?_)) (by repeat' (first |exact trivial|exact LeZ.le (w11 rfl) (.same rfl)|exact LeZ.zgJ (w11 rfl) rfl rfl|exact Or.inl ⟨w11 rfl,_,rfl,.le (.cells (.same rfl))⟩|exact Or.inl ⟨w11 rfl,_,rfl,.le (.arr rfl)⟩|refine And.intro ?_ ?_))
   refine fR Z ?_
   refine Mid.yH [0,1] (g3) Z Z Z Z (by simp [Z1];simp [zd.bd,V.bds,V.bd]) (by repeat' (first |exact trivial|exact rfl|refine And.intro ?_ ?_|exact (congrArg some (zd.ren_mE _ _ _ _ _ _)).symm|exact (congrArg some (zd.ren_cE _ _ _)).symm|(refine (congrArg some (zd.Za ?_ _ _)).symm;intro _;rfl))) Z Z (ob':=[(0,.cells [.t (.str n),.own 1 2 ((D++one (!Zz x.ty y.ty) (zK n 10 x.name)).map z4.enc)]),(1,.arr (D++one (!Zz x.ty y.ty) (zK n 10 x.name)).length)]) (rfl) Z Z ?_
   refine fM Z ?_
   refine Mid.yH [0,1] (g4) Z Z Z Z (by simp [Z1];simp [zd.bd,V.bds,V.bd]) (by repeat' (first |exact trivial|exact rfl|refine And.intro ?_ ?_|exact (congrArg some (zd.ren_mE _ _ _ _ _ _)).symm|exact (congrArg some (zd.ren_cE _ _ _)).symm|(refine (congrArg some (zd.Za ?_ _ _)).symm;intro _;rfl))) Z Z (ob':=[(0,.cells [.t (.str n),.own 1 2 ((D++one (!Zz x.ty y.ty) (zK n 10 x.name)++Yv x y (n++[46]++x.name)).map z4.enc)]),(1,.arr (D++one (!Zz x.ty y.ty) (zK n 10 x.name)++Yv x y (n++[46]++x.name)).length)]) (rfl) Z Z ?_
   refine fM Z ?_
   refine Mid.yH [0,1] (g5) Z Z Z Z (by simp [Z1];simp [zd.bd,V.bds,V.bd]) (by repeat' (first |exact trivial|exact rfl|refine And.intro ?_ ?_|exact (congrArg some (zd.ren_mE _ _ _ _ _ _)).symm|exact (congrArg some (zd.ren_cE _ _ _)).symm|(refine (congrArg some (zd.Za ?_ _ _)).symm;intro _;rfl))) Z Z (ob':=[(0,.cells [.t (.str n),.own 1 2 ((D++one (!Zz x.ty y.ty) (zK n 10 x.name)++Yv x y (n++[46]++x.name)++one (Z4 x.zg y.zg) (zK n 29 x.name)).map z4.enc)]),(1,.arr (D++one (!Zz x.ty y.ty) (zK n 10 x.name)++Yv x y (n++[46]++x.name)++one (Z4 x.zg y.zg) (zK n 29 x.name)).length)]) (rfl) Z Z ?_
   refine fM Z ?_;refine apM Field.enc M [(⟨x.name,x.args,yq x.ty y.ty,Zw x.zg y.zg⟩:Field)] Z Z Z Z Z ?_ (h1:=by first |omega|(simp;omega)|(simp;done)) (h2:=by first |omega|(simp;omega)|(simp;done));refine fM rfl ?_;refine aL rfl rfl rfl rfl rfl ?_;refine fM rfl ?_;exact zl 5 rfl (ih (D++one (!Zz x.ty y.ty) (zK n 10 x.name)++Yv x y (n++[46]++x.name)++one (Z4 x.zg y.zg) (zK n 29 x.name),M++[⟨x.name,x.args,yq x.ty y.ty,Zw x.zg y.zg⟩]) ⟨by rw [←hD];simp,by rw [←hM];simp⟩) rfl rfl rfl
end Go.GB.C24
namespace Go.GB
section
variable {P:Program}
variable {ρ:Nat->Nat} {σ:Nat->Option Nat} {m1 m n:Nat}
theorem z6.zbB {out:Out} (rdb:Bool) (hrd:rdb=false->m1=0) (hn:Rn ρ σ m1 m out.n) {f:FuncId} {vs:List V} {sto s1:List (Nat×zd)} (h:z6 P f vs ⟨s1,m1⟩ out) (hb:V.bds m1 vs=true) (hs:Z1 m1 s1=true)
  (hsub:∀j,j<m1->zj sto (ρ j)=(zj s1 j).map (zd.ren ρ)) (hob:∀k o,(k,o)∈out.ob->k<m1+out.n/\(zj s1 k≠none∨m1<=k)):
  wc P f (V.wb ρ vs) m sto {v:=out.v.ren ρ,ob:=out.ob.map fun e=>(ρ e.1,e.2.ren ρ),n:=out.n,rd:=rdb}:=by
 refine ⟨h.1,fun k o hk=>?_,fun Λ args hr hle hfree hsz hargs=>?_⟩
 ·simp only [w0m] at hk;obtain ⟨⟨j,o'⟩,hj,e⟩:=hk;simp at e;obtain ⟨rfl,rfl⟩:=e;obtain ⟨h1,h2⟩:=hob j o' hj;by_cases hj1:j<m1
  ·left
   rcases h2 with h2|h2
   ·rw [hsub j hj1];simpa using h2
   ·omega
  ·right;have:=hn.new j (by omega) h1;show m<=ρ j/\ρ j<m+out.n;omega
 simp only at hle hfree
 have hfresh:∀{b k j:Nat},σ k=some j->(Λ.lab b= .obj k∨∃fr,Λ.lab b= .arr k fr)->j<m1:=by
  intro b k j hk hl;obtain ⟨e,hj⟩:=hn.inv k j hk
  rcases w1a j m1 with h|h
  ·exact h
  ·have e2:=hn.new j h hj;have:=(hfree k (by omega) (by omega)).2.1
   rcases hl with hl|⟨fr,hl⟩
   ·exact absurd hl (this.obj b)
   ·exact absurd hl (this.arr b fr)
 have hfreshF:∀{b k j:Nat},σ k=some j->((∃i,Λ.lab b= .fob k i)∨∃i fr,Λ.lab b= .far k i fr)->j<m1:=by
  intro b k j hk hl;obtain ⟨e,hj⟩:=hn.inv k j hk
  rcases w1a j m1 with h|h
  ·exact h
  ·have e2:=hn.new j h hj;have:=(hfree k (by omega) (by omega)).2.1
   rcases hl with ⟨i,hl⟩|⟨i,fr,hl⟩
   ·exact absurd hl (this.fob b i)
   ·exact absurd hl (this.far b i fr)
 have hr1:zT (Λ.view ρ σ m1) ⟨s1,m1⟩:=by
  refine ⟨fun j o hj=>?_,fun b b' j h1 h2=>?_,fun b hb=>?_,fun b j hb=>?_,fun j hj=>?_,fun b b' j i h1 h2=>?_,fun b j hb=>?_,fun j i hj=>?_⟩
  ·obtain ⟨h1,h2⟩:=Wu hs j o hj;refine ⟨h1,?_⟩;have hro:=(hr.sto (ρ j) (o.ren ρ) (by rw [hsub j h1,hj];rfl)).2;have hs':=hn.at_ j (by omega)
   cases o with
   |cells cs=>
    obtain ⟨b,arr,e,e1,e2,e3,e4⟩:=hro;rw [V.zS] at e3 e4
    exact ⟨b,arr,e,ZN e1 hs',e2,by simpa using e3,fun i v c a1 a2=>(e4 i v (c.ren ρ) a1 (by simp [a2])).view hn rfl (V.Zj (by simpa [zd.bd] using h2) i c a2)⟩
   |map kag es sx=>
    obtain ⟨b,ents,clock,e1,e2,e3⟩:=hro
    refine ⟨b,ents,clock,ZN e1 hs',e2,⟨by simpa using e3.size,fun i e kv a1 a2=>?_,e3.born,e3.apart,e3.known⟩⟩
    obtain ⟨g1,g2⟩:=e3.at_ i e (kv.1,kv.2.ren ρ) a1 (by simp [a2]);exact ⟨g1.ZX fun _ _ h=>h.view,g2.view hn Z (V.Zj (by simpa [zd.bd] using h2) i kv.2 (by simp [a2]))⟩
   |arr n=>
    have hro':Λ.fro (ρ j)=n:=hro;unfold qd;simp [L.view,h1,hro']
   |iter q s seen c=>
    have hq:q<m1:=by simpa [zd.bd] using h2
    obtain ⟨b,bm,e1,e2,e3,e4⟩:=hro;exact ⟨b,bm,ZN e1 hs',e2,ZN e3 (hn.at_ q (by omega)),hq⟩
   |gro ver cs=>
    obtain ⟨q0,q⟩:=hro;rw [V.zS] at q
    refine ⟨by simpa [L.view,h1] using q0,?_⟩
    rcases q with ⟨e1,e2⟩|⟨b,arr,e,e1,e2,e3,e4⟩
    ·refine .inl ⟨by simpa using e1,fun b i hb=>?_⟩
     obtain ⟨k,a1,a2⟩:=Z9 hb;have:=(hn.inv _ _ a2).1;subst this;exact e2 b i a1
    ·exact .inr ⟨b,arr,e,z1G hn e1 hs',e2,by simpa using e3,fun i v c a1 a2=>(e4 i v (c.ren ρ) a1 (by simp [a2])).view hn rfl (V.Zj (by simpa [zd.bd] using h2) i c a2)⟩
   |yL os=>
    obtain ⟨q0,q⟩:=hro;refine ⟨fun b i hb=>?_,fun i cs hi=>?_⟩
    ·obtain ⟨k,a1,a2⟩:=Z9 hb;have:=(hn.inv _ _ a2).1;subst this;simpa using q0 b i a1
    ·obtain ⟨b,arr,e,e1,e2,e3,e4⟩:=q i (V.wb ρ cs) (by simp [hi]);rw [V.zS] at e3 e4
     have hbd:V.bds m1 cs=true:=by
      simp only [zd.bd,w0i] at h2;exact h2 cs (zMG hi)
     exact ⟨b,arr,e,ql e1 hs',e2,by simpa using e3,fun i v c a1 a2=>(e4 i v (c.ren ρ) a1 (by simp [a2])).view hn rfl (V.Zj hbd i c a2)⟩
   |y8 ns=>intro i;have:=hro i;simpa [L.view,h1] using this
   |WN kag I=>
    obtain ⟨b,ents,clock,e1,e2,e3,e4,e5⟩:=hro;refine ⟨b,ents,clock,ZN e1 hs',e2,e3,e4,fun i e hi=>?_⟩;obtain ⟨cs,v,q1,q2,q3⟩:=e5 i e hi;exact ⟨cs,v,q1.ZX fun _ _ h=>h.view,q2.view,q3⟩
  ·obtain ⟨k,a1,a2⟩:=Y4 h1;obtain ⟨k',b1,b2⟩:=Y4 h2;have:=(hn.inv _ _ a2).1;have:=(hn.inv _ _ b2).1
   subst_vars
   exact hr.inj b b' _ a1 b1
  ·exact QD (hr.new b hb)
  ·rcases hb with hb|⟨fr,hb⟩
   ·obtain ⟨k,a1,a2⟩:=Y4 hb;exact hfresh a2 (.inl a1)
   ·obtain ⟨k,a1,a2⟩:=z1p hb;exact hfresh a2 (.inr ⟨_,a1⟩)
  ·have hj':m1<=j:=hj;simp [L.view];omega
  ·obtain ⟨k,a1,a2⟩:=Z9 h1;obtain ⟨k',b1,b2⟩:=Z9 h2;have:=(hn.inv _ _ a2).1;have:=(hn.inv _ _ b2).1
   subst_vars
   exact hr.YX b b' _ i a1 b1
  ·rcases hb with ⟨i,hb⟩|⟨i,fr,hb⟩
   ·obtain ⟨k,a1,a2⟩:=Z9 hb;exact hfreshF a2 (.inl ⟨_,a1⟩)
   ·obtain ⟨k,a1,a2⟩:=z1K hb;exact hfreshF a2 (.inr ⟨_,_,a1⟩)
  ·have hj':m1<=j:=hj;simp [L.view];omega
 refine (h.2 (Λ.view ρ σ m1) args hr1 Z (by rw [hsz,V.zS];simp) fun j v y h1 h2=>(hargs j v (y.ren ρ) h1 (by rw [V.zS];simp [h2])).view hn Z (V.Zj hb j y h2)).mono fun e w' he=>?_;obtain ⟨v,Λ',rfl,rfl,k1,k2,k3,k4⟩:=he;simp only at k2 k3
 have hlt:∀{b:Nat},Λ.hid σ b=true->b<Λ.w.heap.size:=by
  intro b hh
  rcases w1a b Λ.w.heap.size with h|h
  ·exact h
  ·unfold L.hid at hh;rw [hr.new b h] at hh;simp at hh
 have hH:∀{b:Nat},Λ.hid σ b=true->(Λ.zt ρ σ Λ').lab b=Λ.lab b:=fun h=>by simp [L.zt,h]
 have hL:∀{b:Nat},Λ.hid σ b=false->(Λ.zt ρ σ Λ').lab b=(Λ'.lab b).ren ρ:=fun h=>by simp [L.zt,h]
 have hheap:∀{b:Nat},Λ.hid σ b=true->∃fr,Λ'.lab b= .fix (some fr)/\Λ'.w.heap[b]?=Λ.w.heap[b]?/\((∃k,Λ.lab b= .obj k/\σ k=none/\fr=0)∨(∃k,Λ.lab b= .arr k fr/\σ k=none)∨(∃k i,Λ.lab b= .fob k i/\σ k=none/\fr=0)∨∃k i,Λ.lab b= .far k i fr/\σ k=none):=by
  intro b hh;obtain ⟨fr,e1,e2⟩:=z8m (ρ:=ρ) (m1:=m1) hh;obtain ⟨g1,g2⟩:=k1.fr.fix b (hlt hh) _ e1;exact ⟨fr,g1,g2,e2⟩
 have hvis:∀{b k j:Nat},σ k=some j->(Λ.lab b= .obj k∨∃fr,Λ.lab b= .arr k fr)->Λ.hid σ b=false:=by
  intro b k j hk hb;unfold L.hid
  rcases hb with hb|⟨fr,hb⟩<;>rw [hb]<;>simp [hk]
 have hvisF:∀{b k j:Nat},σ k=some j->((∃i,Λ.lab b= .fob k i)∨∃i fr,Λ.lab b= .far k i fr)->Λ.hid σ b=false:=by
  intro b k j hk hb;unfold L.hid
  rcases hb with ⟨i,hb⟩|⟨i,fr,hb⟩<;>rw [hb]<;>simp [hk]
 have hfix:∀{b:Nat} {fr:Option Nat},Λ.lab b= .fix fr->Λ.hid σ b=false:=by
  intro b fr hb;unfold L.hid;rw [hb]
 have rdren:∀{b o:Nat} {l:Nat->Lab},l b=(Λ'.lab b).ren ρ->Rd Λ'.lab b o->Rd l b o:=by
  intro b o l e h;unfold Rd at*;rw [e]
  cases hl:Λ'.lab b<;>rw [hl] at h<;>simp only [Lab.ren]<;>exact h
 have hinvF:∀{b k j i:Nat},σ k=some j->(Λ.zt ρ σ Λ').lab b= .fob k i->Λ'.lab b= .fob j i:=by
  intro b k j i hk hb
  cases hh:Λ.hid σ b with
  |true=>rw [hH hh] at hb;have:=hvisF hk (.inl ⟨i,hb⟩);rw [hh] at this;cases this
  |false=>
   rw [hL hh] at hb
   cases hl:Λ'.lab b<;>rw [hl] at hb<;>simp [Lab.ren] at hb
   rename_i j' i';obtain ⟨e1,rfl⟩:=hb;have hb1:=k3.Yu b j' (.inl ⟨_,hl⟩);have hb2:=hn.at_ j' (by omega);rw [e1,hk] at hb2;simp at hb2;subst hb2;rfl
 have hkp:Kp Λ (Λ.zt ρ σ Λ'):=by
  refine ⟨⟨k1.fr.os,k1.fr.tape,k1.fr.output,k1.fr.size,fun b hb fr hl=>?_,fun b hb k fr hl o ho=>?_,fun b hb k i fr hl o ho=>?_⟩,w09 _,fun b k _ hl=>?_,fun b k n _ hb hl hf=>?_,fun k hk=>?_,fun b k i _ hl=>?_,fun b k i n _ hb hl hf=>?_,fun k i hk=>?_,fun b k i hk hp hf hl=>?_⟩
  ·obtain ⟨g1,g2⟩:=k1.fr.fix b hb fr (QD hl)
   exact ⟨by rw [hL (hfix hl),g1];rfl,g2⟩
  ·cases hk:σ k with
   |none=>
    have hh:Λ.hid σ b=true:=by unfold L.hid;rw [hl];simp [hk]
    obtain ⟨fr',g1,g2,g3⟩:=hheap hh
    exact ⟨by unfold Rd;rw [hH hh,hl];exact ho,cell?_heap g2⟩
   |some j=>
    have hh:=hvis hk (.inr ⟨_,hl⟩);obtain ⟨g1,g2⟩:=k1.fr.arr b hb j fr (qo hl hk) o ho;exact ⟨rdren (hL hh) g1,g2⟩
  ·cases hk:σ k with
   |none=>
    have hh:Λ.hid σ b=true:=by unfold L.hid;rw [hl];simp [hk]
    obtain ⟨fr',g1,g2,g3⟩:=hheap hh
    exact ⟨by unfold Rd;rw [hH hh,hl];exact ho,cell?_heap g2⟩
   |some j=>
    have hh:=hvisF hk (.inr ⟨_,_,hl⟩);obtain ⟨g1,g2⟩:=k1.fr.far b hb j i fr (qv hl hk) o ho;exact ⟨rdren (hL hh) g1,g2⟩
  ·cases hk:σ k with
   |none=>rw [hH (by unfold L.hid;rw [hl];simp [hk])];exact hl
   |some j=>
    rw [hL (hvis hk (.inl hl)),k1.obj b j (hfresh hk (.inl hl)) (ZN hl hk)];simp only [Lab.ren,(hn.inv k j hk).1]
  ·cases hk:σ k with
   |none=>
    have hh:Λ.hid σ b=true:=by unfold L.hid;rw [hl];simp [hk]
    obtain ⟨fr',g1,g2,g3⟩:=hheap hh
    exact ⟨by rw [hH hh];exact hl,g2⟩
   |some j=>
    have hj:=hfresh hk (.inr ⟨_,hl⟩)
    have e1:(Λ.view ρ σ m1).fro j=Λ.fro k:=by simp [L.view,hj,(hn.inv k j hk).1]
    have e2:(Λ.zt ρ σ Λ').fro k=Λ'.fro j:=by simp [L.zt,hk]
    obtain ⟨g1,g2⟩:=k1.own b j n hj hb (qo hl hk) (by rw [←e2,hf,e1])
    exact ⟨by rw [hL (hvis hk (.inr ⟨_,hl⟩)),g1];simp only [Lab.ren,(hn.inv k j hk).1],g2⟩
  ·cases hk':σ k with
   |none=>simp [L.zt,hk']
   |some j=>
    obtain ⟨e1,e2⟩:=hn.inv k j hk';simp only [L.zt,hk'];by_cases hj:j<m1
    ·have:=k1.fro j hj;simpa [L.view,hj,e1] using this
    ·have e3:=hn.new j (by omega) e2;rw [(hfree k (by omega) (by omega)).2.1.fro];omega
  ·cases hk:σ k with
   |none=>
    have hh:Λ.hid σ b=true:=by unfold L.hid;rw [hl];simp [hk]
    obtain ⟨fr',g1,g2,g3⟩:=hheap hh
    exact ⟨by rw [hH hh];exact hl,fun N hN=>by unfold Zl at hN⊢;show (match Λ'.w.heap[b]? with|some (.cells arr _ _)=>some arr.size|_=>none)=_;rw [g2];exact hN⟩
   |some j=>
    obtain ⟨g1,g2⟩:=k1.fob b j i (hfreshF hk (.inl ⟨_,hl⟩)) (ql hl hk)
    exact ⟨by rw [hL (hvisF hk (.inl ⟨_,hl⟩)),g1];simp only [Lab.ren,(hn.inv k j hk).1],g2⟩
  ·cases hk:σ k with
   |none=>
    have hh:Λ.hid σ b=true:=by unfold L.hid;rw [hl];simp [hk]
    obtain ⟨fr',g1,g2,g3⟩:=hheap hh
    exact ⟨by rw [hH hh];exact hl,g2⟩
   |some j=>
    have hj:=hfreshF hk (.inr ⟨_,_,hl⟩)
    have e1:(Λ.view ρ σ m1).frf j i=Λ.frf k i:=by simp [L.view,hj,(hn.inv k j hk).1]
    have e2:(Λ.zt ρ σ Λ').frf k i=Λ'.frf j i:=by simp [L.zt,hk]
    obtain ⟨g1,g2⟩:=k1.far b j i n hj hb (qv hl hk) (by rw [←e2,hf,e1])
    exact ⟨by rw [hL (hvisF hk (.inr ⟨_,_,hl⟩)),g1];simp only [Lab.ren,(hn.inv k j hk).1],g2⟩
  ·cases hk':σ k with
   |none=>simp [L.zt,hk']
   |some j=>
    obtain ⟨e1,e2⟩:=hn.inv k j hk';simp only [L.zt,hk'];by_cases hj:j<m1
    ·have:=k1.frf j i hj;simpa [L.view,hj,e1] using this
    ·have e3:=hn.new j (by omega) e2;rw [(hfree k (by omega) (by omega)).2.1.frf];omega
  ·cases hk':σ k with
   |none=>
    cases hh:Λ.hid σ b with
    |true=>rw [hH hh] at hl;exact hl
    |false=>
     rw [hL hh] at hl
     cases hl':Λ'.lab b<;>rw [hl'] at hl<;>simp [Lab.ren] at hl
     rename_i j' i';have hb1:=k3.Yu b j' (.inl ⟨_,hl'⟩);have hb2:=hn.at_ j' (by omega);rw [hl.1,hk'] at hb2;cases hb2
   |some j=>
    have hb1:=hinvF hk' hl;obtain ⟨e1,e2⟩:=hn.inv k j hk';by_cases hj:j<m1
    ·have e3:(Λ.view ρ σ m1).frf j 0=Λ.frf k 0:=by simp [L.view,hj,e1]
     have e4:(Λ.zt ρ σ Λ').frf k 0=Λ'.frf j 0:=by simp [L.zt,hk']
     obtain ⟨k',a1,a2⟩:=Z9 (k1.z4C b j i hj (by rw [e3];exact hp) (by rw [←e4,hf,e3]) hb1);have:=(hn.inv _ _ a2).1;rw [←this,e1] at a1;exact a1
    ·have e3:=hn.new j (by omega) e2;have:=(hfree k (by omega) (by omega)).2.1.frf 0;omega
 have hobj:∀{b j:Nat},Λ'.lab b= .obj j->(Λ.zt ρ σ Λ').lab b= .obj (ρ j):=by
  intro b k hb
  cases hh:Λ.hid σ b with
  |true=>obtain ⟨fr,g1,_⟩:=hheap hh;rw [g1] at hb;simp at hb
  |false=>rw [hL hh,hb];rfl
 have harr:∀{b j n:Nat},Λ'.lab b= .arr j n->(Λ.zt ρ σ Λ').lab b= .arr (ρ j) n:=by
  intro b k n hb
  cases hh:Λ.hid σ b with
  |true=>obtain ⟨fr,g1,_⟩:=hheap hh;rw [g1] at hb;simp at hb
  |false=>rw [hL hh,hb];rfl
 have hfob:∀{b j i:Nat},Λ'.lab b= .fob j i->(Λ.zt ρ σ Λ').lab b= .fob (ρ j) i:=by
  intro b k i hb
  cases hh:Λ.hid σ b with
  |true=>obtain ⟨fr,g1,_⟩:=hheap hh;rw [g1] at hb;simp at hb
  |false=>rw [hL hh,hb];rfl
 have hfar:∀{b j i n:Nat},Λ'.lab b= .far j i n->(Λ.zt ρ σ Λ').lab b= .far (ρ j) i n:=by
  intro b k i n hb
  cases hh:Λ.hid σ b with
  |true=>obtain ⟨fr,g1,_⟩:=hheap hh;rw [g1] at hb;simp at hb
  |false=>rw [hL hh,hb];rfl
 have hcur:∀{b j:Nat},j<m1+out.n->qu Λ'.lab j b->qu (Λ.zt ρ σ Λ').lab (ρ j) b:=by
  rintro b j hj ⟨i,e1,e2⟩;exact ⟨i,hfob e1,fun b' i' h'=>e2 b' i' (hinvF (hn.at_ j hj) h')⟩
 have hrep:∀{u:Value} {y:T},zI Λ'.lab Λ'.w u y->zI (Λ.zt ρ σ Λ').lab (Λ.zt ρ σ Λ').w u y:=by
  intro u y hy;refine hy.ZX fun b o _ _ hrd=>⟨?_,rfl⟩
  cases hh:Λ.hid σ b with
  |true=>
   obtain ⟨fr,g1,_,g3⟩:=hheap hh;unfold Rd at hrd⊢;rw [g1] at hrd;rw [hH hh]
   rcases g3 with ⟨k,e,_,rfl⟩|⟨k,e,_⟩|⟨k,i,e,_,rfl⟩|⟨k,i,e,_⟩
   ·simp at hrd
   ·rw [e];exact hrd
   ·simp at hrd
   ·rw [e];exact hrd
  |false=>exact rdren (hL hh) hrd
 have hfro:∀{j:Nat},j<m1+out.n->(Λ.zt ρ σ Λ').fro (ρ j)=Λ'.fro j:=by
  intro j hj;simp [L.zt,hn.at_ j hj]
 have hfrf:∀{j i:Nat},j<m1+out.n->(Λ.zt ρ σ Λ').frf (ρ j) i=Λ'.frf j i:=by
  intro j i hj;simp [L.zt,hn.at_ j hj]
 have hρ:∀{j:Nat},j<m1+out.n->ρ j<Λ.nxt:=by
  intro j hj;by_cases h1:j<m1
  ·have:=hn.low j h1;omega
  ·have:=hn.new j (by omega) hj;omega
 have hval:∀{u:Value} {y:V},zr Λ' u y->zr (Λ.zt ρ σ Λ') u (y.ren ρ):=by
  intro u y hy
  induction hy with
  |t h=>exact .t (hrep h)
  |zC=>exact .zC
  |@own v k sz xs h hsz hl hn' ho=>
   rw [k2] at hl;refine .own (hrep h) hsz (hρ hl) (by rw [hfro hl];exact hn') fun he=>?_
   rcases ho (by rw [←hfro hl];exact he) with ho|⟨b,cap,arr,e,hv,hb',hh,hc,hn'⟩
   ·exact .inl ho
   ·exact .inr ⟨b,cap,arr,e,hv,harr hb',hh,hc,hn'⟩
  |slc hl hc h=>exact .slc (hρ (by omega)) hc (hobj h)
  |agg hs _ ih=>
   refine .agg (by rw [V.zS];simpa using hs) fun j v c h1 h2=>?_;rw [V.zS,w0c,w06] at h2;obtain ⟨c',h3,rfl⟩:=h2;exact ih j v c' h1 h3
  |tup hs _ ih=>
   refine .tup (by rw [V.zS];simpa using hs) fun j v c h1 h2=>?_;rw [V.zS,w0c,w06] at h2;obtain ⟨c',h3,rfl⟩:=h2;exact ih j v c' h1 h3
  |ptr hl h=>exact .ptr (hρ (by omega)) (hobj h)
  |mp hl h=>exact .mp (hρ (by omega)) (hobj h)
  |fn hs h=>
   refine .fn (by simpa using hs) fun j v c h1 h2=>?_;rw [w0c,w06] at h2;obtain ⟨c',h3,rfl⟩:=h2;obtain ⟨b,e1,e2,e3⟩:=h j v c' h1 h3;exact ⟨b,e1,hobj e2,hρ (by omega)⟩
  |gd _ h' ih=>exact .gd ih h'
  |top=>exact .top
  |ub h h'=>exact .ub h h'
  |fpt hl h=>exact .fpt (hρ (by omega)) (hfob h)
  |gpt hv hl hm h=>
   rw [k2] at hl;refine .gpt hv (hρ hl) (by rw [hfrf hl];exact hm) fun he=>?_;obtain ⟨b,e1,e2⟩:=h (by rw [←hfrf hl];exact he);exact ⟨b,e1,hcur hl e2⟩
  |gsl hv hl hm h=>
   rw [k2] at hl;refine .gsl hv (hρ hl) (by rw [hfrf hl];exact hm) fun he=>?_
   rcases h (by rw [←hfrf hl];exact he) with h|⟨b,cap,N,hv,hc,e2,hN,he'⟩
   ·exact .inl h
   ·exact .inr ⟨b,cap,N,hv,hc,hcur hl e2,hN,he'⟩
  |fow h hsz hl hm ho=>
   rw [k2] at hl;refine .fow (hrep h) hsz (hρ hl) (by rw [hfrf hl];exact hm) fun he=>?_
   rcases ho (by rw [←hfrf hl];exact he) with ho|⟨b,cap,arr,e,hv,hb',hh,hc,hn'⟩
   ·exact .inl ho
   ·exact .inr ⟨b,cap,arr,e,hv,hfar hb',hh,hc,hn'⟩
 have hname:∀{b k:Nat},Λ.hid σ b=true->((Λ.zt ρ σ Λ').lab b= .obj k∨∃n,(Λ.zt ρ σ Λ').lab b= .arr k n)->σ k=none/\(Λ.lab b= .obj k∨∃n,Λ.lab b= .arr k n):=by
  intro b k hh hb;rw [hH hh] at hb;refine ⟨?_,hb⟩
  unfold L.hid at hh;rcases hb with hb|⟨n,hb⟩<;>rw [hb] at hh<;>simpa using hh
 have hseen:∀{b k:Nat},Λ.hid σ b=false->((Λ.zt ρ σ Λ').lab b= .obj k∨∃n,(Λ.zt ρ σ Λ').lab b= .arr k n)->∃j,ρ j=k/\j<m1+out.n/\(Λ'.lab b= .obj j∨∃n,Λ'.lab b= .arr j n):=by
  intro b k hh hb;rw [hL hh] at hb
  cases hl:Λ'.lab b with
  |fix fr=>rw [hl] at hb;simp [Lab.ren] at hb
  |obj j=>rw [hl] at hb;simp [Lab.ren] at hb;have:=k3.bnd b j (.inl hl);exact ⟨j,hb,by omega,.inl rfl⟩
  |arr j n=>rw [hl] at hb;simp [Lab.ren] at hb;have:=k3.bnd b j (.inr ⟨n,hl⟩);exact ⟨j,hb,by omega,.inr ⟨n,rfl⟩⟩
  |fob j i=>rw [hl] at hb;simp [Lab.ren] at hb
  |far j i n=>rw [hl] at hb;simp [Lab.ren] at hb
 have hseenF:∀{b k:Nat},Λ.hid σ b=false->((∃i,(Λ.zt ρ σ Λ').lab b= .fob k i)∨∃i n,(Λ.zt ρ σ Λ').lab b= .far k i n)->∃j,ρ j=k/\j<m1+out.n:=by
  intro b k hh hb;rw [hL hh] at hb
  cases hl:Λ'.lab b with
  |fix fr=>rw [hl] at hb;simp [Lab.ren] at hb
  |obj j=>rw [hl] at hb;simp [Lab.ren] at hb
  |arr j n=>rw [hl] at hb;simp [Lab.ren] at hb
  |fob j i=>rw [hl] at hb;simp [Lab.ren] at hb;have:=k3.Yu b j (.inl ⟨i,hl⟩);exact ⟨j,hb,by omega⟩
  |far j i n=>rw [hl] at hb;simp [Lab.ren] at hb;have:=k3.Yu b j (.inr ⟨i,n,hl⟩);exact ⟨j,hb,by omega⟩
 obtain ⟨ag1,ag2⟩:=WK hn out.ob sto s1 (fun j hj=>by
  by_cases h1:j<m1
  ·exact hsub j h1
  ·have e3:=hn.new j (by omega) hj;rw [(hfree (ρ j) (by omega) (by omega)).2.2]
   cases ha:zj s1 j with
   |none=>rfl
   |some o=>have:=(Wu hs j o ha).1;omega) (fun j o hj=>(hob j o hj).1)
 refine ⟨v,Λ.zt ρ σ Λ',rfl,rfl,hkp,rfl,?_,hval k4,fun k hk _ hcase=>?_⟩
 ·refine ⟨fun k o ho=>?_,fun b b' k h1 h2=>?_,fun b hb=>?_,fun b k hb=>?_,fun k hk=>?_,fun b b' k i h1 h2=>?_,fun b k hb=>?_,fun k i hk=>?_⟩
  ·cases hk:σ k with
   |none=>
    have ho':zj sto k=some o:=by rw [←ag2 k hk];exact ho
    obtain ⟨g1,g2⟩:=hr.sto k o ho'
    refine ⟨g1,g2.mono hkp g1 (fun b hb=>?_) (by simp [L.zt,hk]) (fun b i hb=>?_) (fun b i hb=>?_) (fun i=>by simp [L.zt,hk])⟩
    ·obtain ⟨fr,q1,q2,_⟩:=hheap (b:=b) (by unfold L.hid;rw [hb];simp [hk]);exact q2
    ·obtain ⟨fr,q1,q2,_⟩:=hheap (b:=b) (by unfold L.hid;rw [hb];simp [hk]);exact q2
    ·cases hh:Λ.hid σ b with
     |true=>rw [hH hh] at hb;exact hb
     |false=>obtain ⟨j,e1,e2⟩:=hseenF hh (.inl ⟨i,hb⟩);rw [←e1,hn.at_ j e2] at hk;cases hk
   |some j=>
    obtain ⟨e1,e2⟩:=hn.inv k j hk;subst e1;have ho':zj (Zf sto (out.ob.map fun e=>(ρ e.1,e.2.ren ρ))) (ρ j)=some o:=ho;rw [ag1 j e2,w06] at ho';obtain ⟨o1,a1,rfl⟩:=ho';obtain ⟨g1,g2⟩:=k3.sto j o1 a1;refine ⟨hρ e2,?_⟩
    cases o1 with
    |cells cs=>
     obtain ⟨b,arr,e,e1,e2,e3,e4⟩:=g2
     refine ⟨b,arr,e,hobj e1,e2,by rw [V.zS];simpa using e3,fun i v c a1 a2=>?_⟩
     rw [V.zS,w0c,w06] at a2;obtain ⟨c',a3,rfl⟩:=a2;exact hval (e4 i v c' a1 a3)
    |map kag es sx=>
     obtain ⟨b,ents,clock,e1,e2,e3⟩:=g2
     refine ⟨b,ents,clock,hobj e1,e2,⟨by simpa using e3.size,fun i e kv a1 a2=>?_,e3.born,e3.apart,e3.known⟩⟩
     rw [w0c,w06] at a2;obtain ⟨kv',a3,rfl⟩:=a2;obtain ⟨q1,q2⟩:=e3.at_ i e kv' a1 a3;exact ⟨q1.ZX fun _ _ h=>hrep h,hval q2⟩
    |arr n'=>
     unfold qd at*;simp only [zd.ren];rw [hfro e2];exact g2
    |iter q s seen c=>
     obtain ⟨b,bm,a1,a2,a3,a4⟩:=g2;exact ⟨b,bm,hobj a1,a2,hobj a3,hρ (by omega)⟩
    |gro ver cs=>
     obtain ⟨q0,q⟩:=g2
     refine ⟨by rw [hfrf e2];exact q0,?_⟩
     rw [V.zS]
     rcases q with ⟨e3,e4⟩|⟨b,arr,e,e3,e4,e5,e6⟩
     ·exact .inl ⟨by simp [e3],fun b i hb=>e4 b i (hinvF (hn.at_ j e2) hb)⟩
     ·refine .inr ⟨b,arr,e,hcur e2 e3,e4,by simpa using e5,fun i v c a1 a2=>?_⟩
      rw [w0c,w06] at a2;obtain ⟨c',a3,rfl⟩:=a2;exact hval (e6 i v c' a1 a3)
    |yL os=>
     obtain ⟨q0,q⟩:=g2
     refine ⟨fun b i hb=>by simpa using q0 b i (hinvF (hn.at_ j e2) hb),fun i cs hi=>?_⟩
     rw [w0c,w06] at hi;obtain ⟨cs',hi,rfl⟩:=hi;obtain ⟨b,arr,e,e3,e4,e5,e6⟩:=q i cs' hi
     refine ⟨b,arr,e,hfob e3,e4,by rw [V.zS];simpa using e5,fun i v c a1 a2=>?_⟩
     rw [V.zS,w0c,w06] at a2;obtain ⟨c',a3,rfl⟩:=a2;exact hval (e6 i v c' a1 a3)
    |y8 ns=>exact fun i=>(hfrf e2).trans (g2 i)
    |WN kag I=>
     obtain ⟨b,ents,clock,e3,e4,e5,e6,e7⟩:=g2;refine ⟨b,ents,clock,hobj e3,e4,e5,e6,fun i e hi=>?_⟩;obtain ⟨cs,v,q1,q2,q3⟩:=e7 i e hi;exact ⟨cs,v,q1.ZX fun _ _ h=>hrep h,hrep q2,q3⟩
  ·cases hh:Λ.hid σ b with
   |true=>
    obtain ⟨q1,q2⟩:=hname hh (.inl h1)
    cases hh':Λ.hid σ b' with
    |true=>
     rw [hH hh] at h1;rw [hH hh'] at h2;exact hr.inj b b' k h1 h2
    |false=>
     obtain ⟨j,e1,e2,_⟩:=hseen hh' (.inl h2);rw [←e1,hn.at_ j e2] at q1;cases q1
   |false=>
    obtain ⟨j,e1,e2,_⟩:=hseen hh (.inl h1)
    cases hh':Λ.hid σ b' with
    |true=>
     obtain ⟨q1,_⟩:=hname hh' (.inl h2);rw [←e1,hn.at_ j e2] at q1;cases q1
    |false=>
     rw [hL hh] at h1;rw [hL hh'] at h2
     cases hl:Λ'.lab b<;>rw [hl] at h1<;>simp [Lab.ren] at h1
     cases hl':Λ'.lab b'<;>rw [hl'] at h2<;>simp [Lab.ren] at h2
     rename_i j1 j2;have b1:=k3.bnd b j1 (.inl hl);have b2:=k3.bnd b' j2 (.inl hl');have c1:=hn.at_ j1 (by omega);have c2:=hn.at_ j2 (by omega);rw [h1] at c1;rw [h2,c1] at c2;simp at c2;subst c2;exact k3.inj b b' j1 hl hl'
  ·have hge:Λ.w.heap.size<=b:=w0o k1.fr.size hb;rw [hL (hfix (hr.new b hge)),k3.new b hb];rfl
  ·show k<Λ.nxt
   cases hh:Λ.hid σ b with
   |true=>exact hr.bnd b k (hname hh hb).2
   |false=>obtain ⟨j,rfl,e2,_⟩:=hseen hh hb;exact hρ e2
  ·have hk':Λ.nxt<=k:=hk
   cases hs:σ k with
   |none=>simp only [L.zt,hs];exact hr.frz k hk'
   |some j=>obtain ⟨rfl,e2⟩:=hn.inv k j hs;have:=hρ e2;omega
  ·cases hk:σ k with
   |some j=>exact k3.YX b b' j i (hinvF hk h1) (hinvF hk h2)
   |none=>
    have hd:∀{b:Nat},(Λ.zt ρ σ Λ').lab b= .fob k i->Λ.lab b= .fob k i:=by
     intro b hb
     cases hh:Λ.hid σ b with
     |true=>rw [hH hh] at hb;exact hb
     |false=>obtain ⟨j,e1,e2⟩:=hseenF hh (.inl ⟨i,hb⟩);rw [←e1,hn.at_ j e2] at hk;cases hk
    exact hr.YX b b' k i (hd h1) (hd h2)
  ·show k<Λ.nxt
   cases hh:Λ.hid σ b with
   |true=>rw [hH hh] at hb;exact hr.Yu b k hb
   |false=>obtain ⟨j,rfl,e2⟩:=hseenF hh hb;exact hρ e2
  ·have hk':Λ.nxt<=k:=hk
   cases hs:σ k with
   |none=>simp only [L.zt,hs];exact hr.z2g k i hk'
   |some j=>obtain ⟨rfl,e2⟩:=hn.inv k j hs;have:=hρ e2;omega
 ·have hs0:σ k=none:=by
   cases hs:σ k with
   |none=>rfl
   |some j=>
    obtain ⟨rfl,e2⟩:=hn.inv k j hs
    rcases hcase with hge|⟨hlt1,hb⟩
    ·have hge:m+out.n<=ρ j:=hge;by_cases h1:j<m1
     ·have:=hn.low j h1;omega
     ·have:=hn.new j (by omega) e2;omega
    ·have hm1:=hrd hb;have:=hn.new j (by omega) e2;omega
  refine ⟨fun b hb=>?_,fun b n hb=>?_,by simp only [L.zt,hs0];exact hk.fro,fun b i hb=>?_,fun b i n hb=>?_,fun i=>by simp only [L.zt,hs0];exact hk.frf i⟩
  ·cases hh:Λ.hid σ b with
   |true=>rw [hH hh] at hb;exact hk.obj b hb
   |false=>obtain ⟨j,e1,e2,_⟩:=hseen hh (.inl hb);rw [←e1,hn.at_ j e2] at hs0;cases hs0
  ·cases hh:Λ.hid σ b with
   |true=>rw [hH hh] at hb;exact hk.arr b n hb
   |false=>obtain ⟨j,e1,e2,_⟩:=hseen hh (.inr ⟨n,hb⟩);rw [←e1,hn.at_ j e2] at hs0;cases hs0
  ·cases hh:Λ.hid σ b with
   |true=>rw [hH hh] at hb;exact hk.fob b i hb
   |false=>obtain ⟨j,e1,e2⟩:=hseenF hh (.inl ⟨i,hb⟩);rw [←e1,hn.at_ j e2] at hs0;cases hs0
  ·cases hh:Λ.hid σ b with
   |true=>rw [hH hh] at hb;exact hk.far b i n hb
   |false=>obtain ⟨j,e1,e2⟩:=hseenF hh (.inr ⟨i,n,hb⟩);rw [←e1,hn.at_ j e2] at hs0;cases hs0
end
section
variable {P:Program} {n m:Nat} {R:St->Prop} {draw:Bool} {all:List AO} {after:List (List Nat)} {live:List Nat} {k:List It} {b b':Nat} {fl:List (Bool×Bool)} {ops:List AO} {st st':St} {d:Option Nat}
theorem Mid.zgL {f:FuncId} {args:List Ar} {vs:List V} {out:Out} {v':V} {ob':List (Nat×zd)} {cc:Bool} (h:z6 P f vs ⟨[],0⟩ out)
  (hv:z0r st args some=some (V.wb (W3 [] b) vs)) (hb:V.bds 0 vs=true) (hob:zb6 [] 0 out.n out.ob=true)
  (hv':out.v.ren (W3 [] b)=v') (hob':z2G (W3 [] b) out.ob=ob') (hcc:Qm (!ob'.isEmpty||decide (0<out.n)) some=some cc)
  (hst:wA b st d {v:=v',ob:=ob',n:=out.n,rd:=false} (fun b' st'=>some (b',st'))=some (b',st'))
  (h':Mid P n m R draw all after live k b' ((false,cc)::fl) ops st'):Mid P n m R draw all after live k b fl (⟨d,none,.call f args⟩::ops) st:=by
 rw [Wy] at hv;simp at hv;refine Mid.opX Z ?_;simp only [evX];refine z0d.le (Qj.pure _) ?_;rw [hv]
 have hat:∀s,wc P f (V.wb (W3 [] b) vs) b s {v:=v',ob:=ob',n:=out.n,rd:=false}:=by
  intro s';have hrn:=zdu (r:=[]) (b:=b) (n:=out.n) rfl rfl;have:=z6.zbB (sto:=s') false (fun _=>rfl) hrn h hb rfl (fun j hj=>absurd hj (Nat.not_lt_zero j)) (z3e hob);rw [hv',←z1l,hob'] at this;exact this
 simp only [Wf,w00] at hcc;simp only [yr,w00,w05] at hst;obtain ⟨rfl,rfl⟩:=hst
 refine ⟨{v:=v',ob:=ob',n:=out.n,rd:=false},by simp only [w0h,w0x];exact hat,?_⟩
 simp only [hcc];exact h'
end
end Go.GB
namespace Go.GB.C24
open Go.GB Go.GB.C11
variable {P:Program}
theorem zbR (H:zX P) (n:Str) (a b:List Dir) (ha:DL a) (hb:DL b) (haa:DA a) (hba:DA b) (part:Str) (hn:n.length<=1125899906842624) (hp:part.length<=1125899906842624):z6 P 35 [.ptr 0 0,.t (.lst (a.map Dir.enc)),.t (.lst (b.map Dir.enc)),.t (.str part)] ⟨[(0,.cells [.t (.str n),.zC])],1⟩ {v:= .t (.lst ((Zw a b).map Dir.enc)),ob:=[(0,.cells [.t (.str n),.own 1 2 ((one (Z4 a b) ⟨29,wi n part⟩).map z4.enc)]),(1,.arr (one (Z4 a b) ⟨29,wi n part⟩).length)],n:=1,rd:=true}:=
 z6.wk (z3D H n [] (by simp) a b ha hb haa hba part hn hp) (Nat.le_succ 1) (.cons (.same rfl) (.cons .t (.cons .t (.cons .t .nil)))) ⟨.inl ⟨Nat.zero_lt_one,_,rfl,.cells (.cons .t (.cons (.Z6 (w09 _) (Nat.lt_succ_self 1)) .nil))⟩,.inr ⟨w09 _,Nat.lt_succ_self 1,rfl⟩,trivial⟩ rfl rfl rfl
theorem zeM {a b:Def} (h:Wx a b=[]):a.members.map (Wo b.members)=a.members.map (WO b.members):=by
 refine w2d fun x hx=>?_;have h1:=(w0l.1 h).1;have h2:=w2e.1 h1 x hx;unfold Wo WO
 cases hf:zo x.name b.members with
 |none=>simp [ym,hf] at h2
 |some y=>rfl
theorem z8L (a b:Def):WW a b=a.fields.flatMap (Zk b.fields a.name)++(if a.kind=2 then qy a b a.name else []):=by
 unfold WW kF qy
 by_cases h:a.kind=2<;>simp [h,zE]
theorem z9Y (H:zX P) {k:Nat} (hk:k<=500000) (a b:Def) (ha:DB k a) (hb:DB k b) (na:NM a) (nb:NM b):z6 P 16 [a.v,b.v] ⟨[],0⟩ {v:= .tup [(z0D a b).v,.t (.lst ((zZ a b).map z4.enc))]}:=by
 have hk1:k<=1000000:=by omega
 have hfl:=ha.fl;have hfl2:=hb.fl;have hml:=ha.ml;have hml2:=hb.ml;have hnl:=ha.nl;have hnl2:=hb.nl;have hil:=ha.il;have hil2:=hb.il;have hnm:=ha.ok.nm;by_cases hkd:a.kind=b.kind
 rotate_left
 ·have e1:zZ a b=[⟨9,a.name⟩]:=by unfold zZ;rw [w0g hkd]
  have e2:z0D a b=Def.zero:=by unfold z0D;rw [e1];rfl
  rw [e1,e2];refine z6.run H.i16 H.mixed Z Z ?_;refine fR Z ?_;refine Run.zf Z Z (by simp [hkd]) ?_
  refine Run.Q8 (f:=5) Z (by (repeat' (first |exact trivial|exact w12 _|exact Qi _|exact Qg _|exact grd3 _ _|exact Qk _ _|refine And.intro ?_ ?_|exact rfl|(simp;done)|(simp<;>omega)));done) ?_
  refine Mid.zfu Z Z Z ?_;refine fM Z ?_;refine Run.fin Z (z3.go ?_);exact .Ys (.agg (.cons (.t Z) (.cons (.t Z) (.cons (.nil Z) (.cons (.nil Z) (.cons (.nil Z) (.cons (.nil Z) (.cons (.nil Z) .nil)))))))) (.t Z)
 have e0:zZ a b=one (Z4 a.zg b.zg) ⟨29,a.name⟩++(a.fields.flatMap (Zk b.fields a.name)++((if a.kind=2 then qy a b a.name else [])++(ZI a.members b.members a.name++yZ a.zi b.zi a.name))):=by
  unfold zZ;rw [w0e hkd,z8L,w1g];rfl
 have hlen:=z0w ha hb
 have hM0:zZ a b=[]->a.members.map (Wo b.members)=a.members.map (WO b.members):=fun h=>by
  refine zeM ?_;unfold zZ at h;rw [w0e hkd] at h;exact (w0l.1 (w0l.1 (w0l.1 h).2).2).1
 have hO:z0D a b=if zZ a b=[] then yQ a b else Def.zero:=rfl;generalize zZ a b=tot at e0 hlen hO hM0⊢;have g1:=z5u H a.implements (by omega);have g2:=qb H a.zi hnl fun x hx=>⟨ha.ok.n x hx,na.ni x hx⟩;have g3:=zbR H a.name a.zg b.zg (ha.d hk1) (hb.d hk1) na.da nb.da [] (by omega) (by simp);rw [show wi a.name []=a.name from rfl] at g3;have hmA:∀x,x∈a.members->MK x:=fun x hx=>⟨ha.ok.m x hx,ha.md hk1 hx,na.ma x hx,na.mN x hx⟩;have hmB:∀x,x∈b.members->MK x:=fun x hx=>⟨hb.ok.m x hx,hb.md hk1 hx,nb.ma x hx,nb.mN x hx⟩;have hiA:∀x,x∈a.zi->x.Ok/\x.name≠[]:=fun x hx=>⟨ha.ok.n x hx,na.nN x hx⟩;have hiB:∀x,x∈b.zi->x.Ok/\x.name≠[]:=fun x hx=>⟨hb.ok.n x hx,nb.nN x hx⟩;have h29:=q7 (Z4 a.zg b.zg) ⟨29,a.name⟩;generalize hF0:one (Z4 a.zg b.zg) ⟨29,a.name⟩=F0 at g3 e0 h29;have g4:=z90 H hk1 a.name hnm F0 (by omega) a b ha hb na nb;have hF1l:=zO (l:=a.fields) (g:=Zk b.fields a.name) fun x hx=>Qp hb.f _ (ha.f x hx);generalize hF1:a.fields.flatMap (Zk b.fields a.name)=F1 at g4 e0 hF1l;generalize hFl:a.fields.map (Y5 b.fields)++Zu a.fields b.fields=FL at g4;refine z6.run H.i16 H.mixed Z Z ?_;refine fR Z ?_;refine Run.ze Z Z (by simp [hkd]) ?_;refine fR Z ?_;refine Mid.zgL (g1) Z Z Z Z (ob':=[(4,.arr a.implements.length)]) (rfl) Z Z ?_;refine fM Z ?_;refine Mid.call (g2) Z Z Z Z ?_;refine fM Z ?_
 refine Mid.yH [3] (g3) Z Z Z Z (by simp [Z1];simp [zd.bd,V.bds,V.bd]) (by repeat' (first |exact trivial|exact rfl|refine And.intro ?_ ?_|exact (congrArg some (zd.ren_mE _ _ _ _ _ _)).symm|exact (congrArg some (zd.ren_cE _ _ _)).symm|(refine (congrArg some (zd.Za ?_ _ _)).symm;intro _;rfl))) Z Z (ob':=[(3,.cells [.t (.str a.name),.own 6 2 ((F0).map z4.enc)]),(6,.arr (F0).length)]) (rfl) Z Z ?_
 refine fM Z ?_;refine lM Z Z Z ?_;refine fM Z ?_;refine zu b.implements (fun i (B:List Str)=>{env:=[(2,.ptr 0 0),(3,.ptr 1 0),(4,.ptr 2 0),(6,.ptr 3 0),(7,.ptr 5 0),(43,.t (.lst (b.implements.map sE))),(44,.t (.int .i64 b.implements.length)),(45,.t (.int .i64 i))],s:=⟨[(0,(TCo a)),(1,(TCo b)),(2,.cells [.t (.int .i64 0),.t (.str []),.zC,.zC,.zC,.zC,.zC]),(3,.cells [.t (.str a.name),.own 6 2 (F0.map z4.enc)]),(4,.arr B.length),(5,.cells [.t (.int .i64 a.kind),.t (.str a.name),.own 4 1 (B.map sE),.t (.lst ((Zw a.zg b.zg).map Dir.enc)),.zC,.zC,.t (.lst (a.zi.map Input.enc))]),(6,.arr F0.length)],7⟩}) (fun r i B=>B++(r.filter fun x=>!decide (x∈a.implements))=Zs a.implements b.implements) 7 a.implements Z Z Z Z Z ?_ ?_
 ·intro B hB
  have hB2:Zs a.implements b.implements=B:=by simpa using hB.symm
  have hBl:B.length<=2000000:=by have:=z0C a.implements b.implements;rw [hB2] at this;omega
  refine fR Z ?_;refine Run.ze Z Z (by simp) ?_;refine fR Z ?_
  refine Mid.yH [3,6] (g4) Z Z Z Z (by simp [Z1];simp [zd.bd,V.bds,V.bd]) (by repeat' (first |exact trivial|exact rfl|refine And.intro ?_ ?_|exact (congrArg some (zd.ren_mE _ _ _ _ _ _)).symm|exact (congrArg some (zd.ren_cE _ _ _)).symm|(refine (congrArg some (zd.Za ?_ _ _)).symm;intro _;rfl))) Z Z (ob':=[(3,.cells [.t (.str a.name),.own 6 2 ((F0++F1).map z4.enc)]),(6,.arr (F0++F1).length)]) (rfl) Z Z ?_
  refine fM Z ?_;refine Run.zf9 (fun F:List z4=>{env:=[(2,.ptr 0 0),(3,.ptr 1 0),(4,.ptr 2 0),(6,.ptr 3 0),(7,.ptr 5 0)],s:=⟨[(0,(TCo a)),(1,(TCo b)),(2,.cells [.t (.int .i64 0),.t (.str []),.zC,.zC,.zC,.zC,.zC]),(3,.cells [.t (.str a.name),.own 6 2 (F.map z4.enc)]),(5,.cells [.t (.int .i64 a.kind),.t (.str a.name),.t (.lst (B.map sE)),.t (.lst ((Zw a.zg b.zg).map Dir.enc)),.t (.lst (FL.map Field.enc)),.zC,.t (.lst (a.zi.map Input.enc))]),(6,.arr F.length)],7⟩}) (fun F=>F++(ZI a.members b.members a.name++yZ a.zi b.zi a.name)=tot) Z Z Z ?_ ?_ ?_
  ·intro F hF
   have hFle:F.length+((ZI a.members b.members a.name).length+(yZ a.zi b.zi a.name).length)<=2004*k+4001:=by have:=congrArg List.length hF;simp only [w03] at this;omega
   have g5:=z7S H a.name hnm F (by omega) a.members b.members hml hml2 hmA hmB;have g6:=z8u H a.name hnm (F++ZI a.members b.members a.name) (by simp only [w03];omega) a.zi b.zi hnl hnl2 hiA hiB
   rw [show F++ZI a.members b.members a.name++yZ a.zi b.zi a.name=tot by rw [←hF];simp] at g6
   generalize hML:a.members.map (Wo b.members)=ML at g5 hM0;refine fR Z ?_
   refine Mid.yH [3,6] (g5) Z Z Z Z (by simp [Z1];simp [zd.bd,V.bds,V.bd]) (by repeat' (first |exact trivial|exact rfl|refine And.intro ?_ ?_|exact (congrArg some (zd.ren_mE _ _ _ _ _ _)).symm|exact (congrArg some (zd.ren_cE _ _ _)).symm|(refine (congrArg some (zd.Za ?_ _ _)).symm;intro _;rfl))) Z Z (ob':=[(3,.cells [.t (.str a.name),.own 6 2 ((F++ZI a.members b.members a.name).map z4.enc)]),(6,.arr (F++ZI a.members b.members a.name).length)]) (rfl) Z Z ?_
   refine fM Z ?_
   refine Mid.yH [3,6] (g6) Z Z Z Z (by simp [Z1];simp [zd.bd,V.bds,V.bd]) (by repeat' (first |exact trivial|exact rfl|refine And.intro ?_ ?_|exact (congrArg some (zd.ren_mE _ _ _ _ _ _)).symm|exact (congrArg some (zd.ren_cE _ _ _)).symm|(refine (congrArg some (zd.Za ?_ _ _)).symm;intro _;rfl))) Z Z (ob':=[(3,.cells [.t (.str a.name),.own 6 2 ((tot).map z4.enc)]),(6,.arr (tot).length)]) (rfl) Z Z ?_
   refine fM Z ?_;refine lM Z Z Z ?_;refine fM Z ?_;refine Run.cond Z Z (fun hc=>?_) (fun hc=>?_)
   ·have ht:tot≠[]:=by rintro rfl;simp at hc
    rw [w0g ht] at hO;rw [hO];refine fR Z ?_;refine Run.fin Z (z3.go ?_);exact .Ys (.agg (.cons (.t Z) (.cons (.t Z) (.cons (.nil Z) (.cons (.nil Z) (.cons (.nil Z) (.cons (.nil Z) (.cons (.nil Z) .nil)))))))) (.own Z)
   ·have ht:tot=[]:=by
     cases tot with
     |nil=>rfl
     |cons x r=>simp at hc
    rw [w0e ht] at hO
    have e:yQ a b=⟨a.kind,a.name,B,Zw a.zg b.zg,FL,ML,a.zi⟩:=by rw [←hB2,←hFl,hM0 ht];rfl
    rw [hO,e,ht];refine fR Z ?_;refine Run.fin Z (z3.go ?_);exact .Ys (.agg (.cons (.t Z) (.cons (.t Z) (.cons (.t Z) (.cons (.t Z) (.cons (.t Z) (.cons (.t Z) (.cons (.t Z) .nil)))))))) (.nil Z)
  ·intro hc ih
   have hk2:a.kind=2:=by simpa using hc
   rw [w0e hk2] at e0
   have hfl3:(F0++F1).length<=4398000000000:=by
    have:a.fields.length*2002<=1000000*2002:=w0s _ (by omega);simp only [w03];omega
   have g5:=zet H hk1 a.name hnm (F0++F1) hfl3 a b ha hb na nb;refine fR Z ?_
   refine Mid.yH [3,6] (g5) Z Z Z Z (by simp [Z1];simp [zd.bd,V.bds,V.bd]) (by repeat' (first |exact trivial|exact rfl|refine And.intro ?_ ?_|exact (congrArg some (zd.ren_mE _ _ _ _ _ _)).symm|exact (congrArg some (zd.ren_cE _ _ _)).symm|(refine (congrArg some (zd.Za ?_ _ _)).symm;intro _;rfl))) Z Z (ob':=[(3,.cells [.t (.str a.name),.own 6 2 ((F0++F1++qy a b a.name).map z4.enc)]),(6,.arr (F0++F1++qy a b a.name).length)]) (rfl) Z Z ?_
   refine Mid.z0m Z ?_;exact yM 7 Z (ih (F0++F1++qy a b a.name) (by rw [e0];simp)) Z Z Z
  ·intro hc ih
   have hk2:¬ a.kind=2:=by simpa using hc
   rw [w0g hk2] at e0;exact yM 7 Z (ih (F0++F1) (by rw [e0];simp)) Z Z Z
 ·intro i x r B h1 hi hdr hB ih
  have hBl:B.length<=2000000:=by have:=congrArg List.length hB;have:=z0C a.implements b.implements;simp only [w03] at*;omega
  refine fR Z ?_;refine Run.zf Z Z (by simp;omega) ?_;refine fR Z ?_;refine Mid.zb Z Z Z h1 Z Z ?_;refine fM Z ?_;refine Mid.call (QN H.p13.toPr a.implements (by omega) x) Z Z Z Z ?_;refine fM Z ?_;refine Run.cond Z Z (fun hc=>?_) (fun hc=>?_)
  ·have e:¬ x∈a.implements:=by simpa using hc
   refine fR Z ?_;refine apM sE B [x] Z Z Z Z Z ?_ (h1:=by first |omega|(simp;omega)|(simp;done)) (h2:=by first |omega|(simp;omega)|(simp;done));refine fM rfl ?_;refine aL rfl rfl rfl rfl rfl ?_;refine fM rfl ?_;exact zl 7 rfl (ih (B++[x]) (by rw [←hB];simp [e])) rfl rfl rfl
  ·have e:x∈a.implements:=by simpa using hc
   refine fR Z ?_;refine aL Z Z Z Z Z ?_;refine fM Z ?_;exact zl 7 Z (ih B (by rw [←hB];simp [e])) Z Z Z
theorem zdq (H:zX P) {n:Nat} (hn:n<=1000000) (a:Def) (ha:DB n a) (na:NM a):z6 P 29 [a.v] ⟨[],0⟩ {v:=(zW a).v}:=by
 have hfl:=ha.fl;have hml:=ha.ml;have hil:=ha.il;have g1:=(z5u H a.implements (by omega)).toT;have g2:=Q4 H a.zg (ha.d hn).d na.da (by have:=(ha.d hn).n;omega);have g3:=qb H a.zi ha.nl fun x hx=>⟨ha.ok.n x hx,na.ni x hx⟩;refine z6.run H.i29 H.mixed Z Z ?_;refine fR Z ?_;refine Mid.call (g1) Z Z Z Z ?_;refine fM Z ?_;refine Mid.call (g2) Z Z Z Z ?_;refine fM Z ?_;refine Mid.call (g3) Z Z Z Z ?_;refine fM Z ?_;refine lM Z Z Z ?_;refine fM Z ?_;refine zu a.fields (fun i (B:List Field)=>{env:=[(1,.ptr 0 0),(2,.ptr 1 0),(3,.ptr 2 0),(23,.t (.lst (a.fields.map Field.enc))),(24,.t (.int .i64 a.fields.length)),(25,.t (.int .i64 i))],s:=⟨[(0,(TCo a)),(1,.cells [.t (.int .i64 0),.t (.str []),.zC,.zC,.zC,.zC,.zC]),(2,.cells [.t (.int .i64 a.kind),.t (.str a.name),.t (.lst (a.implements.map sE)),.t (.lst ((zG a.zg).map Dir.enc)),.own 3 5 (B.map Field.enc),.zC,.t (.lst (a.zi.map Input.enc))]),(3,.arr B.length)],4⟩}) (fun r i B=>B++r.map zH=a.fields.map zH) 3 [] Z Z Z Z Z ?_ ?_
 ·intro B hB
  have hB2:a.fields.map zH=B:=by simpa using hB.symm
  have hBl:B.length=a.fields.length:=by rw [←hB2];simp
  refine fR Z ?_;refine Run.ze Z Z (by simp) ?_;refine fR Z ?_;refine lM Z Z Z ?_;refine fM Z ?_;refine zu a.members (fun i (C:List zh)=>{env:=[(2,.ptr 1 0),(3,.ptr 2 0),(38,.t (.lst (a.members.map zh.enc))),(39,.t (.int .i64 a.members.length)),(40,.t (.int .i64 i))],s:=⟨[(1,.cells [.t (.int .i64 0),.t (.str []),.zC,.zC,.zC,.zC,.zC]),(2,.cells [.t (.int .i64 a.kind),.t (.str a.name),.t (.lst (a.implements.map sE)),.t (.lst ((zG a.zg).map Dir.enc)),.t (.lst (B.map Field.enc)),.own 4 2 (C.map zh.enc),.t (.lst (a.zi.map Input.enc))]),(4,.arr C.length)],5⟩}) (fun r i C=>C++r.map yz=a.members.map yz) 4 [] Z Z Z Z Z ?_ ?_
  ·intro C hC
   have hC2:a.members.map yz=C:=by simpa using hC.symm
   refine fR Z ?_;refine Run.ze Z Z (by simp) ?_;refine fR Z ?_
   have e:zW a=⟨a.kind,a.name,a.implements,zG a.zg,B,C,a.zi⟩:=by rw [←hB2,←hC2];rfl
   rw [e];refine Run.fin Z (z3.go ?_);exact .agg (.cons (.t Z) (.cons (.t Z) (.cons (.t Z) (.cons (.t Z) (.cons (.t Z) (.cons (.own Z) (.cons (.t Z) .nil)))))))
  ·intro i x r C h1 hi hdr hC ih;have hxm:=zMG h1;have hC:C++(yz x::r.map yz)=a.members.map yz:=hC
   have hCl:C.length<=a.members.length:=by have:=congrArg List.length hC;simp only [w03,w0r] at this;omega
   have g4:=Q4 H x.zg (ha.md hn hxm).d (na.ma x hxm) (by have:=(ha.md hn hxm).n;omega);refine fR Z ?_;refine Run.zf Z Z (by simp;omega) ?_;refine fR Z ?_;refine Mid.zb Z Z Z h1 Z Z ?_;refine fM Z ?_;refine Mid.call (g4) Z Z Z Z ?_;refine fM Z ?_;refine apM zh.enc C [yz x] Z Z Z Z Z ?_ (h1:=by first |omega|(simp;omega)|(simp;done)) (h2:=by first |omega|(simp;omega)|(simp;done));refine fM rfl ?_;refine aL rfl rfl rfl rfl rfl ?_;refine fM rfl ?_;exact zl 5 rfl (ih (C++[yz x]) (by rw [←hC];simp)) rfl rfl rfl
 ·intro i x r B h1 hi hdr hB ih;have hxm:=zMG h1;have hB:B++(zH x::r.map zH)=a.fields.map zH:=hB
  have hBl:B.length<=a.fields.length:=by have:=congrArg List.length hB;simp only [w03,w0r] at this;omega
  have g4:=qY H hn x (ha.f x hxm) (na.fa x hxm) (na.fi x hxm);refine fR Z ?_;refine Run.zf Z Z (by simp;omega) ?_;refine fR Z ?_;refine Mid.zb Z Z Z h1 Z Z ?_;refine fM Z ?_;refine Mid.call (g4) Z Z Z Z ?_;refine fM Z ?_;refine apM Field.enc B [zH x] Z Z Z Z Z ?_ (h1:=by first |omega|(simp;omega)|(simp;done)) (h2:=by first |omega|(simp;omega)|(simp;done));refine fM rfl ?_;refine aL rfl rfl rfl rfl rfl ?_;refine fM rfl ?_;exact zl 4 rfl (ih (B++[zH x]) (by rw [←hB];simp)) rfl rfl rfl
theorem NM.merged {a b:Def} (na:NM a) (nb:NM b):NM (yQ a b):=by
 have gD:∀(l:List Field) (x:Field),(∀y,y∈l->DA y.zg)->DA ((z5 x.name l).getD Field.zero).zg:=fun l x h=>by
  cases hf:z5 x.name l with
  |none=>intro y hy;simp [Field.zero] at hy
  |some z=>exact h z (z05 hf)
 have gM:∀(l:List zh) (x:zh),(∀y,y∈l->DA y.zg)->DA ((zo x.name l).getD zh.zero).zg:=fun l x h=>by
  cases hf:zo x.name l with
  |none=>intro y hy;simp [zh.zero] at hy
  |some z=>exact h z (ZS hf)
 refine ⟨fun y hy=>?_,fun y hy=>?_,na.nN,na.da.join nb.da,fun y hy=>?_,fun y hy=>?_,fun y hy=>?_,na.ni⟩
 ·rcases w14.1 hy with hy|hy
  ·obtain ⟨x,hx,rfl⟩:=w0m.1 hy;exact na.fN x hx
  ·obtain ⟨x,hx,_,rfl⟩:=Yw hy;exact nb.fN x hx
 ·obtain ⟨x,hx,rfl⟩:=w0m.1 hy;exact na.mN x hx
 ·rcases w14.1 hy with hy|hy
  ·obtain ⟨x,hx,rfl⟩:=w0m.1 hy;exact (na.fa x hx).join (gD b.fields x nb.fa)
  ·obtain ⟨x,hx,_,rfl⟩:=Yw hy;exact (nb.fa x hx).rest
 ·obtain ⟨x,hx,rfl⟩:=w0m.1 hy;exact (na.ma x hx).join (gM b.members x nb.ma)
 ·rcases w14.1 hy with hy|hy
  ·obtain ⟨x,hx,rfl⟩:=w0m.1 hy;exact na.fi x hx
  ·obtain ⟨x,hx,_,rfl⟩:=Yw hy;exact nb.fi x hx
theorem NM.bare {a:Def} (na:NM a):NM (zW a):=by
 refine ⟨fun y hy=>?_,fun y hy=>?_,na.nN,na.da.rest,fun y hy=>?_,fun y hy=>?_,fun y hy=>?_,na.ni⟩
 ·obtain ⟨x,hx,rfl⟩:=w0m.1 hy;exact na.fN x hx
 ·obtain ⟨x,hx,rfl⟩:=w0m.1 hy;exact na.mN x hx
 ·obtain ⟨x,hx,rfl⟩:=w0m.1 hy;exact (na.fa x hx).rest
 ·obtain ⟨x,hx,rfl⟩:=w0m.1 hy;exact (na.ma x hx).rest
 ·obtain ⟨x,hx,rfl⟩:=w0m.1 hy;exact na.fi x hx
end Go.GB.C24
namespace Go.GB.C24
open Go.GB Go.GB.C11
variable {P:Program}
def w9 {α:Type} (p:α->Bool):List α->Int->Int
 |[],_=>-1
 |x::r,i=>if p x=true then i else w9 p r (i+1)
theorem z1o {α:Type} (p:α->Bool):∀(l:List α) (i:Int),0<=i->decide (w9 p l i≥0)=l.any p
 |[],i,_=>by simp [w9]
 |x::r,i,h=>by
  by_cases hx:p x=true
  ·have e:w9 p (x::r) i=i:=by simp only [w9];rw [w0e hx]
   rw [e];simp [h,hx]
  ·have e:w9 p (x::r) i=w9 p r (i+1):=by simp only [w9];rw [w0g hx]
   rw [e,z1o p r (i+1) (by omega)];simp [hx]
theorem zcV (H:zX P) (L:List Str) (hL:L.length<=140737488355328) (s:Str):z6 P 129 [.t (.str s),.ptr 0 0] ⟨[(0,.cells [.t (.lst (L.map sE))])],1⟩ {v:= .t (.bool (!decide (s∈L))),rd:=true}:=by
 refine z6.run H.i129 H.mixed Z Z ?_;refine fR Z ?_;refine Mid.call (QN H.p13.toPr L hL s) Z Z Z Z ?_;refine fM Z ?_;refine Run.fin Z (z3.we Z Z Z (by first |exact rfl|exact nSto_bd|exact tSto_bd) (.t (rfl)))
theorem zb5 (H:zX P) (L:List Str) (hL:L.length<=140737488355328) (l:List Str) (hl:l.length<=140737488355328):z6 P 163 [.t (.lst (l.map sE)),.fn 129 [(0,0)]] ⟨[(0,.cells [.t (.lst (L.map sE))])],1⟩ {v:= .t (.int .i64 (w9 (fun s=>!decide (s∈L)) l 0)),rd:=true}:=by
 refine z6.run H.i163 H.mixed Z Z ?_;refine fR Z ?_;refine lM Z Z Z ?_;refine fM Z ?_;refine zu l (fun i (_:Unit)=>{env:=[(0,.t (.lst (l.map sE))),(1,.fn 129 [(0,0)]),(7,.t (.int .i64 l.length)),(8,.t (.int .i64 i))],s:=⟨[(0,.cells [.t (.lst (L.map sE))])],1⟩}) (fun r i _=>w9 (fun s=>!decide (s∈L)) l 0=w9 (fun s=>!decide (s∈L)) r i) 1 () Z Z Z Z Z ?_ ?_
 ·intro _ hinv;refine fR Z ?_;refine Run.ze Z Z (by simp) ?_;refine fR Z ?_;refine Run.fin Z (z3.we Z Z Z (by first |exact rfl|exact nSto_bd|exact tSto_bd) (.t ((by rw [hinv];rfl))))
 ·intro i y r _ h1 hi hd hinv ih;refine fR Z ?_;refine Run.zf Z Z (by simp;omega) ?_;refine fR Z ?_;refine Mid.zb Z Z Z h1 Z Z ?_;refine fM Z ?_;refine Mid.z6q Z (zcV H L hL y) Z Z Z Z ?_;refine fM Z ?_;refine Run.cond Z Z (fun hc=>?_) (fun hc=>?_)
  ·refine fR Z ?_;refine Run.fin Z (z3.we Z Z Z (by first |exact rfl|exact nSto_bd|exact tSto_bd) (.t ((by rw [hinv];simp only [w9];rw [w0e hc]))))
  ·refine fR Z ?_;refine aL Z Z Z Z Z ?_;refine fM Z ?_
   have h':¬ (!decide (y∈L))=true:=by rw [hc];simp
   exact zl 1 Z (ih () (by rw [hinv];simp only [w9];rw [w0g h'];rfl)) Z Z Z
theorem z6C (H:zX P) (L:List Str) (hL:L.length<=140737488355328) (l:List Str) (hl:l.length<=140737488355328):z6 P 128 [.t (.lst (l.map sE)),.fn 129 [(0,0)]] ⟨[(0,.cells [.t (.lst (L.map sE))])],1⟩ {v:= .t (.bool (l.any fun s=>!decide (s∈L))),rd:=true}:=by
 refine z6.run H.i128 H.mixed Z Z ?_;refine fR Z ?_;refine Mid.z7a (zb5 H L hL l hl) Z Z (by first |exact rfl|exact nSto_bd|exact tSto_bd) Z ?_;refine fM Z ?_;refine Run.fin Z (z3.we Z Z Z (by first |exact rfl|exact nSto_bd|exact tSto_bd) (.t ((by rw [←z1o _ l 0 (by omega)]))))
def z95 (a b:List Str):Bool:=!(a.any fun s=>!decide (s∈b))
theorem zdm (H:zX P) (a b:List Str) (ha:a.length<=140737488355328) (hb:b.length<=140737488355328):z6 P 127 [.t (.lst (a.map sE)),.t (.lst (b.map sE))] ⟨[],0⟩ {v:= .t (.bool (z95 a b))}:=by
 refine z6.run H.i127 H.mixed Z Z ?_;refine fR Z ?_
 refine Mid.Ql [0] (z6C H b hb a ha) Z Z Z Z (by simp [Z1];simp [zd.bd,V.bds,V.bd]) (by repeat' (first |exact trivial|exact rfl|refine And.intro ?_ ?_|exact (congrArg some (zd.ren_mE _ _ _ _ _ _)).symm|exact (congrArg some (zd.ren_cE _ _ _)).symm|(refine (congrArg some (zd.Za ?_ _ _)).symm;intro _;rfl))) Z ?_
 refine fM Z ?_;refine Run.fin Z (z3.go ?_);exact .t Z
def z85 (a b:List Str):Bool:=z95 a b&&z95 b a
theorem zeV (H:zX P) (a b:List Str) (ha:a.length<=140737488355328) (hb:b.length<=140737488355328):z6 P 73 [.t (.lst (a.map sE)),.t (.lst (b.map sE))] ⟨[],0⟩ {v:= .t (.bool (z85 a b))}:=by
 have g1:=zdm H a b ha hb;have g2:=zdm H b a hb ha;unfold z85;generalize z95 a b=x at g1⊢;generalize z95 b a=y at g2⊢;refine z6.run H.i73 H.mixed Z Z ?_;refine fR Z ?_;refine Mid.z0V Z g1 Z Z Z Z ?_;refine fM Z ?_
 cases x with
 |true=>
  refine Mid.zg0 Z Z Z ?_;refine Mid.z0V Z g2 Z Z Z Z ?_;refine fM Z ?_;refine Run.fin Z (z3.go ?_);exact .t Z
 |false=>
  refine Mid.W4 Z (by first |rfl|(simp;done)) Z Z Z ?_;refine fM Z ?_;refine Run.fin Z (z3.go ?_);exact .t Z
def Gr.v (g:Gr):V:= .agg [.t (.str g.name),.t (.lst (g.doc.map Def.enc))]
def poB (all:List Str) (nm:Str) (g:Gr):Bool:=(z7 nm g.doc).isSome&&!z85 (Y7 g.doc nm) all
theorem zbE (H:zX P) (t:Def) (all:List Str) (hall:all.length<=140737488355328) (g:Gr) (hg:zV g.doc):z6 P 72 [Gr.v g,.ptr 0 0,.ptr 1 0] ⟨[(0,(TCo t)),(1,.cells [.t (.lst (all.map sE))])],2⟩ {v:= .t (.bool (poB all t.name g)),rd:=true}:=by
 have g1:=z2O H.p13.toPr g.doc hg t.name;have hl:=z4p g.doc t.name;have hdl:=hg.l;have g2:=zeV H (Y7 g.doc t.name) all (by omega) hall;refine z6.run H.i72 H.mixed Z Z ?_;refine fR Z ?_;refine Mid.call (z1v H.p13.toPr g.doc hg.l t.name) Z Z Z Z ?_;refine fM Z ?_;refine caG Z Z (fun hg=>⟨_,rfl,g1,rfl⟩) Z Z ?_;refine fM Z ?_;refine caG Z Z (fun hg=>⟨_,rfl,g2,rfl⟩) Z Z ?_;refine fM Z ?_;refine Run.fin Z (z3.we Z Z Z (by first |exact rfl|exact nSto_bd|exact tSto_bd) (.t (rfl)))
theorem zbl (H:zX P) (t:Def) (all:List Str) (hall:all.length<=140737488355328) (l:List Gr) (hl:l.length<=140737488355328) (hg:∀g,g∈l->zV g.doc):z6 P 126 [.t (.lst (l.map Gr.enc)),.fn 72 [(0,0),(1,0)]] ⟨[(0,(TCo t)),(1,.cells [.t (.lst (all.map sE))])],2⟩ {v:= .t (.int .i64 (w9 (poB all t.name) l 0)),rd:=true}:=by
 refine z6.run H.i126 H.mixed Z Z ?_;refine fR Z ?_;refine lM Z Z Z ?_;refine fM Z ?_;refine zu l (fun i (_:Unit)=>{env:=[(0,.t (.lst (l.map Gr.enc))),(1,.fn 72 [(0,0),(1,0)]),(7,.t (.int .i64 l.length)),(8,.t (.int .i64 i))],s:=⟨[(0,(TCo t)),(1,.cells [.t (.lst (all.map sE))])],2⟩}) (fun r i _=>w9 (poB all t.name) l 0=w9 (poB all t.name) r i) 2 () Z Z Z Z Z ?_ ?_
 ·intro _ hinv;refine fR Z ?_;refine Run.ze Z Z (by simp) ?_;refine fR Z ?_;refine Run.fin Z (z3.we Z Z Z (by first |exact rfl|exact nSto_bd|exact tSto_bd) (.t ((by rw [hinv];rfl))))
 ·intro i y r _ h1 hi hd hinv ih;refine fR Z ?_;refine Run.zf Z Z (by simp;omega) ?_;refine fR Z ?_;refine Mid.zb Z Z Z h1 Z Z ?_;refine fM Z ?_;refine Mid.z6q Z (zbE H t all hall y (hg y (zMG h1))) Z Z Z Z ?_;refine fM Z ?_;refine Run.cond Z Z (fun hc=>?_) (fun hc=>?_)
  ·refine fR Z ?_;refine Run.fin Z (z3.we Z Z Z (by first |exact rfl|exact nSto_bd|exact tSto_bd) (.t ((by rw [hinv];simp only [w9];rw [w0e hc]))))
  ·refine fR Z ?_;refine aL Z Z Z Z Z ?_;refine fM Z ?_
   have h':¬ poB all t.name y=true:=by rw [hc];simp
   exact zl 2 Z (ih () (by rw [hinv];simp only [w9];rw [w0g h'];rfl)) Z Z Z
theorem z6D (H:zX P) (t:Def) (all:List Str) (hall:all.length<=140737488355328) (l:List Gr) (hl:l.length<=140737488355328) (hg:∀g,g∈l->zV g.doc):z6 P 71 [.t (.lst (l.map Gr.enc)),.fn 72 [(0,0),(1,0)]] ⟨[(0,(TCo t)),(1,.cells [.t (.lst (all.map sE))])],2⟩ {v:= .t (.bool (l.any (poB all t.name))),rd:=true}:=by
 refine z6.run H.i71 H.mixed Z Z ?_;refine fR Z ?_;refine Mid.z7a (zbl H t all hall l hl hg) Z Z (by first |exact rfl|exact nSto_bd|exact tSto_bd) Z ?_;refine fM Z ?_;refine Run.fin Z (z3.we Z Z Z (by first |exact rfl|exact nSto_bd|exact tSto_bd) (.t ((by rw [←z1o _ l 0 (by omega)]))))
theorem zd0 {t:Def} {nm x:Str}:∀{r pre:List Def},x∈Yk t nm pre r->∀p,p∈pre->p.name≠x:=by
 intro r
 induction r with
 |nil=>intro pre h;simp [Yk] at h
 |cons o r ih=>
  intro pre h p hp;simp only [Yk] at h;split at h
  ·rename_i hc
   rcases w0t.1 h with h|h
   ·subst h;simp only [w07,Zh,w21,List.any_eq_false] at hc;intro e;exact hc.1.2 p hp (by simp [e])
   ·exact ih h p (by simp [hp])
  ·exact ih h p (by simp [hp])
theorem z8J {t:Def} {nm:Str}:∀(r pre:List Def),(Yk t nm pre r).Nodup:=by
 intro r
 induction r with
 |nil=>intro pre;simp [Yk]
 |cons o r ih=>
  intro pre;simp only [Yk];split
  ·rw [w15];exact ⟨fun h=>zd0 h o (by simp) Z,ih _⟩
  ·exact ih _
theorem qN (ds:List Def) (nm:Str):(Y7 ds nm).Nodup:=by
 unfold Y7;split
 ·simp
 ·exact z8J _ _
theorem zcb {a b:List Str}:z95 a b=true↔∀x,x∈a->x∈b:=by
 simp [z95]
theorem zc6 {a b:List Str} (ha:a.Nodup) (hb:b.Nodup):z85 a b=(decide (a.length=b.length)&&a.all fun s=>decide (s∈b)):=by
 rw [w1n];simp only [z85,w07,zcb,w0j,w0i];constructor
 ·rintro ⟨h1,h2⟩;exact ⟨Nat.le_antisymm (ha.length_le_of_subset h1) (hb.length_le_of_subset h2),h1⟩
 ·rintro ⟨h1,h2⟩;refine ⟨h2,fun x hx=>Classical.byContradiction fun hn=>?_⟩;have hnd:(x::a).Nodup:=w15.2 ⟨hn,ha⟩
  have:=hnd.length_le_of_subset (l₂:=b) fun y hy=>by
   rcases w0t.1 hy with rfl|hy
   ·exact hx
   ·exact h2 y hy
  simp only [w0d] at this;omega
theorem zeE (all:List Str) (hall:all.Nodup) (nm:Str) (g:Gr):poB all nm g=!wJ all nm g:=by
 unfold poB wJ;rw [zc6 (qN g.doc nm) hall]
 cases z7 nm g.doc<;>simp
theorem ze1 (all:List Str) (hall:all.Nodup) (nm:Str) (gs:List Gr):gs.any (poB all nm)=!gs.all (wJ all nm):=by
 rw [show gs.any (poB all nm)=gs.any (fun g=>!wJ all nm g) by congr 1;funext g;exact zeE all hall nm g]
 simp [List.all_eq_not_any_not]
theorem zeu (H:zX P) (f:Field):z6 P 131 [f.v] ⟨[],0⟩ {v:= .t (.bool (decide ((f.zg.length:Int)>16)))}:=by
 refine z6.run H.i131 H.mixed Z Z ?_;refine fR Z ?_;refine lM Z Z Z ?_;refine fM Z ?_;refine Run.fin Z (z3.go ?_);exact .t Z
theorem zeb (H:zX P) (f:zh):z6 P 133 [zh.v f] ⟨[],0⟩ {v:= .t (.bool (decide ((f.zg.length:Int)>16)))}:=by
 refine z6.run H.i133 H.mixed Z Z ?_;refine fR Z ?_;refine lM Z Z Z ?_;refine fM Z ?_;refine Run.fin Z (z3.go ?_);exact .t Z
theorem z8K (H:zX P) (l:List Field) (hl:l.length<=140737488355328):z6 P 164 [.t (.lst (l.map Field.enc)),.t (.fn 131)] ⟨[],0⟩ {v:= .t (.int .i64 (w9 (fun f=>decide ((f.zg.length:Int)>16)) l 0))}:=by
 refine z6.run H.i164 H.mixed Z Z ?_;refine fR Z ?_;refine lM Z Z Z ?_;refine fM Z ?_;refine zu l (fun i (_:Unit)=>{env:=[(0,.t (.lst (l.map Field.enc))),(1,.t (.fn 131)),(7,.t (.int .i64 l.length)),(8,.t (.int .i64 i))],s:=⟨[],0⟩}) (fun r i _=>w9 (fun f:Field=>decide ((f.zg.length:Int)>16)) l 0=w9 (fun f:Field=>decide ((f.zg.length:Int)>16)) r i) 0 () Z Z Z Z Z ?_ ?_
 ·intro _ hinv;refine fR Z ?_;refine Run.ze Z Z (by simp) ?_;refine fR Z ?_;refine Run.fin Z (z3.go ?_);exact .t (by rw [hinv];rfl)
 ·intro i y r _ h1 hi hd hinv ih;refine fR Z ?_;refine Run.zf Z Z (by simp;omega) ?_;refine fR Z ?_;refine Mid.zb Z Z Z h1 Z Z ?_;refine fM Z ?_;refine Mid.z0V Z (zeu H y) Z Z Z Z ?_;refine fM Z ?_;refine Run.cond Z Z (fun hc=>?_) (fun hc=>?_)
  ·refine fR Z ?_;refine Run.fin Z (z3.go ?_);exact .t (by rw [hinv];simp only [w9];rw [w0e hc])
  ·refine fR Z ?_;refine aL Z Z Z Z Z ?_;refine fM Z ?_
   have h':¬ decide ((y.zg.length:Int)>16)=true:=by rw [hc];simp
   exact zl 0 Z (ih () (by rw [hinv];simp only [w9];rw [w0g h'];rfl)) Z Z Z
theorem z91 (H:zX P) (l:List zh) (hl:l.length<=140737488355328):z6 P 165 [.t (.lst (l.map zh.enc)),.t (.fn 133)] ⟨[],0⟩ {v:= .t (.int .i64 (w9 (fun f=>decide ((f.zg.length:Int)>16)) l 0))}:=by
 refine z6.run H.i165 H.mixed Z Z ?_;refine fR Z ?_;refine lM Z Z Z ?_;refine fM Z ?_;refine zu l (fun i (_:Unit)=>{env:=[(0,.t (.lst (l.map zh.enc))),(1,.t (.fn 133)),(7,.t (.int .i64 l.length)),(8,.t (.int .i64 i))],s:=⟨[],0⟩}) (fun r i _=>w9 (fun f:zh=>decide ((f.zg.length:Int)>16)) l 0=w9 (fun f:zh=>decide ((f.zg.length:Int)>16)) r i) 0 () Z Z Z Z Z ?_ ?_
 ·intro _ hinv;refine fR Z ?_;refine Run.ze Z Z (by simp) ?_;refine fR Z ?_;refine Run.fin Z (z3.go ?_);exact .t (by rw [hinv];rfl)
 ·intro i y r _ h1 hi hd hinv ih;refine fR Z ?_;refine Run.zf Z Z (by simp;omega) ?_;refine fR Z ?_;refine Mid.zb Z Z Z h1 Z Z ?_;refine fM Z ?_;refine Mid.z0V Z (zeb H y) Z Z Z Z ?_;refine fM Z ?_;refine Run.cond Z Z (fun hc=>?_) (fun hc=>?_)
  ·refine fR Z ?_;refine Run.fin Z (z3.go ?_);exact .t (by rw [hinv];simp only [w9];rw [w0e hc])
  ·refine fR Z ?_;refine aL Z Z Z Z Z ?_;refine fM Z ?_
   have h':¬ decide ((y.zg.length:Int)>16)=true:=by rw [hc];simp
   exact zl 0 Z (ih () (by rw [hinv];simp only [w9];rw [w0g h'];rfl)) Z Z Z
theorem zdf (H:zX P) (l:List Field) (hl:l.length<=140737488355328):z6 P 130 [.t (.lst (l.map Field.enc)),.t (.fn 131)] ⟨[],0⟩ {v:= .t (.bool (l.any fun f=>decide ((f.zg.length:Int)>16)))}:=by
 refine z6.run H.i130 H.mixed Z Z ?_;refine fR Z ?_;refine Mid.call (z8K H l hl) Z Z Z Z ?_;refine fM Z ?_;refine Run.fin Z (z3.go ?_);exact .t (by rw [←z1o _ l 0 (by omega)])
theorem zdE (H:zX P) (l:List zh) (hl:l.length<=140737488355328):z6 P 132 [.t (.lst (l.map zh.enc)),.t (.fn 133)] ⟨[],0⟩ {v:= .t (.bool (l.any fun f=>decide ((f.zg.length:Int)>16)))}:=by
 refine z6.run H.i132 H.mixed Z Z ?_;refine fR Z ?_;refine Mid.call (z91 H l hl) Z Z Z Z ?_;refine fM Z ?_;refine Run.fin Z (z3.go ?_);exact .t (by rw [←z1o _ l 0 (by omega)])
theorem zaw (H:zX P) (d:Def) (hd:d.Ok):z6 P 74 [d.v] ⟨[],0⟩ {v:= .t (.bool (wg d))}:=by
 have g1:=zdf H d.fields hd.fl;have g2:=zdE H d.members hd.ml;refine z6.run H.i74 H.mixed Z Z ?_;refine fR Z ?_;refine lM Z Z Z ?_;refine fM Z ?_;refine lMG Z Z Z Z ?_;refine fM Z ?_;refine lMG Z Z Z Z ?_;refine fM Z ?_;refine Run.cond Z Z (fun hc=>?_) (fun hc=>?_)
 ·refine fR Z ?_;refine Run.fin Z (z3.go ?_);exact .t (by unfold wg;rw [hc];rfl)
 ·refine fR Z ?_;refine Mid.call (g1) Z Z Z Z ?_;refine fM Z ?_;refine caG Z Z (fun hg=>⟨_,rfl,g2,rfl⟩) Z Z ?_;refine fM Z ?_;refine Run.fin Z (z3.go ?_);exact .t (by unfold wg;rw [hc];rfl)
theorem zc1 (H:zX P) (gs:List Gr) (hG:GL gs) (ds:List Def) (hD:zV ds) (hdl:ds.length<=512):z6 P 30 [.t (.lst (gs.map Gr.enc)),Y8 ds] ⟨[],0⟩ {v:= .t (.lst ((z0i gs ds).map z4.enc))}:=by
 have hn:=hG.n;have hb2:=z3z gs ds;have e0:z0i gs ds=zE (z2Z gs ds) (fun d=>⟨45,d.name⟩) ds++(one (decide ((ds.length:Int)>64)) ⟨4,[]⟩++zE wg (fun d=>⟨4,d.name⟩) ds):=rfl;generalize z0i gs ds=tot at e0 hb2⊢;refine z6.run H.i30 H.mixed Z Z ?_;refine fR Z ?_;refine lM Z Z Z ?_;refine fM Z ?_;refine zu ds (fun i (B:List z4)=>{env:=[(0,.t (.lst (gs.map Gr.enc))),(3,.ptr 0 0),(5,.own 1 2 (B.map z4.enc)),(12,.t (.lst (ds.map Def.enc))),(13,.t (.int .i64 ds.length)),(14,.t (.int .i64 i))],s:=⟨[(0,.cells [.t (.lst (ds.map Def.enc))]),(1,.arr B.length)],2⟩}) (fun r i B=>B++(zE (z2Z gs ds) (fun d=>⟨45,d.name⟩) r++(one (decide ((ds.length:Int)>64)) ⟨4,[]⟩++zE wg (fun d=>⟨4,d.name⟩) ds))=tot) 1 [] Z e0.symm Z Z Z ?_ ?_
 ·intro B hB
  have hB:B++(one (decide ((ds.length:Int)>64)) ⟨4,[]⟩++zE wg (fun d=>⟨4,d.name⟩) ds)=tot:=by simpa [zE] using hB
  have hBl:B.length<=2000:=by have:=congrArg List.length hB;simp only [w03] at this;omega
  refine fR Z ?_;refine Run.ze Z Z (by simp) ?_;refine fR Z ?_;refine lM Z Z Z ?_;refine fM Z ?_;refine Run.zf9 (fun B:List z4=>{env:=[(3,.ptr 0 0),(5,.own 1 2 (B.map z4.enc))],s:=⟨[(0,.cells [.t (.lst (ds.map Def.enc))]),(1,.arr B.length)],2⟩}) (fun B=>B++zE wg (fun d=>⟨4,d.name⟩) ds=tot) Z Z Z ?_ ?_ ?_
  ·intro B hB;refine fR Z ?_;refine lM Z Z Z ?_;refine fM Z ?_;refine zu ds (fun i (B:List z4)=>{env:=[(5,.own 1 2 (B.map z4.enc)),(44,.t (.lst (ds.map Def.enc))),(45,.t (.int .i64 ds.length)),(46,.t (.int .i64 i))],s:=⟨[(1,.arr B.length)],2⟩}) (fun r i B=>B++zE wg (fun d=>⟨4,d.name⟩) r=tot) 2 B Z hB Z Z Z ?_ ?_
   ·intro B hB
    have hB2:B=tot:=by simpa [zE] using hB
    refine fR Z ?_;refine Run.ze Z Z (by simp) ?_;refine fR Z ?_;refine Run.fin Z (z3.go ?_);exact .own (by rw [hB2])
   ·intro i d r B h1 hi hdr hB ih
    have hB:B++(one (wg d) ⟨4,d.name⟩++zE wg (fun d=>⟨4,d.name⟩) r)=tot:=by rw [←hB];simp [zE]
    have hBl:B.length<=2000:=by have:=congrArg List.length hB;simp only [w03] at this;omega
    have hdd:=hD.d d (zMG h1);refine fR Z ?_;refine Run.zf Z Z (by simp;omega) ?_;refine fR Z ?_;refine Mid.zb Z Z Z h1 Z Z ?_;refine fM Z ?_;refine Mid.call (zaw H d hdd) Z Z Z Z ?_;refine fM Z ?_;refine Run.cond Z Z (fun hc=>?_) (fun hc=>?_)
    ·rw [hc,z3R] at hB;refine fR Z ?_;refine apM z4.enc B [(⟨4,d.name⟩:z4)] Z Z Z Z Z ?_ (h1:=by first |omega|(simp;omega)|(simp;done)) (h2:=by first |omega|(simp;omega)|(simp;done));refine fM rfl ?_;refine aL rfl rfl rfl rfl rfl ?_;refine fM rfl ?_;exact zl 2 rfl (ih (B++[⟨4,d.name⟩]) (by rw [←hB];simp)) rfl rfl rfl
    ·rw [hc,z5o,w0u] at hB;refine fR Z ?_;refine aL Z Z Z Z Z ?_;refine fM Z ?_;exact zl 2 Z (ih B hB) Z Z Z
  ·intro hc ih;rw [hc,z3R] at hB;refine fR Z ?_;refine apM z4.enc B [(⟨4,[]⟩:z4)] Z Z Z Z Z ?_ (h1:=by first |omega|(simp;omega)|(simp;done)) (h2:=by first |omega|(simp;omega)|(simp;done));refine Mid.Q8 (f:=1) rfl trivial ?_;refine Mid.z0m rfl ?_;exact yM 2 rfl (ih (B++[⟨4,[]⟩]) (by rw [←hB];simp)) rfl rfl rfl
  ·intro hc ih;rw [hc,z5o,w0u] at hB;exact yM 2 Z (ih B hB) Z Z Z
 ·intro i d r B h1 hi hdr hB ih
  have hB:B++(one (z2Z gs ds d) ⟨45,d.name⟩++(zE (z2Z gs ds) (fun d=>⟨45,d.name⟩) r++(one (decide ((ds.length:Int)>64)) ⟨4,[]⟩++zE wg (fun d=>⟨4,d.name⟩) ds)))=tot:=by rw [←hB];simp [zE]
  have hBl:B.length<=2000:=by have:=congrArg List.length hB;simp only [w03] at this;omega
  have hpl:=z4p ds d.name;have g1:=z2O H.p13.toPr ds hD d.name;have g2:=z6D H d (Y7 ds d.name) (by omega) gs (by omega) fun g hg=>(hG.g g hg).1;have e1:gs.any (poB (Y7 ds d.name) d.name)=!z6Y gs ds d.name:=ze1 _ (qN ds d.name) _ _;rw [e1] at g2;refine fR Z ?_;refine Run.zf Z Z (by simp;omega) ?_;refine fR Z ?_;refine Mid.zb Z Z Z h1 Z Z ?_;refine fM Z ?_;refine Run.cond Z Z (fun hk=>?_) (fun hk=>?_)
  ·have e:z2Z gs ds d=false:=by unfold z2Z;rw [show (d.kind==2)=false by simpa using hk];rfl
   rw [e,z5o,w0u] at hB;refine fR Z ?_;refine aL Z Z Z Z Z ?_;refine fM Z ?_;exact zl 2 Z (ih B hB) Z Z Z
  ·have e:z2Z gs ds d=!z6Y gs ds d.name:=by unfold z2Z;rw [show (d.kind==2)=true by simpa using hk];rfl
   rw [e] at hB;refine fR Z ?_;refine Mid.call (g1) Z Z Z Z ?_;refine fM Z ?_
   refine Mid.Ql [2,3] (g2) Z Z Z Z (by simp [Z1];simp [zd.bd,V.bds,V.bd]) (by repeat' (first |exact trivial|exact rfl|refine And.intro ?_ ?_|exact (congrArg some (zd.ren_mE _ _ _ _ _ _)).symm|exact (congrArg some (zd.ren_cE _ _ _)).symm|(refine (congrArg some (zd.Za ?_ _ _)).symm;intro _;rfl))) Z ?_
   refine fM Z ?_;refine Run.cond Z Z (fun hc=>?_) (fun hc=>?_)
   ·rw [hc,z3R] at hB;refine fR Z ?_;refine apM z4.enc B [(⟨45,d.name⟩:z4)] Z Z Z Z Z ?_ (h1:=by first |omega|(simp;omega)|(simp;done)) (h2:=by first |omega|(simp;omega)|(simp;done));refine fM rfl ?_;refine aL rfl rfl rfl rfl rfl ?_;refine fM rfl ?_;exact zl 2 rfl (ih (B++[⟨45,d.name⟩]) (by rw [←hB];simp)) rfl rfl rfl
   ·rw [hc,z5o,w0u] at hB;refine fR Z ?_;refine aL Z Z Z Z Z ?_;refine fM Z ?_;exact zl 2 Z (ih B hB) Z Z Z
end Go.GB.C24
namespace Go.GB.C24
open Go.GB Go.GB.C11
variable {P:Program}
structure GN (gs:List Gr):Prop extends GL gs where
 nm:∀g,g∈gs->∀d,d∈g.doc->NM d
theorem Q2 {n:Str}:∀{l:List Def} {d:Def},z7 n l=some d->d.name=n
 |[],d,h=>by simp [z7] at h
 |x::r,d,h=>by
  simp only [z7] at h;split at h
  ·rename_i e;cases h;simpa using e
  ·exact Q2 h
theorem Q6 {n:Str}:∀{l:List Def},z7 n l=none↔∀d,d∈l->d.name≠n
 |[]=>by simp [z7]
 |x::r=>by
  simp only [z7];by_cases h:(x.name==n)=true
  ·rw [w0e h];simp only [reduceCtorEq,false_iff];intro hh;exact hh x (by simp) (by simpa using h)
  ·rw [w0g h,Q6];constructor
   ·intro hh d hd
    rcases w0t.1 hd with rfl|hd
    ·simpa using h
    ·exact hh d hd
   ·intro hh d hd;exact hh d (by simp [hd])
theorem z1c {n:Str} {b:List Def}:∀{a:List Def},z7 n a=none->z7 n (a++b)=z7 n b
 |[],_=>rfl
 |x::r,h=>by
  simp only [z7] at h;split at h
  ·cases h
  ·rename_i e;simp only [w1y,z7];rw [w0g e];exact z1c h
theorem z7g {o:List Str} {n x:Str}:x∈z0e o n↔x∈o∨x=n:=by
 unfold z0e;split
 ·rename_i h;constructor
  ·exact .inl
  ·rintro (h2|rfl)
   ·exact h2
   ·exact h
 ·simp
theorem Wz {x:Str}:∀{l:List Def} {o:List Str},x∈Zr o l↔x∈o∨∃d,d∈l/\d.name=x
 |[],o=>by simp [Zr]
 |d::r,o=>by
  simp only [Zr,Wz,z7g,w0t];constructor
  ·rintro ((h|rfl)|⟨e,h1,h2⟩)
   ·exact .inl h
   ·exact .inr ⟨d,.inl Z,rfl⟩
   ·exact .inr ⟨e,.inr h1,h2⟩
  ·rintro (h|⟨e,rfl|h1,h2⟩)
   ·exact .inl (.inl h)
   ·exact .inl (.inr h2.symm)
   ·exact .inr ⟨e,h1,h2⟩
theorem WJ {x:Str}:∀{l:List Gr} {o:List Str},x∈ZK o l↔x∈o∨∃g,g∈l/\∃d,d∈g.doc/\d.name=x
 |[],o=>by simp [ZK]
 |g::r,o=>by
  simp only [ZK,WJ,Wz,w0t];constructor
  ·rintro ((h|h)|⟨e,h1,h2⟩)
   ·exact .inl h
   ·exact .inr ⟨g,.inl Z,h⟩
   ·exact .inr ⟨e,.inr h1,h2⟩
  ·rintro (h|⟨e,rfl|h1,h2⟩)
   ·exact .inl (.inl h)
   ·exact .inl (.inr h2)
   ·exact .inr ⟨e,h1,h2⟩
theorem zbw {nm:Str} {g:Gr} {o:Option Def} {B:List z4} (h:∀x,o=some x->x.name=nm):∀x,(qw nm g o B).1=some x->x.name=nm:=by
 intro x hx
 cases hf:z7 nm g.doc with
 |none=>rw [wK hf] at hx;exact h x hx
 |some d=>
  cases o with
  |none=>rw [wR hf] at hx;injection hx with hx;subst hx;have:=Q2 hf;exact this
  |some y=>
   by_cases hb:zZ y d=[]
   ·rw [WR hf hb] at hx;injection hx with hx;subst hx;exact h y Z
   ·rw [Ws hf hb] at hx;injection hx with hx;subst hx;exact h _ Z
theorem z5R {nm:Str}:∀{gs:List Gr} {o:Option Def} {B:List z4},(∀x,o=some x->x.name=nm)->∀x,(ya nm gs o B).1=some x->x.name=nm
 |[],o,B,h=>h
 |g::r,o,B,h=>z5R (gs:=r) (zbw h)
theorem qt {nm:Str}:∀{gs:List Gr} {x:Def} {B:List z4},∃y,(ya nm gs (some x) B).1=some y
 |[],x,B=>⟨x,rfl⟩
 |g::r,x,B=>by
  simp only [ya]
  cases hf:z7 nm g.doc with
  |none=>rw [wK hf];exact qt
  |some d=>
   by_cases hb:zZ x d=[]
   ·rw [WR hf hb];exact qt
   ·rw [Ws hf hb];exact qt
theorem z5h {nm:Str} {r:List Gr} {o:Option Def} {B:List z4}:∀{pre:List Gr},(∀g,g∈pre->z7 nm g.doc=none)->ya nm (pre++r) o B=ya nm r o B
 |[],_=>rfl
 |g::p,h=>by
  simp only [w1y,ya];rw [wK (h g (by simp))];exact z5h fun x hx=>h x (by simp [hx])
theorem zcv {nm:Str} {g:Gr} {o:Option Def} {B C:List z4}:qw nm g o (B++C)=((qw nm g o C).1,B++(qw nm g o C).2):=by
 cases hf:z7 nm g.doc with
 |none=>rw [wK hf,wK hf]
 |some d=>
  cases o with
  |none=>rw [wR hf,wR hf]
  |some y=>
   by_cases hb:zZ y d=[]
   ·rw [WR hf hb,WR hf hb]
   ·rw [Ws hf hb,Ws hf hb,w1g]
theorem z3H {nm:Str}:∀{gs:List Gr} {o:Option Def} {B C:List z4},ya nm gs o (B++C)=((ya nm gs o C).1,B++(ya nm gs o C).2)
 |[],o,B,C=>rfl
 |g::r,o,B,C=>by
  simp only [ya,zcv];exact z3H
theorem zbM {nm:Str} {gs:List Gr} {o:Option Def} {B:List z4}:B.length<=(ya nm gs o B).2.length:=by
 have:=z3H (nm:=nm) (gs:=gs) (o:=o) (B:=B) (C:=[]);rw [w1j] at this;rw [this];simp
theorem zcq {gs:List Gr} {i k:Nat} {g:Gr} {t:Def} (h1:gs[i]?=some g) (h2:g.doc[k]?=some t) (hn:t.name∉Zr (ZK [] (gs.take i)) (g.doc.take k)):
  ya t.name gs none []=ya t.name (gs.drop (i+1)) (some (zW t)) []:=by
 have hn1:∀x,x∈gs.take i->z7 t.name x.doc=none:=fun x hx=>Q6.2 fun d hd e=>hn (Wz.2 (.inl (WJ.2 (.inr ⟨x,hx,d,hd,e⟩))));have hn2:z7 t.name (g.doc.take k)=none:=Q6.2 fun d hd e=>hn (Wz.2 (.inr ⟨d,hd,e⟩))
 have hf:z7 t.name g.doc=some t:=by
  rw [show g.doc=g.doc.take k++g.doc.drop k by simp,z1c hn2,C11.y9 h2]
  simp [z7]
 conv=>lhs;rw [show gs=gs.take i++gs.drop i by simp]
 rw [z5h hn1,C11.y9 h1];simp only [ya];rw [wR hf]
theorem zf4 {gs:List Gr} {n:Str} (h:n∈Zo gs):(tyD gs n).name=n:=by
 have hs:∀(l:List Gr),(∃g,g∈l/\∃d,d∈g.doc/\d.name=n)->∃y,(ya n l none []).1=some y:=by
  intro l
  induction l with
  |nil=>rintro ⟨g,hg,_⟩;simp at hg
  |cons g r ih=>
   intro hh;simp only [ya]
   cases hf:z7 n g.doc with
   |none=>
    rw [wK hf];obtain ⟨x,hx,d,hd,e⟩:=hh
    rcases w0t.1 hx with rfl|hx
    ·exact absurd e (Q6.1 hf d hd)
    ·exact ih ⟨x,hx,d,hd,e⟩
   |some d=>rw [wR hf];exact qt
 obtain ⟨y,hy⟩:=hs gs (by simpa using WJ.1 h);unfold tyD;rw [hy];exact z5R (gs:=gs) (o:=none) (B:=[]) (by simp) y hy
theorem z8I {gs:List Gr} {i k:Nat} {g:Gr} (h1:gs[i]?=some g):∀x,x∈Zr (ZK [] (gs.take i)) (g.doc.take k)->x∈Zo gs:=fun x hx=>by
 refine WJ.2 (.inr ?_)
 rcases Wz.1 hx with h|⟨d,hd,e⟩
 ·rcases WJ.1 h with h|⟨y,hy,h⟩
  ·simp at h
  ·exact ⟨y,List.mem_of_mem_take hy,h⟩
 ·exact ⟨g,zMG h1,d,List.mem_of_mem_take hd,e⟩
theorem z5f {gs:List Gr} {n:Str}:∀{l:List Str},(∀x,x∈l->x∈Zo gs)->(z7 n (l.map (tyD gs))).isSome=decide (n∈l)
 |[],_=>by simp [z7]
 |x::r,h=>by
  simp only [w0n,z7];rw [zf4 (h x (by simp))];by_cases e:x=n
  ·simp [e]
  ·rw [w0g (by simpa using e),z5f fun y hy=>h y (by simp [hy])];simp [Ne.symm e]
theorem zeY {gs:List Gr} (hG:GL gs) {i k:Nat} {g:Gr} (h1:gs[i]?=some g):(Zr (ZK [] (gs.take i)) (g.doc.take k)).length<=512:=by
 have hi:i<gs.length:=(w02.1 h1).1;have hn:=hG.n;have h2:=z0Y (g.doc.take k) (ZK [] (gs.take i));have h3:=z0L (gs.take i) [] fun x hx=>(hG.g x (List.mem_of_mem_take hx)).2.1;have h4:=(hG.g g (zMG h1)).2.1;simp only [w26,w16] at h2 h3
 have:min i gs.length<=7:=by omega
 have:min i gs.length*64<=7*64:=w0s _ this;omega
theorem zei {gs:List Gr} (hG:GL gs) {l:List Str} (hl:l.length<=512):(l.flatMap (tyB gs)).length<=12288000000:=by
 have h1:=zO (l:=l) (g:=tyB gs) (k:=24000000) fun x _=>(zeP hG x).2;have:l.length*24000000<=512*24000000:=w0s _ hl;omega
theorem take_succ {α:Type} {l:List α} {i:Nat} {x:α} (h:l[i]?=some x):l.take (i+1)=l.take i++[x]:=by
 rw [w1f,h];rfl
theorem z80 (o:List Str) (d:Def):∀l:List Def,Zr o (l++[d])=z0e (Zr o l) d.name:=by
 intro l
 induction l generalizing o with
 |nil=>rfl
 |cons x r ih=>simp only [w1y,Zr];exact ih _
theorem z7D (o:List Str) (g:Gr):∀l:List Gr,ZK o (l++[g])=Zr (ZK o l) g.doc:=by
 intro l
 induction l generalizing o with
 |nil=>rfl
 |cons x r ih=>simp only [w1y,ZK];exact ih _
theorem wz (H:zX P) (gs:List Gr) (hN:GN gs):z6 P 10 [.t (.lst (gs.map Gr.enc))] ⟨[],0⟩ {v:= .tup [Y8 (wm gs),.t (.lst ((Yt gs).map z4.enc))]}:=by
 have hG:=hN.toGL;have hn:=hG.n;have hdl:=z4r hG;have hdk:=z9G hG;have hb1:=z7b hG;have hb2:=z3z gs (yv gs);have g0:=zc1 H gs hG (yv gs) hdk hdl;have hT:Yt gs=if z1J gs=[] then z0i gs (yv gs) else z1J gs:=rfl;have hU:wm gs=if Yt gs=[] then yv gs else []:=rfl;have eD:(Zo gs).map (tyD gs)=yv gs:=rfl;have eB:(Zo gs).flatMap (tyB gs)=z1J gs:=rfl;refine z6.run H.i10 H.mixed Z Z ?_;refine fR Z ?_;refine lM Z Z Z ?_;refine fM Z ?_;refine zu gs (fun i (N:List Str)=>{env:=[(0,.t (.lst (gs.map Gr.enc))),(2,.ptr 0 0),(4,.ptr 1 0),(5,.own 3 2 ((N.flatMap (tyB gs)).map z4.enc)),(19,.t (.lst (gs.map Gr.enc))),(20,.t (.int .i64 gs.length)),(21,.t (.int .i64 i))],s:=⟨[(0,.cells [.zC]),(1,.cells [.own 2 7 ((N.map (tyD gs)).map Def.enc)]),(2,.arr (N.map (tyD gs)).length),(3,.arr (N.flatMap (tyB gs)).length)],4⟩}) (fun r i N=>N=ZK [] (gs.take i)) 2 [] Z Z Z Z Z ?_ ?_
 ·intro N hN0
  have hN2:N=Zo gs:=by rw [hN0,List.take_length];rfl
  rw [hN2,eD,eB];generalize Yt gs=T0 at hT hU⊢;generalize wm gs=U0 at hU⊢;generalize z1J gs=B at hT hb1;refine fR Z ?_;refine Run.ze Z Z (by simp) ?_;refine fR Z ?_;refine lM Z Z Z ?_;refine fM Z ?_;refine Run.cond Z Z (fun hc=>?_) (fun hc=>?_)
  ·have hne:B=[]:=by
    cases B with
    |nil=>rfl
    |cons a b=>simp at hc;omega
   rw [w0e hne] at hT;subst hne;subst hT;generalize z0i gs (yv gs)=tot at hb2 g0 hU⊢;generalize yv gs=D at*;refine fR Z ?_;refine Mid.call (g0) Z Z Z Z ?_;refine fM Z ?_;refine lM Z Z Z ?_;refine fM Z ?_;refine Run.cond Z Z (fun hc=>?_) (fun hc=>?_)
   ·have hne:tot≠[]:=by rintro rfl;simp at hc
    rw [w0g hne] at hU;rw [hU];refine fR Z ?_;refine Run.fin Z (z3.go ?_);exact .Ys (.agg (.cons (.nil Z) .nil)) (.t Z)
   ·have hne:tot=[]:=by
     cases tot with
     |nil=>rfl
     |cons a b=>simp at hc
    rw [w0e hne] at hU;rw [hU,hne];refine fR Z ?_;refine Run.fin Z (z3.go ?_);exact .Ys (.agg (.cons (.own Z) .nil)) (.nil Z)
  ·have hne:B≠[]:=by rintro rfl;simp at hc
   rw [w0g hne] at hT;subst hT;rw [w0g hne] at hU;rw [hU];refine fR Z ?_;refine lM Z Z Z ?_;refine fM Z ?_
   refine Run.zf Z Z (by
    cases T0 with
    |nil=>exact absurd rfl hne
    |cons a b=>simp) ?_
   refine fR Z ?_;refine Run.fin Z (z3.go ?_);exact .Ys (.agg (.cons (.nil Z) .nil)) (.own Z)
 ·intro i g r N h1 hi hdr hN0 ih;have hgm:=hG.g g (zMG h1);have hgn:=hN.nm g (zMG h1);refine fR Z ?_;refine Run.zf Z Z (by simp;omega) ?_;refine fR Z ?_;refine Mid.zb Z Z Z h1 Z Z ?_;refine fM Z ?_;refine lM Z Z Z ?_;refine fM Z ?_;refine zu g.doc (fun k (M:List Str)=>{env:=[(0,.t (.lst (gs.map Gr.enc))),(2,.ptr 0 0),(4,.ptr 1 0),(5,.own 3 2 ((M.flatMap (tyB gs)).map z4.enc)),(6,.t (.int .i64 i)),(19,.t (.lst (gs.map Gr.enc))),(20,.t (.int .i64 gs.length)),(21,.t (.int .i64 i)),(28,.t (.lst (g.doc.map Def.enc))),(29,.t (.int .i64 g.doc.length)),(30,.t (.int .i64 k))],s:=⟨[(0,.cells [.zC]),(1,.cells [.own 2 7 ((M.map (tyD gs)).map Def.enc)]),(2,.arr (M.map (tyD gs)).length),(3,.arr (M.flatMap (tyB gs)).length)],4⟩}) (fun q k M=>M=Zr (ZK [] (gs.take i)) (g.doc.take k)) 4 N Z (by rw [hN0];rfl) Z Z Z ?_ ?_
  ·intro M hM;refine fR Z ?_;refine Run.ze Z Z (by simp) ?_;refine fR Z ?_;refine aL Z Z Z Z Z ?_;refine fM Z ?_;exact zl 4 Z (ih M (by rw [hM,List.take_length,take_succ h1,z7D])) Z Z Z
  ·intro k t q M h2 hk hdq hM ih2;have htm:=zMG h2;have htb:=hgm.2.2 t htm;have htn:=hgn t htm
   have hMl:M.length<=512:=by rw [hM];exact zeY hG h1
   have hMs:∀x,x∈M->x∈Zo gs:=by rw [hM];exact z8I h1
   have hFl:=zei hG hMl;have hfd:(z7 t.name (M.map (tyD gs))).isSome=decide (t.name∈M):=z5f hMs
   have hMk:∀M',M'=z0e M t.name->M'=Zr (ZK [] (gs.take i)) (g.doc.take (k+1)):=by
    intro M' e;rw [e,take_succ h2,z80,←hM]
   refine fR Z ?_;refine Run.zf Z Z (by simp;omega) ?_;refine fR Z ?_;refine Mid.zb Z Z Z h2 Z Z ?_;refine fM Z ?_;refine Mid.call (z1v H.p13.toPr (M.map (tyD gs)) (by simp;omega) t.name) Z Z Z Z ?_;refine fM Z ?_;rw [hfd];refine Run.cond Z Z (fun hc=>?_) (fun hc=>?_)
   ·have hin:t.name∈M:=by simpa using hc
    refine fR Z ?_;refine aL Z Z Z Z Z ?_;refine fM Z ?_;exact zl 4 Z (ih2 M (hMk M (by unfold z0e;rw [w0e hin]))) Z Z Z
   ·have hout:t.name∉M:=by simpa using hc
    have hM2:=hMk (M++[t.name]) (by unfold z0e;rw [w0g hout]);have eO:=zcq h1 h2 (by rw [←hM];exact hout);obtain ⟨z,hz⟩:=qt (nm:=t.name) (gs:=gs.drop (i+1)) (x:=zW t) (B:=[])
    have eD1:tyD gs t.name=z:=by unfold tyD;rw [eO,hz];rfl
    have eB1:tyB gs t.name=(ya t.name (gs.drop (i+1)) (some (zW t)) []).2:=by unfold tyB;rw [eO]
    have e3:ya t.name (gs.drop (i+1)) (some (zW t)) (M.flatMap (tyB gs))=(some z,(M++[t.name]).flatMap (tyB gs)):=by
     have:=z3H (nm:=t.name) (gs:=gs.drop (i+1)) (o:=some (zW t)) (B:=M.flatMap (tyB gs)) (C:=[]);rw [w1j] at this;rw [this,hz,←eB1];simp
    have hGl:((M++[t.name]).flatMap (tyB gs)).length<=12312000000:=by
     have:=(zeP hG t.name).2;simp only [List.flatMap_append,w03,List.flatMap_cons,List.flatMap_nil,w1j];omega
    have hDe:(M++[t.name]).map (tyD gs)=M.map (tyD gs)++[z]:=by simp [eD1]
    have hDl:(M.map (tyD gs)).length<=512:=by simpa using hMl
    have ih3:=ih2 (M++[t.name]) hM2;rw [hDe] at ih3;generalize (M++[t.name]).flatMap (tyB gs)=Bz at e3 hGl ih3;generalize M.flatMap (tyB gs)=B0 at e3 hFl;generalize M.map (tyD gs)=D0 at hDl ih3;have gb:=zdq H (by omega) t htb htn
    have hdrl:(gs.drop (i+1)).length<=8:=by simp;omega
    have hdrm:∀h,h∈gs.drop (i+1)->h∈gs:=fun h hh=>List.mem_of_mem_drop hh;generalize hR:gs.drop (i+1)=R at e3 hdrl hdrm;refine fR Z ?_;refine Mid.call (gb) Z Z Z Z ?_;refine fM Z ?_;refine aL Z Z Z Z Z ?_;refine zgv Z Z Z Z ?_;refine lM Z Z Z ?_;refine fM Z ?_;rw [hR];skip;refine zu R (fun j (s:Def×List z4)=>{env:=[(0,.t (.lst (gs.map Gr.enc))),(2,.ptr 0 0),(4,.ptr 1 0),(5,.own 3 2 (s.2.map z4.enc)),(6,.t (.int .i64 i)),(9,.ptr 4 0),(12,.ptr 6 0),(19,.t (.lst (gs.map Gr.enc))),(20,.t (.int .i64 gs.length)),(21,.t (.int .i64 i)),(28,.t (.lst (g.doc.map Def.enc))),(29,.t (.int .i64 g.doc.length)),(30,.t (.int .i64 k)),(47,.t (.lst (R.map Gr.enc))),(48,.t (.int .i64 R.length)),(49,.t (.int .i64 j))],s:=⟨[(0,.cells [.zC]),(1,.cells [.own 2 7 (D0.map Def.enc)]),(2,.arr D0.length),(3,.arr s.2.length),(4,(TCo t)),(6,(TCo s.1))],7⟩}) (fun p j s=>ya t.name p (some s.1) s.2=(some z,Bz)/\DB (100*(j+1)) s.1/\NM s.1) 7 (zW t,B0) Z ⟨e3,(z9R htb).mono (by omega),htn.bare⟩ Z Z Z ?_ ?_
    ·rintro ⟨x,C⟩ ⟨hx,_,_⟩;have hx:(some x,C)=(some z,Bz):=hx;obtain ⟨hx1,hx2⟩:=Prod.mk.inj hx;obtain rfl:z=x:=(Option.some.inj hx1).symm;obtain rfl:Bz=C:=hx2.symm;dsimp only;refine fR Z ?_;refine Run.ze Z Z (by simp) ?_;refine fR Z ?_;refine apM Def.enc D0 [z] Z Z Z Z Z ?_ (h1:=by first |omega|(simp;omega)|(simp;done)) (h2:=by first |omega|(simp;omega)|(simp;done));refine fM rfl ?_;refine aL rfl rfl rfl rfl rfl ?_;refine fM rfl ?_;exact zl 4 rfl (ih3) rfl rfl rfl
    ·rintro j h p ⟨x,C⟩ h3 hj hdp ⟨hx,hxb,hxn⟩ ih4;dsimp only at hx hxb hxn⊢;have hhm:=hdrm h (zMG h3);have hhg:=hG.g h hhm
     have hCl:C.length<=12312000000:=by
      have:=zbM (nm:=t.name) (gs:=h::p) (o:=some x) (B:=C);rw [hx] at this;have this:C.length<=Bz.length:=this;omega
     have hx:ya t.name p (qw t.name h (some x) C).1 (qw t.name h (some x) C).2=(some z,Bz):=hx;refine fR Z ?_;refine Run.zf Z Z (by simp;omega) ?_;refine fR Z ?_;refine Mid.zb Z Z Z h3 Z Z ?_;refine fM Z ?_;refine Mid.call (z1v H.p13.toPr h.doc hhg.1.l t.name) Z Z Z Z ?_;refine fM Z ?_
     cases hf:z7 t.name h.doc with
     |none=>
      rw [wK hf] at hx;refine Run.ze Z Z Z ?_;refine fR Z ?_;refine aL Z Z Z Z Z ?_;refine fM Z ?_;exact zl 7 Z (ih4 (x,C) ⟨hx,hxb.mono (by omega),hxn⟩) Z Z Z
     |some y=>
      have hyb:=hhg.2.2 y (YC hf);have hyn:=hN.nm h hhm y (YC hf);have hyb2:DB (100*(j+1)) y:=hyb.mono (by omega);have gd:=z9Y H (by omega) x y hxb hyb2 hxn hyn;have hl:=z0w hxb hyb2;by_cases hb:zZ x y=[]
      ·rw [WR hf hb] at hx
       rw [show z0D x y=yQ x y by unfold z0D;rw [w0e hb],hb] at gd
       have hm:=(z5P (by omega) hxb hyb).mono (show 100*(j+1)+100<=100*(j+1+1) by omega);refine Run.zf rfl rfl rfl ?_;refine fR rfl ?_;refine Mid.call (gd) rfl rfl rfl rfl ?_;refine fM rfl ?_;refine apM z4.enc C ([]:List z4) rfl rfl rfl rfl rfl ?_ (h1:=by first |omega|(simp;omega)|(simp;done)) (h2:=by first |omega|(simp;omega)|(simp;done));refine fM rfl ?_;refine lM rfl rfl rfl ?_;refine fM rfl ?_;refine Run.zf rfl rfl rfl ?_;refine fR rfl ?_;refine aL rfl rfl rfl rfl rfl ?_;refine fM rfl ?_;exact zl 7 rfl (ih4 (yQ x y,C) ⟨hx,hm,hxn.merged hyn⟩) rfl rfl rfl
      ·rw [Ws hf hb] at hx;refine Run.zf Z Z Z ?_;refine fR Z ?_;refine Mid.call (gd) Z Z Z Z ?_;refine fM Z ?_;refine apM z4.enc C (zZ x y) Z Z Z Z Z ?_ (h1:=by first |omega|(simp;omega)|(simp;done)) (h2:=by first |omega|(simp;omega)|(simp;done));refine fM rfl ?_;refine lM rfl rfl rfl ?_;refine fM rfl ?_
       refine Run.ze Z Z (by
        cases hq:zZ x y with
        |nil=>exact absurd hq hb
        |cons a b=>simp;omega) ?_
       refine fR Z ?_;refine aL Z Z Z Z Z ?_;refine fM Z ?_;exact zl 7 Z (ih4 (x,C++zZ x y) ⟨hx,hxb.mono (by omega),hxn⟩) Z Z Z
end Go.GB.C24
namespace Go.GB.C11
open Go.GB
def wFd:List Field->Nat
 |[]=>0
 |f::r=>f.args.length+f.zg.length+wFd r
def wD (d:Def):Nat:=1+d.fields.length+d.members.length+d.zi.length+d.zg.length+d.implements.length+wFd d.fields
def wDs:List Def->Nat
 |[]=>0
 |d::r=>wD d+wDs r
theorem zfn (x:Int) (h1:0<=x) (h2:x<=9000000000000):IntKind.i64.wrap x=x:=wrap64 (by omega) (by omega)
theorem z83:∀(l:List Field) (n:Nat),n+wFd l<=1000000000->l.foldl z4j (n:Int)=((n+wFd l:Nat):Int)
 |[],n,_=>by simp [wFd]
 |f::r,n,h=>by
  simp only [wFd] at h
  have e:z4j (n:Int) f=((n+(f.args.length+f.zg.length):Nat):Int):=by
   unfold z4j;simp (disch:=omega) only [zfn];omega
  rw [List.foldl_cons,e,z83 r _ (by omega)];simp only [wFd];congr 1;omega
theorem zcR (d:Def) (n:Nat) (h:n+wD d<=1000000000):qC (n:Int) d=((n+wD d:Nat):Int):=by
 simp only [wD] at h;unfold qC;simp (disch:=omega) only [zfn]
 rw [show ((n:Int)+(1+(d.fields.length:Nat)+(d.members.length:Nat)+(d.zi.length:Nat)+(d.zg.length:Nat)+(d.implements.length:Nat)))=((n+(1+d.fields.length+d.members.length+d.zi.length+d.zg.length+d.implements.length):Nat):Int) by omega]
 rw [z83 _ _ (by omega)];simp only [wD];congr 1;omega
theorem zaj:∀(l:List Def) (n:Nat),n+wDs l<=1000000000->l.foldl qC (n:Int)=((n+wDs l:Nat):Int)
 |[],n,_=>by simp [wDs]
 |d::r,n,h=>by
  simp only [wDs] at h;rw [List.foldl_cons,zcR d n (by omega),zaj r _ (by omega)];simp only [wDs];congr 1;omega
structure Small (ds:List Def):Prop where
 l:ds.length<=70
 w:wDs ds<=1000
theorem z9U:∀{ds:List Def} {d:Def},d∈ds->wD d<=wDs ds
 |[],d,h=>by cases h
 |x::r,d,h=>by
  simp only [wDs]
  rcases w0t.1 h with rfl|h
  ·omega
  ·have:=z9U h;omega
theorem zcz:∀{l:List Field} {f:Field},f∈l->f.args.length<=wFd l
 |[],d,h=>by cases h
 |x::r,d,h=>by
  simp only [wFd]
  rcases w0t.1 h with rfl|h
  ·omega
  ·have:=zcz h;omega
theorem Small.d {ds:List Def} (h:Small ds) {d:Def} (hd:d∈ds):wD d<=1000:=w0o (z9U hd) h.w
theorem z6A (ds:List Def) (a b:Str):∀(l p:List Input),(inF ds a b p l).length<=3*l.length
 |[],p=>by simp [inF]
 |x::r,p=>by
  have h1:=z6A ds a b r (p++[x]);have h2:=WM x.name false (zn x.name p).isSome (a++x.name++b);simp only [inF,zai,w03,w0d];split
  ·simp only [w0d,w16];omega
  ·split
   ·simp only [w0d,w16];omega
   ·simp only [w16];omega
theorem z8n (ds:List Def) (n:Str):∀(l p:List Field),(z0c ds n p l).length<=3*(l.length+wFd l)
 |[],p=>by simp [z0c]
 |x::r,p=>by
  have h1:=z8n ds n r (p++[x]);have h2:=WM x.name false (z5 x.name p).isSome (n++[46]++x.name);have h3:=z6A ds (n++[46]++x.name++[40]) [41] x.args [];simp only [z0c,z6l,w03,w0d,wFd];split
  ·simp only [w0d,w16];omega
  ·split
   ·simp only [w0d,w16];omega
   ·simp only [w16];omega
theorem z7A (n:Str):∀(l p:List zh),(z1e n p l).length<=2*l.length
 |[],p=>by simp [z1e]
 |x::r,p=>by
  have h1:=z7A n r (p++[x]);have h2:=WM x.name (z65 x.name) (YE p x.name) (n++[46]++x.name);simp only [z1e,w03,w0d];omega
theorem z9n (ds:List Def) (i:Nat) (d:Def):(Yf ds i d).length<=5:=by
 have:=WM d.name false (Q5 ds i d.name) d.name;unfold Yf;simp only [w03]
 split<;>split<;>split<;>simp<;>omega
theorem z7I (ds:List Def):∀(l:List Def) (i:Nat),(z2m ds i l).length<=5*l.length+3*wDs l
 |[],i=>by simp [z2m]
 |d::r,i=>by
  have h1:=z7I ds r (i+1);have h2:=z9n ds i d
  have h3:(z9j ds d).length<=3*wD d:=by
   have a1:=z8n ds d.name d.fields [];have a2:=z7A d.name d.members [];have a3:=z6A ds (d.name++[46]) [] d.zi [];unfold z9j wD;split
   ·omega
   ·split
    ·omega
    ·split
     ·omega
     ·split
      ·omega
      ·simp
  simp only [z2m,w03,w0d,wDs];omega
theorem zaM {ds:List Def} (h:Small ds) (q:Bool):(yN ds q).length<=4398046511104:=by
 have h1:=z7I ds ds 0;have h2:=h.l;have h3:=h.w;unfold yN z7s;rw [w03]
 split<;>simp<;>omega
theorem z4R (y:Field) (a:Str):∀l:List Input,(QH y a l).length<=l.length
 |[]=>by simp [QH]
 |x::r=>by
  have:=z4R y a r
  simp only [QH];split<;>simp<;>omega
theorem z58 (y:Field) (a:Str):∀l:List Input,(Qc y a l).length<=l.length
 |[]=>by simp [Qc]
 |x::r=>by
  have:=z58 y a r
  simp only [Qc];split<;>simp<;>omega
theorem z5v (ds:List Def) (t:Def) (ht:∀y,y∈t.fields->y.args.length<=1000):∀l:List Field,(∀x,x∈l->x.args.length<=1000)->(Qf ds t l).length<=2001*l.length
 |[],_=>by simp [Qf]
 |x::r,h=>by
  have h1:=z5v ds t ht r (fun y hy=>h y (w0k _ hy));have h2:=h x (by simp)
  have h3:(z7t ds t x).length<=2001:=by
   unfold z7t
   cases hf:z5 x.name t.fields with
   |none=>simp
   |some y=>
    have a1:=z4R y (atF t x) x.args;have a2:=z58 x (atF t x) y.args;have a3:=ht y (Z0 hf);simp only [w03]
    split<;>simp<;>omega
  simp only [Qf,w03,w0d];omega
theorem z5F {d:Def} (h:wD d<=1000):d.fields.length<=1000/\∀y,y∈d.fields->y.args.length<=1000:=by
 unfold wD at h
 exact ⟨by omega,fun y hy=>by have:=zcz hy;omega⟩
theorem z8N {ds:List Def} (h:Small ds) (n:Str):wD ((z7 n ds).getD Def.zero)<=1000:=by
 cases hf:z7 n ds with
 |none=>simp [wD,Def.zero,wFd]
 |some o=>exact h.d (wO hf)
theorem z7F {ds:List Def} (h:Small ds) {t:Def} (ht:t∈ds):∀(l p:List Str),(z3v ds t p l).length<=2001001*l.length
 |[],p=>by simp [z3v]
 |n::r,p=>by
  have h1:=z7F h ht r (p++[n]);have h2:=z5F (z8N h n);have h3:=z5v ds t (z5F (h.d ht)).2 ((z7 n ds).getD Def.zero).fields h2.2;simp only [z3v,w03,w0d];split
  ·omega
  ·simp only [w0d,w16];omega
theorem zam (ds:List Def) (t:Def):∀(l p:List zh),(unL ds t p l).length<=l.length
 |[],p=>by simp [unL]
 |m::r,p=>by
  have h1:=zam ds t r (p++[m]);simp only [unL,w03,w0d]
  split<;>simp<;>omega
theorem z3W {ds:List Def} (h:Small ds):∀l:List Def,(∀d,d∈l->d∈ds)->(W6 ds l).length<=2001001000*l.length
 |[],_=>by simp [W6]
 |t::r,hl=>by
  have h1:=z3W h r (fun d hd=>hl d (w0k _ hd));have ht:=hl t (by simp);have h2:=z7F h ht t.implements [];have h3:=zam ds t t.members [];have h4:=h.d ht;unfold wD at h4;simp only [W6,w03,w0d,z9p];split
  ·omega
  ·split
   ·omega
   ·simp only [w16];omega
theorem zbN {ds:List Def} (h:Small ds):(Zs ds).length<=4398046511104:=by
 have h1:=z3W h ds (fun _ hd=>hd);have h2:=h.l;unfold Zs;omega
theorem z4q {ds:List Def}:∀{l:List Def} {i:Nat},z2m ds i l=[]->∀j d,l[j]?=some d->Yf ds (i+j) d=[]
 |[],i,_,j,d,h=>by simp at h
 |x::r,i,hc,j,d,h=>by
  simp only [z2m,w0l] at hc
  cases j with
  |zero=>simp at h;subst h;exact hc.1.1
  |succ j=>
   have:=z4q hc.2 j d (by simpa using h)
   rwa [show i+(j+1)=i+1+j by omega]
theorem z5S {ds:List Def} {i:Nat} {d:Def} (h:Yf ds i d=[]):qk d.name=true/\Q5 ds i d.name=false:=by
 unfold Yf Zn at h;simp only [w0l] at h;refine ⟨?_,?_⟩
 ·have:=h.1.1.1.1;split at this
  ·cases this
  ·rename_i hn;simpa using hn
 ·have:=h.1.1.1.2;split at this
  ·cases this
  ·rename_i hn;simpa using hn
theorem z9c {ds:List Def} {q:Bool} (h:yN ds q=[]) {d:Def} (hd:d∈ds):z7 d.name ds=some d/\qk d.name=true:=by
 unfold yN at h;simp only [w0l] at h;obtain ⟨i,hi⟩:=w0v.1 hd;obtain ⟨h1,h2⟩:=z5S (z4q h.1 i d hi);refine ⟨z0s hi ?_,h1⟩;unfold Q5 at h2;simp only [w1k] at h2;unfold Zh;have:=h2.2;simp only [w0y] at this;rw [this];rfl
end Go.GB.C11
namespace Go.GB.C24
open Go.GB Go.GB.C11
variable {P:Program}
theorem zdU (H:Pr P) (s:Str):z6 P 106 [.t (.str s)] ⟨[],0⟩ {v:= .t (.bool (zp s))}:=by
 by_cases h':s.length<=140737488355328
 ·exact z09 H s h'
 ·have e:zp s=false:=by unfold zp;rw [show decide (1<=s.length/\s.length<=64)=false from by simp;omega];rfl
  rw [e];refine z6.run H.i106 H.mixed Z Z ?_;refine fR Z ?_;refine Run.zf Z Z (by simp;omega) ?_;refine fR Z ?_;refine Run.fin Z (z3.go ?_);exact .t Z
theorem zgl (H:zX P):C29.R6 P zp C11.z1U W2:=⟨zdU H.p13.toPr,z8V H.p13,C11.z4e H.p13.toPr⟩
abbrev zd8 (d:Def):Bool:=C29.z4D zp C11.z1U W2 d
abbrev WC (ds:List Def):Bool:=C29.z9g zp C11.z1U W2 ds
theorem WV {s:Str} (h:zp s=true):s≠[]/\s.length<=64:=by
 unfold zp at h;simp only [w07,w0j] at h
 exact ⟨by rintro rfl;simp at h,h.1.2⟩
theorem z3b {l:List Dir} (h:C29.W7 zp C11.z1U l=true):l.length<=16/\DA l:=by
 unfold C29.W7 at h;simp only [w07,w0j,w0i] at h;refine ⟨h.1,fun y hy=>?_⟩;have:=h.2 y hy;unfold C29.z9v at this;simp only [w07,w0j] at this;omega
theorem z5i {l:List Input} (h:C29.YR zp C11.z1U W2 l=true):l.length<=16/\∀x,x∈l->x.name≠[]/\x.zg.length<=16:=by
 unfold C29.YR at h;simp only [w07,w0j,w0i] at h;refine ⟨h.1,fun y hy=>?_⟩;have:=h.2 y hy;unfold C29.inR at this;simp only [w07] at this;exact ⟨(WV this.1.1.1).1,(z3b this.1.2).1⟩
structure FR (f:Field):Prop where
 nn:f.name≠[]
 al:f.args.length<=16
 ai:∀x,x∈f.args->x.name≠[]/\x.zg.length<=16
 dl:f.zg.length<=16
 da:DA f.zg
 ty:W2 f.ty=true
theorem z4U {l:List Field} (h:C29.wN zp C11.z1U W2 l=true):l.length<=64/\∀x,x∈l->FR x:=by
 unfold C29.wN at h;simp only [w07,w0j,w0i] at h;refine ⟨h.1.2,fun y hy=>?_⟩;have:=h.2 y hy;unfold C29.z27 at this;simp only [w07] at this;have h1:=z5i this.1.1.2;have h2:=z3b this.2;exact ⟨(WV this.1.1.1).1,h1.1,h1.2,h2.1,h2.2,this.1.2⟩
theorem z4z {l:List zh} {pl:Bool} (h:C29.yY zp C11.z1U l pl=true):l.length<=64/\∀x,x∈l->x.name≠[]/\x.zg.length<=16/\DA x.zg:=by
 unfold C29.yY at h;simp only [w07,w0j,w0i] at h;refine ⟨h.1.2,fun y hy=>?_⟩;have:=h.2 y hy;unfold C29.zaO at this;simp only [w07] at this;have h2:=z3b this.1.2;exact ⟨(WV this.1.1).1,h2.1,h2.2⟩
structure DR (d:Def):Prop where
 nm:d.name≠[]
 dl:d.zg.length<=16
 da:DA d.zg
 il:d.implements.length<=64
 fl:d.fields.length<=64
 f:∀x,x∈d.fields->FR x
 ml:d.members.length<=64
 m:∀x,x∈d.members->x.name≠[]/\x.zg.length<=16/\DA x.zg
 nl:d.zi.length<=16
 n:∀x,x∈d.zi->x.name≠[]/\x.zg.length<=16
 kd:(d.kind=1/\d.members=[]/\d.zi=[])∨(d.kind=2/\d.implements=[]/\d.members=[]/\d.zi=[])∨(d.kind=3/\d.implements=[]/\d.fields=[]/\d.zi=[])∨(d.kind=4/\d.implements=[]/\d.fields=[]/\d.zi=[])∨(d.kind=5/\d.implements=[]/\d.fields=[]/\d.members=[])
theorem zfZ {d:Def} (h:zd8 d=true):DR d:=by
 unfold zd8 C29.z4D at h;simp only [w07,w0j] at h;obtain ⟨⟨⟨⟨h1,h2⟩,h3⟩,h4⟩,h5⟩:=h;have hd:=z3b h2;unfold C29.zar at h5;split at h5
 ·rename_i hk;simp only [w07,w0j,w0q] at h5;have hf:=z4U h5.1.1
  refine ⟨(WV h1).1,hd.1,hd.2,h3,hf.1,hf.2,?_,?_,?_,?_,.inl ⟨hk,h5.1.2,h5.2⟩⟩<;>simp [h5.1.2,h5.2]
 ·split at h5
  ·rename_i hk;simp only [w07,w0j,w0q] at h5;have hf:=z4U h5.1.1.2
   refine ⟨(WV h1).1,hd.1,hd.2,h3,hf.1,hf.2,?_,?_,?_,?_,.inr (.inl ⟨hk,h5.1.1.1,h5.1.2,h5.2⟩)⟩<;>simp [h5.1.2,h5.2]
  ·split at h5
   ·rename_i hk;simp only [w07,w0j,w0q] at h5;have hm:=z4z h5.1.2
    refine ⟨(WV h1).1,hd.1,hd.2,h3,?_,?_,hm.1,hm.2,?_,?_,.inr (.inr (.inl ⟨hk,h5.1.1.1,h5.1.1.2,h5.2⟩))⟩<;>simp [h5.1.1.2,h5.2]
   ·split at h5
    ·rename_i hk;simp only [w07,w0j,w0q] at h5;have hm:=z4z h5.1.2
     refine ⟨(WV h1).1,hd.1,hd.2,h3,?_,?_,hm.1,hm.2,?_,?_,.inr (.inr (.inr (.inl ⟨hk,h5.1.1.1,h5.1.1.2,h5.2⟩)))⟩<;>simp [h5.1.1.2,h5.2]
    ·split at h5
     ·rename_i hk;simp only [w07,w0j,w0q] at h5;have hn:=z5i h5.2
      refine ⟨(WV h1).1,hd.1,hd.2,h3,?_,?_,?_,?_,hn.1,hn.2,.inr (.inr (.inr (.inr ⟨hk,h5.1.1.1.1,h5.1.1.1.2,h5.1.1.2⟩)))⟩<;>simp [h5.1.1.1.2,h5.1.1.2]
     ·cases h5
theorem DR.db {d:Def} (h:DR d) (hd:d.Ok):DB 100 d:=
 ⟨hd,w0o h.il (by decide),w0o h.dl (by decide),w0o h.fl (by decide),fun y hy=>⟨hd.f y hy,w0o (h.f y hy).al (by decide),w0o (h.f y hy).dl (by decide)⟩,w0o h.ml (by decide),fun y hy=>w0o (h.m y hy).2.1 (by decide),w0o h.nl (by decide)⟩
theorem DR.nmd {d:Def} (h:DR d):NM d:=
 ⟨fun y hy=>(h.f y hy).nn,fun y hy=>(h.m y hy).1,fun y hy=>(h.n y hy).1,h.da,fun y hy=>(h.f y hy).da,fun y hy=>(h.m y hy).2.2,fun y hy x hx=>w0o ((h.f y hy).ai x hx).2 (by decide),fun x hx=>w0o (h.n x hx).2 (by decide)⟩
theorem zdC:∀{l:List Field},(∀x,x∈l->FR x)->wFd l<=32*l.length
 |[],_=>by simp [wFd]
 |f::r,h=>by
  have h1:=h f (by simp);have h2:=h1.al;have h3:=h1.dl;have h4:=zdC (l:=r) fun x hx=>h x (by simp [hx]);simp only [wFd,w0d];omega
theorem DR.wD {d:Def} (h:DR d):wD d<=3000:=by
 have h1:=zdC h.f;have:=h.fl;have:=h.ml;have:=h.nl;have:=h.dl;have:=h.il;unfold C11.wD;omega
theorem zdj:∀{l:List Def},(∀x,x∈l->DR x)->wDs l<=3000*l.length
 |[],_=>by simp [wDs]
 |f::r,h=>by
  have h1:=(h f (by simp)).wD;have h4:=zdj (l:=r) fun x hx=>h x (by simp [hx]);simp only [wDs,w0d];omega
theorem z46 {ds:List Def} (h:WC ds=true):ds.length<=64/\∀d,d∈ds->DR d:=by
 unfold WC C29.z9g at h;simp only [w07,w0j,w0i] at h;exact ⟨h.1.2,fun d hd=>zfZ (h.2 d hd)⟩
theorem z6u {ds:List Def} (hr:WC ds=true) (h:W0 ds=false):Small ds:=by
 have h1:=z46 hr;have hw:=zdj h1.2;unfold W0 at h
 have e:ds.foldl qC 0=((wDs ds:Nat):Int):=by
  have:=zaj ds 0 (by omega);simpa using this
 rw [e] at h;simp only [w1k,w1u] at h
 exact ⟨by omega,by omega⟩
def z38 (d:Def):Bool:=!W0 [d]&&WC [d]
theorem zV.one {d:Def} (h:d.Ok):zV [d]:=⟨by simp,fun y hy=>by rw [w1i.1 hy];exact h,by simp⟩
theorem QP {d:Def} (h:z38 d=true):DR d:=by
 unfold z38 at h;simp only [w07] at h;exact (z46 h.2).2 d (by simp)
def z2x (g:Gr):Bool:=(((W0 g.doc||!WC g.doc)||decide (((yN g.doc false).length:Int)>0))||decide (((C11.Zs g.doc).length:Int)>0))
def z4F (gs:List Gr):Bool:=!((gs.take 9).any z2x)&&decide ((gs.length:Int)<=8)
theorem z9y (H:zX P) (gs:List Gr) (hl:gs.length<=140737488355328) (hg:∀g,g∈gs->zV g.doc):z6 P 8 [.t (.lst (gs.map Gr.enc))] ⟨[],0⟩ {v:= .t (.bool (z4F gs))}:=by
 refine z6.run H.i8 H.mixed Z Z ?_;refine fR Z ?_;refine zu (gs.take 9) (fun i (_:Unit)=>{env:=[(0,.t (.lst (gs.map Gr.enc))),(3,.t (.int .i64 i))],s:=⟨[],0⟩}) (fun r i _=>z4F gs=(!(r.any z2x)&&decide ((gs.length:Int)<=8))) 0 () Z Z Z Z Z ?_ ?_
 ·intro _ hT;refine fR Z ?_;refine lM Z Z Z ?_;refine fM Z ?_;refine Run.ze Z Z (by simp;omega) ?_;refine fR Z ?_;refine lM Z Z Z ?_;refine fM Z ?_;refine Run.fin Z (z3.go ?_);exact .t (by rw [hT];rfl)
 ·intro i g r _ h1 hi hdr hT ih
  have hi9:i<9/\i<gs.length:=by simp at hi;omega
  have h1':gs[i]?=some g:=by rw [w0p,w0e hi9.1] at h1;exact h1
  have hgo:=hg g (zMG h1')
  have hT:z4F gs=(!(z2x g||r.any z2x)&&decide ((gs.length:Int)<=8)):=by rw [hT,w1d]
  have g1:=zcB H.p13.toPr g.doc hgo;have g2:z6 P 23 [Y8 g.doc] ⟨[],0⟩ {v:= .t (.bool (WC g.doc))}:=C29.z4e H.pR (zgl H) g.doc hgo
  have g3:(W0 g.doc||!WC g.doc)=false->z6 P 24 [Y8 g.doc,.t (.bool false)] ⟨[],0⟩ {v:= .t (.lst ((yN g.doc false).map z4.enc))}:=fun h=>by
   simp only [w1k,Bool.not_eq_false'] at h;exact zdh H.p13.toPr g.doc hgo (fun o ho=>w0o ((z46 h.2).2 o ho).nl (by decide)) false (zaM (z6u h.2 h.1) false)
  have g4:(W0 g.doc||!WC g.doc)=false->z6 P 25 [Y8 g.doc] ⟨[],0⟩ {v:= .t (.lst ((C11.Zs g.doc).map z4.enc))}:=fun h=>by
   simp only [w1k,Bool.not_eq_false'] at h;exact zaC H.p13 g.doc hgo (zbN (z6u h.2 h.1))
  have e:z2x g=(((W0 g.doc||!WC g.doc)||decide (((yN g.doc false).length:Int)>0))||decide (((C11.Zs g.doc).length:Int)>0)):=rfl;refine fR Z ?_;refine lM Z Z Z ?_;refine fM Z ?_;refine Run.zf Z Z (by simp;omega) ?_;refine fR Z ?_;refine Mid.zb Z Z Z h1' Z Z ?_;refine fM Z ?_;refine Mid.call (g1) Z Z Z Z ?_;refine fM Z ?_;refine elG Z Z Z Z h1' Z Z ?_;refine fM Z ?_;refine caG Z Z (fun hg=>⟨_,rfl,g2,rfl⟩) Z Z ?_;refine fM Z ?_;refine elG Z Z Z Z h1' Z Z ?_;refine fM Z ?_;refine caG Z Z (fun hg=>⟨_,rfl,g3 (by simpa using hg),rfl⟩) Z Z ?_;refine lMG Z Z Z Z ?_;refine fM Z ?_;refine elG Z Z Z Z h1' Z Z ?_;refine fM Z ?_
  refine caG Z Z (fun hg=>⟨_,rfl,g4 (by revert hg;cases W0 g.doc<;>cases WC g.doc<;>simp),rfl⟩) Z Z ?_
  refine lMG Z Z Z Z ?_;refine fM Z ?_;refine Run.cond Z Z (fun hc=>?_) (fun hc=>?_)
  ·rw [show z2x g=true from hc] at hT;refine fR Z ?_;refine Run.fin Z (z3.go ?_);exact .t (by rw [hT];rfl)
  ·rw [show z2x g=false from hc,w1z] at hT;refine fR Z ?_;refine aL Z Z Z Z Z ?_;refine fM Z ?_;exact zl 0 Z (ih () hT) Z Z Z
structure WE (gs:List Gr):Prop where
 n:gs.length<=8
 sm:∀g,g∈gs->Small g.doc
 r:∀g,g∈gs->∀d,d∈g.doc->DR d
 c:∀g,g∈gs->yN g.doc false=[]
 f:∀g,g∈gs->C11.Zs g.doc=[]
 l:∀g,g∈gs->g.doc.length<=64
theorem z3s {gs:List Gr} (h:z4F gs=true):WE gs:=by
 unfold z4F at h;simp only [w07,w21,w0j] at h
 have hn:gs.length<=8:=by omega
 rw [w1l (by omega)] at h
 have hb:∀g,g∈gs->W0 g.doc=false/\WC g.doc=true/\yN g.doc false=[]/\C11.Zs g.doc=[]:=fun g hg=>by
  have:=List.any_eq_false.1 h.1 g hg;unfold z2x at this;simp only [Bool.not_eq_true,w1k,Bool.not_eq_false',w1u] at this;refine ⟨this.1.1.1,this.1.1.2,?_,?_⟩
  ·cases hc:yN g.doc false with
   |nil=>rfl
   |cons a b=>rw [hc] at this;simp at this
  ·cases hc:C11.Zs g.doc with
   |nil=>rfl
   |cons a b=>rw [hc] at this;simp at this
 exact ⟨hn,fun g hg=>z6u (hb g hg).2.1 (hb g hg).1,fun g hg=>(z46 (hb g hg).2.1).2,fun g hg=>(hb g hg).2.2.1,fun g hg=>(hb g hg).2.2.2,fun g hg=>(z46 (hb g hg).2.1).1⟩
theorem WE.gn {gs:List Gr} (h:WE gs) (hg:∀g,g∈gs->zV g.doc):GN gs:=
 {n:=h.n,g:=fun g hgm=>⟨hg g hgm,h.l g hgm,fun d hd=>(h.r g hgm d hd).db ((hg g hgm).d d hd)⟩,nm:=fun g hgm d hd=>(h.r g hgm d hd).nmd}
end Go.GB.C24
namespace Go.GB.C24
open Go.GB Go.GB.C11
variable {P:Program}
def Wb (n:Str) (w:List Int):Field:=⟨n,[],⟨[73,110,116],w⟩,[]⟩
def z0j (n:Str) (fs:List Field):Def:=⟨1,n,[],[],fs,[],[]⟩
theorem Y6 (H:zX P) (n:Str) (w:List Int):z6 P 27 [.t (.str n),.t (.lst (w.map nE))] ⟨[],0⟩ {v:=(Wb n w).v}:=by
 refine z6.run H.i27 H.mixed Z Z ?_;refine fR Z ?_;refine Run.fin Z (z3.go ?_);exact .agg (.cons (.t Z) (.cons (.nil Z) (.cons (.t Z) (.cons (.t Z) (.cons (.nil Z) .nil)))))
theorem Wh (H:zX P) (n:Str) (fs:List Field):z6 P 26 [.t (.str n),.t (.lst (fs.map Field.enc))] ⟨[],0⟩ {v:=(z0j n fs).v}:=by
 refine z6.run H.i26 H.mixed Z Z ?_;refine fR Z ?_;refine Run.fin Z (z3.go ?_);exact .agg (.cons (.t Z) (.cons (.t Z) (.cons (.nil Z) (.cons (.nil Z) (.cons (.t Z) (.cons (.nil Z) (.cons (.nil Z) .nil)))))))
def kT1:Def:=z0j [84] [Wb [120] [1]]
def kT2:Def:=z0j [84] [Wb [120] [],Wb [121] []]
def kE (l:List zh):Def:=⟨4,[69],[],[],[],l,[]⟩
def kA:Gr:=⟨[97],[z0j [85,115,101,114] [Wb [105,100] []],kE [⟨[65],[]⟩]]⟩
def kB:Gr:=⟨[98],[z0j [85,115,101,114] [Wb [110,97,109,101] []]]⟩
def kC:Gr:=⟨[99],[kE [⟨[65],[]⟩,⟨[66],[]⟩]]⟩
def kU:Def:=z0j [85,115,101,114] [Wb [105,100] [],Wb [110,97,109,101] []]
theorem kk1:zZ kT1 kT2=[]:=by rfl
theorem kk2:z0D kT1 kT2=kT2:=by rfl
theorem kk3:Yt [kA,kB]=[]:=by rfl
theorem kk4:wm [kA,kB]=[kU,kE [⟨[65],[]⟩]]:=by rfl
theorem kk5:Yt [kA,kC]=[⟨45,[69,46,66]⟩]:=by rfl
theorem kk6:wm [kA,kC]=[]:=by rfl
theorem kn1:z38 kT1=true:=by rfl
theorem kn2:z38 kT2=true:=by rfl
theorem kn3:z4F [kA,kB]=true:=by rfl
theorem kn4:z4F [kA,kC]=true:=by rfl
theorem z32 (n:Str) (w:List Int) (hn:n.length<=100) (hw:w.length<=100):(Wb n w).Ok:=⟨by simp [Wb],by simp [Wb],⟨by show w.length*8<=_;omega,by simp [Wb]⟩,by simp [Wb],by simp [Wb],by show n.length<=_;omega⟩
theorem z35 (n:Str) (fs:List Field) (hn:n.length<=100) (hl:fs.length<=100) (hf:∀f,f∈fs->f.Ok):(z0j n fs).Ok:=⟨by simp [z0j],by simp [z0j],by simp [z0j],by show fs.length<=_;omega,hf,by simp [z0j],by simp [z0j],by simp [z0j],by simp [z0j],by show n.length<=_;omega,by simp [z0j]⟩
theorem zgt:kT1.Ok:=z35 _ _ (by decide) (by decide) (by intro f hf;simp at hf;subst hf;exact z32 _ _ (by decide) (by decide))
theorem zcE:kT2.Ok:=z35 _ _ (by decide) (by decide) (by intro f hf;simp at hf;rcases hf with rfl|rfl<;>exact z32 _ _ (by decide) (by decide))
theorem zgz:kU.Ok:=z35 _ _ (by decide) (by decide) (by intro f hf;simp at hf;rcases hf with rfl|rfl<;>exact z32 _ _ (by decide) (by decide))
theorem zfl (l:List zh) (hl:l.length<=100) (hm:∀m,m∈l->m.Ok):(kE l).Ok:=⟨by simp [kE],by simp [kE],by simp [kE],by simp [kE],by simp [kE],by show l.length<=_;omega,hm,by simp [kE],by simp [kE],by simp [kE],by simp [kE]⟩
theorem zgs:(kE [⟨[65],[]⟩]).Ok:=zfl _ (by decide) (by intro m hm;simp at hm;subst hm;exact ⟨by decide,by simp,by decide⟩)
theorem zfP:(kE [⟨[65],[]⟩,⟨[66],[]⟩]).Ok:=zfl _ (by decide) (by intro m hm;simp at hm;rcases hm with rfl|rfl<;>exact ⟨by decide,by simp,by decide⟩)
theorem zdO (n:Str) (hn:n.length<=100):(z0j [85,115,101,114] [Wb n []]).Ok:=z35 _ _ (by decide) (by simp) (by intro f hf;simp at hf;subst hf;exact z32 _ _ hn (by decide))
theorem zfR {a b:Def} (ha:a.Ok) (hb:b.Ok):zV [a,b]:=⟨by simp,fun y hy=>by simp at hy;rcases hy with rfl|rfl;exact ha;exact hb,by simp⟩
theorem zfe:zV kA.doc:=zfR (zdO _ (by decide)) zgs
theorem zhk:zV kB.doc:=zV.one (zdO _ (by decide))
theorem zgW:zV kC.doc:=zV.one zfP
theorem kN1:GN [kA,kB]:=(z3s kn3).gn (by intro g hg;simp at hg;rcases hg with rfl|rfl;exact zfe;exact zhk)
theorem kN2:GN [kA,kC]:=(z3s kn4).gn (by intro g hg;simp at hg;rcases hg with rfl|rfl;exact zfe;exact zgW)
theorem z3P (H:zX P):z6 P 9 [] ⟨[],0⟩ {v:= .t (.bool true)}:=by
 have g1:=z9Y H (k:=100) (by decide) kT1 kT2 ((QP kn1).db zgt) ((QP kn2).db zcE) (QP kn1).nmd (QP kn2).nmd;rw [kk1,kk2] at g1;have g2:=wz H [kA,kB] kN1;rw [kk3,kk4] at g2;have g3:=wz H [kA,kC] kN2;rw [kk5,kk6] at g3;have g4:=z2a H kT2 zcE;have g5:=z2a H kU zgz;have g6:=zbK H.p13.toPr [⟨45,[69,46,66]⟩] [⟨45,[69,46,66]⟩] (by decide) (by decide);refine z6.run H.i9 H.mixed Z Z ?_;refine fR Z ?_;refine Mid.call (Y6 H [120] [1]) Z Z Z Z ?_;refine fM Z ?_;refine Mid.call (Wh H [84] [Wb [120] [1]]) Z Z Z Z ?_;skip;refine Mid.call (Y6 H [120] []) Z Z Z Z ?_;skip;refine Mid.call (Y6 H [121] []) Z Z Z Z ?_;refine fM Z ?_;refine Mid.call (Wh H [84] [Wb [120] [],Wb [121] []]) Z Z Z Z ?_;skip;refine Mid.call (g1) Z Z Z Z ?_;refine fM Z ?_;refine Mid.call (Y6 H [105,100] []) Z Z Z Z ?_;refine fM Z ?_;refine Mid.call (Wh H [85,115,101,114] [Wb [105,100] []]) Z Z Z Z ?_;refine fM Z ?_;refine Mid.call (Y6 H [110,97,109,101] []) Z Z Z Z ?_;refine fM Z ?_;refine Mid.call (Wh H [85,115,101,114] [Wb [110,97,109,101] []]) Z Z Z Z ?_;refine fM Z ?_;refine Mid.call (g2) Z Z Z Z ?_;refine fM Z ?_;refine Mid.call (g3) Z Z Z Z ?_;refine fM Z ?_;refine lM Z Z Z ?_;refine fM Z ?_;refine caG Z Z (fun hg=>⟨_,rfl,Y6 H [120] [],rfl⟩) Z Z ?_;skip;refine caG Z Z (fun hg=>⟨_,rfl,Y6 H [121] [],rfl⟩) Z Z ?_;skip;refine Mid.zg0 Z Z Z ?_;refine Mid.zfu Z Z Z ?_;skip;refine caG Z Z (fun hg=>⟨_,rfl,Wh H [84] [Wb [120] [],Wb [121] []],rfl⟩) Z Z ?_;skip;refine caG Z Z (fun hg=>⟨_,rfl,g4,rfl⟩) Z Z ?_;refine fM Z ?_;refine lMG Z Z Z Z ?_;refine fM Z ?_;refine lMG Z Z Z Z ?_;refine fM Z ?_;refine Run.ze Z Z Z ?_;refine fR Z ?_;refine pu Z ?_;refine fM Z ?_;refine Mid.call (Y6 H [105,100] []) Z Z Z Z ?_;skip;refine Mid.call (Y6 H [110,97,109,101] []) Z Z Z Z ?_;refine fM Z ?_;refine Mid.call (Wh H [85,115,101,114] [Wb [105,100] [],Wb [110,97,109,101] []]) Z Z Z Z ?_;skip;refine Mid.call (g5) Z Z Z Z ?_;refine fM Z ?_;refine Mid.zg0 Z Z Z ?_;refine Mid.zfu Z Z Z ?_;skip;refine caG Z Z (fun hg=>⟨_,rfl,g6,rfl⟩) Z Z ?_;refine fM Z ?_;refine Run.fin Z (z3.go ?_);exact .t Z
end Go.GB.C24
namespace Go.GB.C24
open Go.GB Go.GB.C11
variable {P:Program}
theorem z3O {gs:List Gr} (hG:GL gs):(Yt gs).length<=12288000000:=by
 have h1:=z7b hG;have h2:=z3z gs (yv gs);have h3:=z4r hG
 unfold Yt;split<;>omega
theorem z33 {gs:List Gr} (hG:GL gs):zV (wm gs):=by
 unfold wm;split
 ·exact z9G hG
 ·exact ⟨by simp,by simp,by simp⟩
end Go.GB.C24
namespace Go.GB.C24
open Go.GB Go.GB.C11
theorem zhy {P:Program} {vt:TypeId} (hb:P.bytesOf vt=80) (hs:z3V P (spV vt) 6 vt=some z4w):
  ∀e i n xs,spV vt e=some i->xs.length*P.bytesOf e<=reachBytes->xs.length<=maxLen->(∀c∈xs,WT P n e c)->YA i (.lst xs):=by
 have hv:=zgo hb hs;intro e i k xs he hr hl hc;have:=yu;unfold spV at he;split at he
 ·rename_i e1;subst e1;simp only [w00] at he;subst he;obtain ⟨l,rfl,h3⟩:=wo (f:=Val.enc) (Q:=Val.Ok) xs fun c hcm=>hv k c (hc c hcm);rw [hb] at hr
  exact ⟨l,rfl,by unfold B47;simp at hr;omega,h3⟩
 ·cases he
def zap:List Sh:=[.str,.lst 144 zcd]
theorem zdP {c:List T} (h:Sh.oks YA zap c):∃g:Gr,c=g.enc/\zV g.doc:=by
 obtain ⟨x,c,rfl,⟨n,rfl,hn⟩,g1⟩:=Sh.zJ h;obtain ⟨l,c',rfl,h1,h2⟩:=zg3 (r:=[]) g1;obtain rfl:=Sh.YS h2;exact ⟨⟨n,l⟩,rfl,h1⟩
theorem zgb {c:List T} (h:Sh.oks YA [.lst 40 zap] c):∃l:List Gr,c=[.lst (l.map Gr.enc)]/\l.length<=140737488355328/\∀g,g∈l->zV g.doc:=by
 have:=yu;obtain ⟨x,c,rfl,hx,g⟩:=Sh.zJ h;obtain rfl:=Sh.YS g;obtain ⟨l,rfl,h1,_,h2⟩:=qV (fun c hc=>zdP hc) hx
 exact ⟨l,rfl,by omega,h2⟩
def z0k (a b:List Bool):List Bool:=List.zipWith (· &&·) a b
theorem Wa (r:List Int):loose (2::r)=2::loose r:=by simp [loose]
theorem WH (r:List Int):loose (1::2::r)=2::loose r:=by simp [loose]
theorem zes:∀{u:List Int},RW u->∀{v:List Int},RW v->loose u=loose v->∀{k:Nat},u.length<k->
  RW (Z3 k u v)/\loose (Z3 k u v)=loose u/\sg (Z3 k u v)=z0k (sg u) (sg v):=by
 intro u hu
 induction hu with
 |base=>
  intro v hv h k hk
  obtain ⟨k,rfl⟩:∃j,k=j+1:=⟨k - 1,by omega⟩
  cases hv with
  |base=>exact ⟨by simp [Z3,nnF,Zv,zB,Yx];exact .base,by simp [Z3,nnF,Zv,zB,Yx,loose],by simp [Z3,nnF,Zv,zB,Yx,sg,z0k]⟩
  |nn=>exact ⟨by simp [Z3,nnF,Zv,zB,Yx];exact .base,by simp [Z3,nnF,Zv,zB,Yx,loose],by simp [Z3,nnF,Zv,zB,Yx,sg,z0k]⟩
  |lst _=>simp [loose] at h
  |nnl _=>simp [loose] at h
 |nn=>
  intro v hv h k hk
  obtain ⟨k,rfl⟩:∃j,k=j+1:=⟨k - 1,by omega⟩
  cases hv with
  |base=>exact ⟨by simp [Z3,nnF,Zv,zB,Yx];exact .base,by simp [Z3,nnF,Zv,zB,Yx,loose],by simp [Z3,nnF,Zv,zB,Yx,sg,z0k]⟩
  |nn=>exact ⟨by simp [Z3,nnF,Zv,zB,Yx];exact .nn,by simp [Z3,nnF,Zv,zB,Yx,loose],by simp [Z3,nnF,Zv,zB,Yx,sg,z0k]⟩
  |lst _=>simp [loose] at h
  |nnl _=>simp [loose] at h
 |@lst r hr ih=>
  intro v hv h k hk
  obtain ⟨k,rfl⟩:∃j,k=j+1:=⟨k - 1,by omega⟩
  simp only [w0d] at hk
  cases hv with
  |base=>simp [loose] at h
  |nn=>simp [loose] at h
  |@lst s hs=>
   obtain ⟨i1,i2,i3⟩:=ih hs (by simpa [Wa] using h) (k:=k) (by omega)
   have e:Z3 (k+1) (2::r) (2::s)=2::Z3 k r s:=by simp [Z3,nnF,Zv,zB,Yx]
   rw [e,Ye,Ye,Ye,Wa,Wa,i2,i3];exact ⟨.lst i1,rfl,rfl⟩
  |@nnl s hs=>
   obtain ⟨i1,i2,i3⟩:=ih hs (by simpa [Wa,WH] using h) (k:=k) (by omega)
   have e:Z3 (k+1) (2::r) (1::2::s)=2::Z3 k r s:=by simp [Z3,nnF,Zv,zB,Yx]
   rw [e,Ye,Ye,w5,Wa,Wa,i2,i3];exact ⟨.lst i1,rfl,rfl⟩
 |@nnl r hr ih=>
  intro v hv h k hk
  obtain ⟨k,rfl⟩:∃j,k=j+1:=⟨k - 1,by omega⟩
  simp only [w0d] at hk
  cases hv with
  |base=>simp [loose] at h
  |nn=>simp [loose] at h
  |@lst s hs=>
   obtain ⟨i1,i2,i3⟩:=ih hs (by simpa [Wa,WH] using h) (k:=k) (by omega)
   have e:Z3 (k+1) (1::2::r) (2::s)=2::Z3 k r s:=by simp [Z3,nnF,Zv,zB,Yx]
   rw [e,Ye,Ye,w5,Wa,WH,i2,i3];exact ⟨.lst i1,rfl,rfl⟩
  |@nnl s hs=>
   obtain ⟨i1,i2,i3⟩:=ih hs (by simpa [WH] using h) (k:=k) (by omega)
   have e:Z3 (k+1) (1::2::r) (1::2::s)=1::2::Z3 k r s:=by simp [Z3,nnF,Zv,zB,Yx]
   rw [e,w5,w5,w5,WH,WH,i2,i3];exact ⟨.nnl i1,rfl,rfl⟩
theorem zcy:∀{u:List Int},RW u->∀{v:List Int},RW v->sg u=sg v->u=v:=by
 intro u hu
 induction hu with
 |base=>
  intro v hv h
  cases hv with
  |base=>rfl
  |nn=>simp [sg] at h
  |lst _=>rw [Ye] at h;simp [sg] at h;exact absurd h (za1 _)
  |nnl _=>rw [w5] at h;simp [sg] at h
 |nn=>
  intro v hv h
  cases hv with
  |base=>simp [sg] at h
  |nn=>rfl
  |lst _=>rw [Ye] at h;simp [sg] at h
  |nnl _=>rw [w5] at h;simp [sg] at h;exact absurd h (za1 _)
 |@lst r hr ih=>
  intro v hv h
  cases hv with
  |base=>rw [Ye] at h;simp [sg] at h;exact absurd h (za1 _)
  |nn=>rw [Ye] at h;simp [sg] at h
  |lst hs=>rw [Ye,Ye] at h;rw [ih hs (by simpa using h)]
  |nnl hs=>rw [Ye,w5] at h;simp at h
 |@nnl r hr ih=>
  intro v hv h
  cases hv with
  |base=>rw [w5] at h;simp [sg] at h
  |nn=>rw [w5] at h;simp [sg] at h;exact absurd h (za1 _)
  |lst hs=>rw [w5,Ye] at h;simp at h
  |nnl hs=>rw [w5,w5] at h;rw [ih hs (by simpa using h)]
theorem z2j:∀{u:List Int},RW u->(sg u).length=(loose u).length+1:=by
 intro u hu
 induction hu with
 |base=>rfl
 |nn=>rfl
 |lst _ ih=>rw [Ye,Wa];simp [ih]
 |nnl _ ih=>rw [w5,WH];simp [ih]
theorem zb8 (a:List Bool):z0k a a=a:=by
 unfold z0k;induction a with
 |nil=>rfl
 |cons x r ih=>simp [ih]
theorem z1j {t:Ref} (h:W2 t=true):RW t.za:=by
 unfold W2 at h;simp only [w07] at h;exact zdy (.inr h.2)
theorem zU {a b:Ref}:Zz a b=true↔a.name=b.name/\loose a.za=loose b.za:=by simp [Zz]
theorem qS {a b:Ref} (ha:RW a.za) (hb:RW b.za) (h:Zz a b=true):(yq a b).name=a.name/\RW (yq a b).za/\loose (yq a b).za=loose a.za/\sg (yq a b).za=z0k (sg a.za) (sg b.za):=by
 have h2:=zU.1 h;obtain ⟨h3,h4,h5⟩:=zes ha hb h2.2 (Nat.lt_succ_self _);unfold yq;rw [w0e h];exact ⟨rfl,h3,h4,h5⟩
theorem z8Y {a:Ref} (ha:RW a.za):yq a a=a:=by
 obtain ⟨h1,h2,h3,h4⟩:=qS ha ha (zU.2 ⟨rfl,rfl⟩);rw [zb8] at h4;have:=zcy h2 ha h4;cases h:yq a a;rw [h] at h1 this;cases a
 simp_all
theorem zd5 {a b:Ref} (ha:RW a.za) (hb:RW b.za) (h1:a.name=b.name) (h2:sg a.za=sg b.za):a=b:=by
 have:=zcy ha hb h2;cases a;cases b;simp_all
theorem zdA {a b:Ref} (ha:RW a.za) (hb:RW b.za):z5V a b=true↔Zz a b=true/\z0k (sg a.za) (sg b.za)=sg b.za:=by
 unfold z5V;rw [w07,wy];constructor
 ·rintro ⟨h1,h2⟩;refine ⟨h1,?_⟩;rw [←(qS ha hb h1).2.2.2,h2]
 ·rintro ⟨h1,h2⟩;refine ⟨h1,?_⟩;obtain ⟨g1,g2,g3,g4⟩:=qS ha hb h1;exact zd5 g2 hb (g1.trans (zU.1 h1).1) (g4.trans h2)
theorem qK {n:Str}:∀{l:List Field},z5 n l=none↔n∉l.map (·.name)
 |[]=>by simp [z5]
 |x::r=>by
  simp only [z5,w0n,w0t,not_or];by_cases h:(x.name==n)=true
  ·rw [w0e h];simp at h;simp [h]
  ·rw [w0g h,qK];simp at h;simp [Ne.symm h]
theorem Q9 {n:Str}:∀{l:List Input},zn n l=none↔n∉l.map (·.name)
 |[]=>by simp [zn]
 |x::r=>by
  simp only [zn,w0n,w0t,not_or];by_cases h:(x.name==n)=true
  ·rw [w0e h];simp at h;simp [h]
  ·rw [w0g h,Q9];simp at h;simp [Ne.symm h]
theorem z0K {n:Str}:∀{l:List zh},zo n l=none↔n∉l.map (·.name)
 |[]=>by simp [zo]
 |x::r=>by
  simp only [zo,w0n,w0t,not_or];by_cases h:(x.name==n)=true
  ·rw [w0e h];simp at h;simp [h]
  ·rw [w0g h,z0K];simp at h;simp [Ne.symm h]
theorem wH {n:Str}:∀{l:List Field} {x:Field},z5 n l=some x->x.name=n
 |[],x,h=>by simp [z5] at h
 |y::r,x,h=>by
  simp only [z5] at h;split at h
  ·rename_i e;cases h;simpa using e
  ·exact wH h
theorem z0W {n:Str}:∀{l:List Input} {x:Input},zn n l=some x->x.name=n
 |[],x,h=>by simp [zn] at h
 |y::r,x,h=>by
  simp only [zn] at h;split at h
  ·rename_i e;cases h;simpa using e
  ·exact z0W h
theorem wv {n:Str}:∀{l:List zh} {x:zh},zo n l=some x->x.name=n
 |[],x,h=>by simp [zo] at h
 |y::r,x,h=>by
  simp only [zo] at h;split at h
  ·rename_i e;cases h;simpa using e
  ·exact wv h
theorem ZB:∀{l:List Field},(l.map (·.name)).Nodup->∀{x:Field},x∈l->z5 x.name l=some x
 |[],_,x,h=>by cases h
 |y::r,hn,x,h=>by
  simp only [w0n,w15] at hn;simp only [z5]
  rcases w0t.1 h with rfl|h
  ·simp
  ·have:y.name≠x.name:=fun e=>hn.1 (by rw [e];exact List.mem_map_of_mem h);rw [w0g (by simpa using this)];exact ZB hn.2 h
theorem Y0:∀{l:List Input},(l.map (·.name)).Nodup->∀{x:Input},x∈l->zn x.name l=some x
 |[],_,x,h=>by cases h
 |y::r,hn,x,h=>by
  simp only [w0n,w15] at hn;simp only [zn]
  rcases w0t.1 h with rfl|h
  ·simp
  ·have:y.name≠x.name:=fun e=>hn.1 (by rw [e];exact List.mem_map_of_mem h);rw [w0g (by simpa using this)];exact Y0 hn.2 h
theorem yx:∀{l:List zh},(l.map (·.name)).Nodup->∀{x:zh},x∈l->zo x.name l=some x
 |[],_,x,h=>by cases h
 |y::r,hn,x,h=>by
  simp only [w0n,w15] at hn;simp only [zo]
  rcases w0t.1 h with rfl|h
  ·simp
  ·have:y.name≠x.name:=fun e=>hn.1 (by rw [e];exact List.mem_map_of_mem h);rw [w0g (by simpa using this)];exact yx hn.2 h
structure VD (d:Def):Prop where
 r:DR d
 fu:(d.fields.map (·.name)).Nodup
 au:∀x,x∈d.fields->(x.args.map (·.name)).Nodup
 mu:(d.members.map (·.name)).Nodup
 iu:(d.zi.map (·.name)).Nodup
 pu:d.implements.Nodup
theorem z0y {n:Str} {b t:Bool} {a:Str} (h:Zn n b t a=[]):t=false:=by
 unfold Zn at h;simp only [w0l] at h;have:=h.2;cases t
 ·rfl
 ·simp at this
theorem yT {α:Type} {l:List α} {x:α} (h:l.Nodup) (hx:x∉l):(l++[x]).Nodup:=by
 rw [List.nodup_append]
 exact ⟨h,by simp,fun a ha b hb e=>hx (by rw [←w1i.1 hb,←e];exact ha)⟩
theorem z24 {ds:List Def} {a b:Str}:∀{l p:List Input},(p.map (·.name)).Nodup->inF ds a b p l=[]->((p++l).map (·.name)).Nodup
 |[],p,hp,_=>by simpa using hp
 |x::r,p,hp,h=>by
  simp only [inF,zai,w0l] at h;have h1:=z0y h.1.1;have h2:x.name∉p.map (·.name):=Q9.1 (by simpa using h1);have:=z24 (l:=r) (p:=p++[x]) (by simpa using yT hp h2) h.2;simpa using this
theorem z0X {ds:List Def} {n:Str}:∀{l p:List Field},(p.map (·.name)).Nodup->z0c ds n p l=[]->((p++l).map (·.name)).Nodup/\∀x,x∈l->(x.args.map (·.name)).Nodup
 |[],p,hp,_=>⟨by simpa using hp,by simp⟩
 |x::r,p,hp,h=>by
  simp only [z0c,z6l,w0l] at h;have h1:=z0y h.1.1.1;have h2:x.name∉p.map (·.name):=qK.1 (by simpa using h1);have h3:=z24 (l:=x.args) (p:=[]) (by simp) h.1.2;obtain ⟨i1,i2⟩:=z0X (l:=r) (p:=p++[x]) (by simpa using yT hp h2) h.2
  refine ⟨by simpa using i1,fun y hy=>?_⟩
  rcases w0t.1 hy with rfl|hy
  ·simpa using h3
  ·exact i2 y hy
theorem z3l {n:Str}:∀{l p:List zh},(p.map (·.name)).Nodup->z1e n p l=[]->((p++l).map (·.name)).Nodup
 |[],p,hp,_=>by simpa using hp
 |x::r,p,hp,h=>by
  simp only [z1e,w0l] at h;have h1:=z0y h.1
  have h2:x.name∉p.map (·.name):=by
   intro hm;obtain ⟨y,hy,e⟩:=w0m.1 hm;unfold YE at h1;exact List.any_eq_false.1 h1 y hy (by simp [e])
  have:=z3l (l:=r) (p:=p++[x]) (by simpa using yT hp h2) h.2;simpa using this
theorem z57 {ds:List Def} {t:Def}:∀{l p:List zh},(p.map (·.name)).Nodup->unL ds t p l=[]->((p++l).map (·.name)).Nodup
 |[],p,hp,_=>by simpa using hp
 |x::r,p,hp,h=>by
  simp only [unL,w0l] at h
  have h0:unE ds p x=0:=by
   have:=h.1;split at this
   ·assumption
   ·cases this
  have h2:x.name∉p.map (·.name):=by
   intro hm;obtain ⟨y,hy,e⟩:=w0m.1 hm
   have hmf:YE p x.name=true:=w1v.2 ⟨y,hy,by simp [e]⟩
   unfold unE at h0;rw [hmf,w2a] at h0;by_cases hz:(y4 ds x.name 1==0)=true
   ·rw [w0e hz] at h0;omega
   ·rw [w0g hz] at h0;rw [h0] at hz;simp at hz
  have:=z57 (l:=r) (p:=p++[x]) (by simpa using yT hp h2) h.2;simpa using this
theorem z4c {ds:List Def} {t:Def}:∀{l p:List Str},p.Nodup->z3v ds t p l=[]->(p++l).Nodup
 |[],p,hp,_=>by simpa using hp
 |x::r,p,hp,h=>by
  simp only [z3v,w0l] at h
  have h0:z2X ds p x=0:=by
   have:=h.1;split at this
   ·assumption
   ·cases this
  have h2:x∉p:=by
   intro hm;unfold z2X at h0;rw [decide_eq_true hm,w2a] at h0;by_cases hz:(y4 ds x 2==0)=true
   ·rw [w0e hz] at h0;omega
   ·rw [w0g hz] at h0;rw [h0] at hz;simp at hz
  have:=z4c (l:=r) (p:=p++[x]) (yT hp h2) h.2;simpa using this
theorem z7C {ds:List Def}:∀{l:List Def} {i:Nat},z2m ds i l=[]->∀d,d∈l->z9j ds d=[]
 |[],_,_,d,h=>by cases h
 |x::r,i,hc,d,h=>by
  simp only [z2m,w0l] at hc
  rcases w0t.1 h with rfl|h
  ·exact hc.1.2
  ·exact z7C hc.2 d h
theorem z4b {ds:List Def}:∀{l:List Def},W6 ds l=[]->∀t,t∈l->(if t.kind=1 then z9p ds t else if t.kind=3 then unL ds t [] t.members else [])=[]
 |[],_,t,h=>by cases h
 |x::r,hf,t,h=>by
  simp only [W6,w0l] at hf
  rcases w0t.1 h with rfl|h
  ·exact hf.1
  ·exact z4b hf.2 t h
theorem zhd {ds:List Def} (hr:∀d,d∈ds->DR d) (hc:yN ds false=[]) (hf:C11.Zs ds=[]) {d:Def} (hd:d∈ds):VD d:=by
 have r:=hr d hd
 have h1:z9j ds d=[]:=by
  unfold yN at hc;simp only [w0l] at hc;exact z7C hc.1 d hd
 have h2:=z4b hf d hd;unfold z9j at h1
 rcases r.kd with ⟨k,e1,e2⟩|⟨k,e0,e1,e2⟩|⟨k,e0,e1,e2⟩|⟨k,e0,e1,e2⟩|⟨k,e0,e1,e2⟩
 ·rw [w0e k] at h1 h2;obtain ⟨i1,i2⟩:=z0X (p:=[]) (by simp) h1
  exact ⟨r,by simpa using i1,i2,by simp [e1],by simp [e2],by simpa using z4c (p:=[]) (by simp) h2⟩
 ·rw [w0g (by omega),w0e k] at h1;obtain ⟨i1,i2⟩:=z0X (p:=[]) (by simp) h1
  exact ⟨r,by simpa using i1,i2,by simp [e1],by simp [e2],by simp [e0]⟩
 ·rw [w0g (by omega),w0e k] at h2;have:=z57 (p:=[]) (by simp) h2
  exact ⟨r,by simp [e1],by simp [e1],by simpa using this,by simp [e2],by simp [e0]⟩
 ·rw [w0g (by omega),w0g (by omega),w0e k] at h1;have:=z3l (p:=[]) (by simp) h1
  exact ⟨r,by simp [e1],by simp [e1],by simpa using this,by simp [e2],by simp [e0]⟩
 ·rw [w0g (by omega),w0g (by omega),w0g (by omega),w0e k] at h1;have:=z24 (p:=[]) (by simp) h1
  exact ⟨r,by simp [e1],by simp [e1],by simp [e2],by simpa using this,by simp [e0]⟩
theorem WE.vd {gs:List Gr} (h:WE gs) {g:Gr} (hg:g∈gs) {d:Def} (hd:d∈g.doc):VD d:=zhd (h.r g hg) (h.c g hg) (h.f g hg) hd
theorem WE.find {gs:List Gr} (h:WE gs) {g:Gr} (hg:g∈gs) {d:Def} (hd:d∈g.doc):z7 d.name g.doc=some d:=(z9c (h.c g hg) hd).1
theorem z7d {a b:Dir} (h:cnD a=cnD b):a.name=b.name:=by
 show (cnD a).name=(cnD b).name;rw [h]
theorem z37 {l:List Dir} {x:Dir}:(l.any fun y=>eqD y x)=true↔cnD x∈l.map cnD:=by
 rw [w1v];constructor
 ·rintro ⟨y,hy,e⟩;exact w0m.2 ⟨y,hy,(WG y x).1 e⟩
 ·intro h;obtain ⟨y,hy,e⟩:=w0m.1 h;exact ⟨y,hy,(WG y x).2 e⟩
theorem Wv:∀(l out:List Dir),(∀y,y∈out->wZ y.name=false)->∀y,y∈Zi out l->wZ y.name=false
 |[],out,h=>h
 |x::r,out,h=>by
  simp only [Zi];split
  ·exact Wv r out h
  ·rename_i hc;refine Wv r _ fun y hy=>?_
   rcases w14.1 hy with hy|hy
   ·exact h y hy
   ·rw [w1i.1 hy];cases ho:wZ x.name
    ·rfl
    ·simp [ho] at hc
theorem YY:∀(l out:List Dir),(out.map cnD).Nodup->((Zi out l).map cnD).Nodup
 |[],out,h=>h
 |x::r,out,h=>by
  simp only [Zi];split
  ·exact YY r out h
  ·rename_i hc;refine YY r _ ?_;rw [w24];refine yT h fun hm=>?_;rw [z37.2 hm] at hc;simp at hc
theorem qZ {c:Dir}:∀(l out:List Dir),c∈(Zi out l).map cnD↔c∈out.map cnD∨∃v,v∈l/\wZ v.name=false/\cnD v=c
 |[],out=>by simp [Zi]
 |x::r,out=>by
  simp only [Zi];split
  ·rename_i hc;rw [qZ r out];constructor
   ·rintro (h|⟨v,h1,h2⟩)
    ·exact .inl h
    ·exact .inr ⟨v,w0k _ h1,h2⟩
   ·rintro (h|⟨v,h1,h2,h3⟩)
    ·exact .inl h
    ·rcases w0t.1 h1 with rfl|h1
     ·rw [h2,w1z,z37] at hc;exact .inl (h3▸hc)
     ·exact .inr ⟨v,h1,h2,h3⟩
  ·rename_i hc;rw [qZ r]
   have ho:wZ x.name=false:=by
    cases ho:wZ x.name
    ·rfl
    ·simp [ho] at hc
   simp only [w24,w14,w0n,List.map_nil,w1i];constructor
   ·rintro ((h|h)|⟨v,h1,h2⟩)
    ·exact .inl h
    ·exact .inr ⟨x,by simp,ho,h.symm⟩
    ·exact .inr ⟨v,w0k _ h1,h2⟩
   ·rintro (h|⟨v,h1,h2,h3⟩)
    ·exact .inl (.inl h)
    ·rcases w0t.1 h1 with rfl|h1
     ·exact .inl (.inr h3.symm)
     ·exact .inr ⟨v,h1,h2,h3⟩
theorem z54 {n:Str}:∀{l:List Dir},yh n l=none↔∀y,y∈l->y.name≠n
 |[]=>by simp [yh]
 |x::r=>by
  simp only [yh];by_cases h:(x.name==n)=true
  ·rw [w0e h];simp only [reduceCtorEq,false_iff];intro hh;exact hh x (by simp) (by simpa using h)
  ·rw [w0g h,z54];constructor
   ·intro hh y hy
    rcases w0t.1 hy with rfl|hy
    ·simpa using h
    ·exact hh y hy
   ·intro hh y hy;exact hh y (by simp [hy])
theorem z2A (n:Str) (b:List Dir):∀a:List Dir,yh n (a++b)=match yh n a with|some u=>some u|none=>yh n b
 |[]=>rfl
 |x::r=>by
  simp only [w1y,yh];split
  ·rfl
  ·exact z2A n b r
theorem qH (n:Str):∀(l out:List Dir),yh n (Zi out l)=match yh n out with|some u=>some u|none=>yh n (Qu l)
 |[],out=>by
  simp only [Zi,Qu,List.filter_nil,yh]
  cases yh n out<;>rfl
 |x::r,out=>by
  simp only [Zi];split
  ·rename_i hc;rw [qH n r out]
   cases ho:yh n out with
   |some u=>rfl
   |none=>
    simp only;rw [Y2]
    cases hx:wZ x.name with
    |true=>rfl
    |false=>
     simp only [w0h,w0x,yh];rw [hx,w1z,z37] at hc;obtain ⟨y,hy,e⟩:=w0m.1 hc;have h1:=z54.1 ho y hy;have h2:=z7d e;rw [w0g (by rw [←h2];simpa using h1)]
  ·rename_i hc
   have hx:wZ x.name=false:=by
    cases ho:wZ x.name
    ·rfl
    ·simp [ho] at hc
   rw [qH n r,z2A,Y2,hx];simp only [w0h,w0x]
   cases ho:yh n out with
   |some u=>rfl
   |none=>
    simp only [yh];by_cases hx2:(x.name==n)=true
    ·rw [w0e hx2,w0e hx2]
    ·rw [w0g hx2,w0g hx2]
theorem zbi (n:Str) (l:List Dir):yh n (zG l)=yh n (Qu l):=by
 have:=qH n l [];unfold zG;simpa [yh] using this
theorem z1S:∀(l out:List Dir),((out++l).map cnD).Nodup->(∀y,y∈l->wZ y.name=false)->Zi out l=out++l
 |[],out,_,_=>by simp [Zi]
 |x::r,out,h,ho=>by
  simp only [Zi]
  have hx:¬ (wZ x.name||out.any fun y=>eqD y x)=true:=by
   rw [ho x (by simp),w1z,z37];intro hm;simp only [w24,w0n,List.nodup_append] at h;exact h.2.2 _ hm _ (by simp) Z
  rw [w0g hx,z1S r _ (by simpa using h) fun y hy=>ho y (by simp [hy])];simp
structure DD (S:List (List Dir)) (l:List Dir):Prop where
 own:∀y,y∈l->wZ y.name=false
 nd:(l.map cnD).Nodup
 cls:∀c,c∈l.map cnD↔∃m,m∈S/\c∈(zG m).map cnD
 fst:∀n,n≠z4H->∀m,m∈S->∀v,yh n (zG m)=some v->∃u,yh n l=some u/\cnD u=cnD v
def z2n (a b:List Dir):Prop:=∀n,n≠z4H->∀u v,yh n (zG a)=some u->yh n (zG b)=some v->cnD u=cnD v
theorem z2n.symm {a b:List Dir} (h:z2n a b):z2n b a:=fun n hn u v h1 h2=>(h n hn v u h2 h1).symm
theorem z2n.refl (a:List Dir):z2n a a:=fun n hn u v h1 h2=>by rw [h1] at h2;cases h2;rfl
theorem z0B {a b:List Dir}:Z4 a b=false↔z2n a b:=by
 have e:Z4 a b=(zG a).any fun d=>cf2 (zG a) (zG b) d.name:=rfl;rw [e,List.any_eq_false];constructor
 ·intro h n hn u v hu hv;have h1:=h u (Wj hu).2;rw [(Wj hu).1] at h1;unfold cf2 at h1;rw [hu,hv] at h1
  have hn':(n !=z4H)=true:=by simpa using hn
  rw [hn',w1b] at h1;exact (WG u v).1 (by simpa using h1)
 ·intro h d hd hc;unfold cf2 at hc;simp only [w07] at hc;obtain ⟨h1,h2⟩:=hc
  cases hv:yh d.name (zG b) with
  |none=>rw [hv] at h2;cases h2
  |some v=>
   cases hu:yh d.name (zG a) with
   |none=>rw [hv,hu] at h2;cases h2
   |some u=>
    rw [hv,hu] at h2;have:=(WG u v).2 (h d.name (by simpa using h1) u v hu hv);simp [this] at h2
theorem DD.rest {S:List (List Dir)} {l:List Dir} (h:DD S l):zG l=l:=by
 have:=z1S l [] (by simpa using h.nd) h.own;unfold zG;simpa using this
theorem z3G (l:List Dir):zG (zG l)=zG l:=by
 have h1:((zG l).map cnD).Nodup:=YY l [] (by simp);have:=z1S (zG l) [] (by simpa using h1) (Wv l [] (by simp));rw [w0u] at this;exact this
theorem DD.one (m:List Dir):DD [m] (zG m):=by
 refine ⟨Wv m [] (by simp),YY m [] (by simp),fun c=>by simp,fun n hn m' hm v hv=>?_⟩
 rw [w1i.1 hm] at hv;exact ⟨v,hv,rfl⟩
theorem DD.z7T {S:List (List Dir)} {l m:List Dir} (h:DD S l):Z4 l m=false↔∀m',m'∈S->z2n m' m:=by
 rw [z0B];constructor
 ·intro hc m' hm n hn u v hu hv;obtain ⟨u',h1,h2⟩:=h.fst n hn m' hm u hu;rw [←h2];exact hc n hn u' v (by rw [h.rest];exact h1) hv
 ·intro hc n hn u v hu hv;rw [h.rest] at hu;obtain ⟨e,hm⟩:=Wj hu;obtain ⟨m',hm',hw⟩:=(h.cls (cnD u)).1 (List.mem_map_of_mem hm);obtain ⟨w,hw,ew⟩:=w0m.1 hw;obtain ⟨w',hw'⟩:=z2k hw ((z7d ew).trans e);obtain ⟨u',h1,h2⟩:=h.fst n hn m' hm' w' hw';rw [hu] at h1;cases h1;rw [h2];exact hc m' hm' n hn w' v hw' hv
theorem DD.join {S:List (List Dir)} {l m:List Dir} (h:DD S l) (hc:Z4 l m=false):DD (m::S) (Zw l m):=by
 have e:Zw l m=Zi l m:=by unfold Zw;rw [h.rest]
 rw [e]
 have hm:∀c,c∈(zG m).map cnD↔∃v,v∈m/\wZ v.name=false/\cnD v=c:=fun c=>by
  have:=qZ (c:=c) m [];unfold zG;simpa using this
 refine ⟨Wv m l h.own,YY m l h.nd,fun c=>?_,fun n hn m' hm' v hv=>?_⟩
 ·rw [qZ,h.cls,←hm];constructor
  ·rintro (⟨m',h1,h2⟩|h1)
   ·exact ⟨m',w0k _ h1,h2⟩
   ·exact ⟨m,by simp,h1⟩
  ·rintro ⟨m',h1,h2⟩
   rcases w0t.1 h1 with rfl|h1
   ·exact .inr h2
   ·exact .inl ⟨m',h1,h2⟩
 ·rw [qH]
  cases hl:yh n l with
  |some u=>
   refine ⟨u,rfl,?_⟩
   rcases w0t.1 hm' with rfl|hm'
   ·exact z0B.1 hc n hn u v (by rw [h.rest];exact hl) hv
   ·obtain ⟨u',h1,h2⟩:=h.fst n hn m' hm' v hv;rw [hl] at h1;cases h1;exact h2
  |none=>
   rcases w0t.1 hm' with rfl|hm'
   ·exact ⟨v,by rw [←zbi];exact hv,rfl⟩
   ·obtain ⟨u',h1,h2⟩:=h.fst n hn m' hm' v hv;rw [hl] at h1;cases h1
theorem DD.length {S S':List (List Dir)} {l l':List Dir} (h:DD S l) (h':DD S' l') (hS:∀m,m∈S↔m∈S'):l.length=l'.length:=by
 have hs:∀c,c∈l.map cnD↔c∈l'.map cnD:=fun c=>by
  rw [h.cls,h'.cls];exact ⟨fun ⟨m,h1,h2⟩=>⟨m,(hS m).1 h1,h2⟩,fun ⟨m,h1,h2⟩=>⟨m,(hS m).2 h1,h2⟩⟩
 have h1:=h.nd.length_le_of_subset (l₂:=l'.map cnD) fun c hc=>(hs c).1 hc;have h2:=h'.nd.length_le_of_subset (l₂:=l.map cnD) fun c hc=>(hs c).2 hc;simp only [w0r] at h1 h2;omega
end Go.GB.C24
namespace Go.GB.C24
open Go.GB Go.GB.C11
variable {P:Program}
theorem yW {α:Type} {c:α->Bool} {f:α->z4}:∀{l:List α},zE c f l=[]↔∀x,x∈l->c x=false
 |[]=>by simp [zE]
 |x::r=>by
  simp only [zE,w0l,yW]
  have h1:one (c x) (f x)=[]↔c x=false:=by
   cases h:c x<;>simp [one]
  rw [h1];constructor
  ·rintro ⟨h1,h2⟩ y hy
   rcases w0t.1 hy with rfl|hy
   ·exact h1
   ·exact h2 y hy
  ·intro h;exact ⟨h x (by simp),fun y hy=>h y (by simp [hy])⟩
theorem wM {c:Bool} {f:z4}:one c f=[]↔c=false:=by cases c<;>simp [one]
theorem z0F (l:List Dir):Zw (zG l) l=zG l:=by
 unfold Zw;rw [z3G];have h:=z5c (zG l) l;rw [←h]
 have:∀(q:List Dir),(∀y,y∈q->y∈zG l)->Wq (zG l) q=zG l:=by
  intro q
  induction q with
  |nil=>intro _;rfl
  |cons x r ih=>
   intro hq;simp only [Wq];rw [w0e (w1v.2 ⟨x,hq x (by simp),zdb x⟩)];exact ih fun y hy=>hq y (by simp [hy])
 exact this _ fun y hy=>hy
theorem z0Q (l:List Dir):Z4 (zG l) l=false:=by
 rw [z0B];intro n hn u v hu hv;rw [z3G,hv] at hu;cases hu;rfl
theorem alike_refl (x:Input):alike x x=true:=(QC x x).2 rfl
theorem z8B {x:Field} (hx:FR x) (ha:(x.args.map (·.name)).Nodup) (at_:Str):W5 (zH x) x at_=[]:=by
 unfold W5;simp only [w0l,wM,yW];refine ⟨?_,fun a h=>?_,fun a h=>?_,z0Q x.zg⟩
 ·have:Zz (zH x).ty x.ty=true:=zU.2 ⟨rfl,rfl⟩;rw [this];rfl
 ·have h:a∈x.args:=h;unfold yt;rw [Y0 ha h];simp [alike_refl]
 ·unfold Yd;rw [show (zH x).args=x.args from rfl,Y0 ha h];rfl
theorem Wd (n:Str):∀l:List Field,z5 n (l.map zH)=(z5 n l).map zH
 |[]=>rfl
 |x::r=>by
  simp only [w0n,z5,Wd n r];show (if ((zH x).name==n)=true then _ else _)=_;rw [show (zH x).name=x.name from rfl]
  split<;>rfl
theorem QS (n:Str):∀l:List zh,zo n (l.map yz)=(zo n l).map yz
 |[]=>rfl
 |x::r=>by
  simp only [w0n,zo,QS n r];show (if ((yz x).name==n)=true then _ else _)=_;rw [show (yz x).name=x.name from rfl]
  split<;>rfl
theorem z3T {a:List Field}:∀{l:List Field},(∀x,x∈l->Ze a x=false)->Zu a l=[]
 |[],_=>rfl
 |x::r,h=>by
  simp only [Zu];rw [w0g (by rw [h x (by simp)];simp)];exact z3T fun y hy=>h y (by simp [hy])
theorem zcF {d:Def} (h:VD d):zZ (zW d) d=[]:=by
 unfold zZ;rw [w0e (show (zW d).kind=d.kind from rfl)];simp only [w0l,wM]
 have hno:∀x,x∈d.fields->Ze (d.fields.map zH) x=false:=fun x hx=>by
  unfold Ze;rw [Wd,ZB h.fu hx];rfl
 refine ⟨z0Q d.zg,?_,?_,?_⟩
 ·unfold WW;simp only [w0l,yW,w2e];refine ⟨fun x hx=>?_,fun x hx=>?_,fun x hx=>?_⟩
  ·obtain ⟨y,hy,rfl⟩:=w0m.1 (show x∈d.fields.map zH from hx);unfold Zk;rw [show (zH y).name=y.name from rfl,ZB h.fu hy];exact z8B (h.r.f y hy) (h.au y hy) _
  ·have hx:x∈d.fields.map zH:=by
    have:=hx;unfold kF at this;split at this
    ·exact this
    ·cases this
   obtain ⟨y,hy,rfl⟩:=w0m.1 hx;unfold Ze;rw [show (zH y).name=y.name from rfl,ZB h.fu hy];rfl
  ·have hx:x∈d.fields:=by
    have:=hx;unfold kF at this;split at this
    ·exact this
    ·cases this
   exact hno x hx
 ·unfold Wx;simp only [w0l,yW,w2e];refine ⟨fun x hx=>?_,fun x hx=>?_⟩
  ·obtain ⟨y,hy,rfl⟩:=w0m.1 (show x∈d.members.map yz from hx);unfold ym;rw [show (yz y).name=y.name from rfl,yx h.mu hy];simp only [Option.isSome_some,w17,w25];exact wM.2 (z0Q y.zg)
  ·unfold wU;rw [show (zW d).members=d.members.map yz from rfl,QS,yx h.mu hx];rfl
 ·unfold QT;simp only [w0l,yW,w2e];refine ⟨fun x hx=>?_,fun x hx=>?_⟩
  ·have hx:x∈d.zi:=hx;unfold yy;rw [Y0 h.iu hx];simp only [Option.isSome_some,w17,w25];rw [w0e (wy.2 rfl),alike_refl];rfl
  ·unfold Yd;rw [show (zW d).zi=d.zi from rfl,Y0 h.iu hx];rfl
theorem z88 {d:Def} (h:VD d):yQ (zW d) d=zW d:=by
 have hno:∀x,x∈d.fields->Ze (d.fields.map zH) x=false:=fun x hx=>by
  unfold Ze;rw [Wd,ZB h.fu hx];rfl
 have e1:C24.Zs d.implements d.implements=d.implements:=by
  unfold C24.Zs;rw [List.filter_eq_nil_iff.2 (by intro x hx;simp [hx]),w1j]
 have e2:(d.fields.map zH).map (Y5 d.fields)++Zu (d.fields.map zH) d.fields=d.fields.map zH:=by
  rw [z3T hno,w1j,List.map_map];refine w2d fun x hx=>?_;show Y5 d.fields (zH x)=zH x;unfold Y5;rw [show (zH x).name=x.name from rfl,ZB h.fu hx];have h1:yq x.ty x.ty=x.ty:=z8Y (z1j (h.r.f x hx).ty);simp only [w25];unfold zH;simp only [h1,z0F]
 have e3:(d.members.map yz).map (WO d.members)=d.members.map yz:=by
  rw [List.map_map];refine w2d fun x hx=>?_;show WO d.members (yz x)=yz x;unfold WO;rw [show (yz x).name=x.name from rfl,yx h.mu hx];simp only [w25];unfold yz;simp only [z0F]
 show (⟨d.kind,d.name,C24.Zs d.implements d.implements,Zw (zG d.zg) d.zg,(d.fields.map zH).map (Y5 d.fields)++Zu (d.fields.map zH) d.fields,(d.members.map yz).map (WO d.members),d.zi⟩:Def)=zW d;rw [e1,e2,e3,z0F];rfl
theorem z1t:∀(l:List Def) (o:List Str),(o++l.map (·.name)).Nodup->Zr o l=o++l.map (·.name)
 |[],o,_=>by simp [Zr]
 |d::r,o,h=>by
  simp only [Zr]
  have hd:d.name∉o:=fun hm=>by
   simp only [w0n,List.nodup_append] at h;exact h.2.2 _ hm _ (by simp) Z
  have e:z0e o d.name=o++[d.name]:=by unfold z0e;rw [w0g hd]
  rw [e,z1t r _ (by simpa using h)];simp
theorem z4d:∀(l:List Def) (o:List Str),(∀d,d∈l->d.name∈o)->Zr o l=o
 |[],o,_=>rfl
 |d::r,o,h=>by
  simp only [Zr]
  have e:z0e o d.name=o:=by unfold z0e;rw [w0e (h d (by simp))]
  rw [e];exact z4d r o fun x hx=>h x (by simp [hx])
theorem zbq {ds:List Def} (h:yN ds false=[]):(ds.map (·.name)).Nodup:=by
 have hw:∀i d,ds[i]?=some d->d.name∉(ds.take i).map (·.name):=fun i d hd hm=>by
  unfold yN at h;simp only [w0l] at h;obtain ⟨_,h2⟩:=z5S (z4q h.1 i d hd);unfold Q5 at h2;simp only [w1k,w0y] at h2;obtain ⟨y,hy,e⟩:=w0m.1 hm;exact List.any_eq_false.1 h2.2 y hy (by simp [e])
 have:∀n,n<=ds.length->((ds.take n).map (·.name)).Nodup:=by
  intro n
  induction n with
  |zero=>intro _;simp
  |succ n ih=>
   intro hn;have hd:ds[n]?=some ds[n]:=w0f (by omega);rw [take_succ hd,w24];exact yT (ih (by omega)) (hw n _ hd)
 have:=this ds.length (w09 _)
 rwa [List.take_length] at this
theorem z5D (t:Def) (nm:Str):∀(r pre:List Def),Yk (zW t) nm (pre.map zW) (r.map zW)=Yk t nm pre r
 |[],pre=>rfl
 |o::r,pre=>by
  have hm:YE (t.members.map yz) o.name=YE t.members o.name:=by
   unfold YE;rw [List.any_map];rfl
  have e1:Zh (pre.map zW) o.name=Zh pre o.name:=by
   unfold Zh;rw [List.any_map];rfl
  have e2:isP (zW t) nm (zW o)=isP t nm o:=by
   unfold isP;show ((t.kind==1&&o.name==nm)||(t.kind==2&&decide (nm∈o.implements))||(t.kind==3&&YE (t.members.map yz) o.name))=_;rw [hm]
  simp only [w0n,Yk];show (if (o.kind==1&&Zh (pre.map zW) o.name&&isP (zW t) nm (zW o))=true then _ else _)=_;rw [e1,e2];have ih:=z5D t nm r (pre++[o]);rw [w24,w0n,List.map_nil] at ih;rw [ih];rfl
theorem z4o (n:Str):∀l:List Def,z7 n (l.map zW)=(z7 n l).map zW
 |[]=>rfl
 |x::r=>by
  simp only [w0n,z7,z4o n r];show (if ((zW x).name==n)=true then _ else _)=_;rw [show (zW x).name=x.name from rfl]
  split<;>rfl
theorem zbI (ds:List Def) (nm:Str):Y7 (ds.map zW) nm=Y7 ds nm:=by
 unfold Y7;rw [z4o]
 cases z7 nm ds with
 |none=>rfl
 |some t=>exact z5D t nm ds []
theorem zbD {d:Def} (h:DR d):wg (zW d)=false:=by
 have h1:(zG d.zg).length<=d.zg.length:=Ya;have:=h.il;have:=h.fl;have:=h.dl;unfold wg;simp only [w1k,w1u,List.any_eq_false,w0j];refine ⟨⟨⟨?_,?_⟩,?_⟩,fun x hx=>?_,fun x hx=>?_⟩
 ·show ¬ ((d.implements.length:Int)>64);omega
 ·show ¬ (((d.fields.map zH).length:Int)>64);simp;omega
 ·show ¬ (((zG d.zg).length:Int)>16);omega
 ·obtain ⟨y,hy,rfl⟩:=w0m.1 (show x∈d.fields.map zH from hx);have h1:(zG y.zg).length<=y.zg.length:=Ya;have:=(h.f y hy).dl;show ¬ (((zG y.zg).length:Int)>16);omega
 ·obtain ⟨y,hy,rfl⟩:=w0m.1 (show x∈d.members.map yz from hx);have h1:(zG y.zg).length<=y.zg.length:=Ya;have:=(h.m y hy).2.1;show ¬ (((zG y.zg).length:Int)>16);omega
theorem zaA {g:Gr} {k:Nat} (h:WE [g]):Zo (List.replicate (k+1) g)=g.doc.map (·.name)/\(∀d,d∈g.doc->tyD (List.replicate (k+1) g) d.name=zW d/\tyB (List.replicate (k+1) g) d.name=[]):=by
 have hg:g∈[g]:=by simp
 have hnd:=zbq (h.c g hg);refine ⟨?_,fun d hd=>?_⟩
 ·unfold Zo;rw [List.replicate_succ];simp only [ZK];rw [z1t g.doc [] (by simpa using hnd),w0u]
  induction k with
  |zero=>rfl
  |succ k ih=>
   rw [List.replicate_succ];simp only [ZK];rw [z4d g.doc _ fun d hd=>List.mem_map_of_mem hd];exact ih
 ·have hf:=h.find hg hd;have hv:=h.vd hg hd
  have:∀j,ya d.name (List.replicate j g) (some (zW d)) []=(some (zW d),[]):=by
   intro j
   induction j with
   |zero=>rfl
   |succ j ih=>
    rw [List.replicate_succ];simp only [ya];rw [WR hf (zcF hv),z88 hv];exact ih
  have e:ya d.name (List.replicate (k+1) g) none []=(some (zW d),[]):=by
   rw [List.replicate_succ];simp only [ya];rw [wR hf];exact this k
  unfold tyD tyB;rw [e];exact ⟨rfl,rfl⟩
theorem z7k {g:Gr} {k:Nat} (h:WE [g]):Yt (List.replicate (k+1) g)=[]/\wm (List.replicate (k+1) g)=g.doc.map zW:=by
 obtain ⟨h1,h2⟩:=zaA (k:=k) h
 have hg:g∈[g]:=by simp
 have e1:yv (List.replicate (k+1) g)=g.doc.map zW:=by
  unfold yv;rw [h1,List.map_map];exact w2d fun d hd=>(h2 d hd).1
 have e2:z1J (List.replicate (k+1) g)=[]:=by
  unfold z1J;rw [h1,w2e];intro n hn;obtain ⟨d,hd,rfl⟩:=w0m.1 hn;exact (h2 d hd).2
 have e3:z0i (List.replicate (k+1) g) (g.doc.map zW)=[]:=by
  unfold z0i;simp only [w0l,yW,wM];refine ⟨fun d hd=>?_,?_,fun d hd=>?_⟩
  ·unfold z2Z z6Y
   have:(List.replicate (k+1) g).all (wJ (Y7 (g.doc.map zW) d.name) d.name)=true:=by
    rw [w0i];intro x hx;obtain rfl:=List.eq_of_mem_replicate hx;unfold wJ;rw [zbI]
    cases z7 d.name x.doc with
    |none=>rfl
    |some t=>simp
   rw [this];simp
  ·have:=h.l g hg;simp;omega
  ·obtain ⟨x,hx,rfl⟩:=w0m.1 hd;exact zbD (h.r g hg x hx)
 have e4:Yt (List.replicate (k+1) g)=[]:=by
  unfold Yt;rw [e2,w0e rfl,e1,e3]
 exact ⟨e4,by unfold wm;rw [e4,w0e rfl,e1]⟩
theorem zdY (H:zX P) (g:Gr) (hg:zV g.doc):z6 P 3 [Gr.v g] ⟨[],0⟩ {v:= .t (.bool true)}:=by
 have hg1:∀x,x∈[g]->zV x.doc:=fun x hx=>by rw [w1i.1 hx];exact hg
 have f1:=z9y H [g] (by simp) hg1;have hk:=z3P H
 cases hf:z4F [g] with
 |false=>
  rw [hf] at f1;refine z6.run H.i3 H.mixed Z Z ?_;refine fR Z ?_;refine Mid.call (f1) Z Z Z Z ?_;refine fM Z ?_;refine Run.zf Z Z Z ?_;refine fR Z ?_;refine Mid.call (hk) Z Z Z Z ?_;refine fM Z ?_;refine Run.fin Z (z3.go ?_);exact .t Z
 |true=>
  rw [hf] at f1;have hF:=z3s hf;have hN:=hF.gn hg1
  have hF2:WE [g,g]:=⟨by simp,fun x hx=>hF.sm x (by simpa using hx),fun x hx=>hF.r x (by simpa using hx),fun x hx=>hF.c x (by simpa using hx),fun x hx=>hF.f x (by simpa using hx),fun x hx=>hF.l x (by simpa using hx)⟩
  have hN2:=hF2.gn fun x hx=>hg1 x (by simpa using hx);have g1:=wz H [g] hN;have g2:=wz H [g,g] hN2;obtain ⟨e1,e2⟩:=z7k (k:=0) hF;obtain ⟨e3,e4⟩:=z7k (k:=1) hF;have e1:Yt [g]=[]:=e1;have e2:wm [g]=g.doc.map zW:=e2;have e3:Yt [g,g]=[]:=e3;have e4:wm [g,g]=g.doc.map zW:=e4
  have hdo:zV (g.doc.map zW):=by rw [←e2];exact z33 hN.toGL
  rw [e1,e2] at g1;rw [e3,e4] at g2
  have hl:(g.doc.map zW).length=g.doc.length:=by simp
  have g4:=zfF H (g.doc.map zW) hdo;generalize g.doc.map zW=D at*;refine z6.run H.i3 H.mixed Z Z ?_;refine fR Z ?_;refine Mid.call (f1) Z Z Z Z ?_;refine fM Z ?_;refine Run.ze Z Z Z ?_;refine fR Z ?_;refine Mid.call (g1) Z Z Z Z ?_;refine fM Z ?_;refine Mid.call (g2) Z Z Z Z ?_;refine fM Z ?_;refine lM Z Z Z ?_;refine fM Z ?_;refine lMG Z Z Z Z ?_;refine fM Z ?_;refine lMG Z Z Z Z ?_;refine fM Z ?_;refine lMG Z Z Z Z ?_;refine fM Z ?_;refine caG Z Z (fun hg=>⟨_,rfl,g4,rfl⟩) Z Z ?_;refine fM Z ?_;refine caG Z Z (fun hg=>⟨_,rfl,hk,rfl⟩) Z Z ?_;refine fM Z ?_;refine Run.fin Z (z3.go ?_);exact .t (by simp [hl])
end Go.GB.C24
namespace Go.GB.C24
open Go.GB Go.GB.C11
theorem z1T {a b:Input}:alike a b=true↔cnL a=cnL b:=QC a b
def Yg (a b:List Input):Prop:=∀nm,(zn nm a).map cnL=(zn nm b).map cnL
theorem Yg.symm {a b:List Input} (h:Yg a b):Yg b a:=fun nm=>(h nm).symm
theorem Yg.trans {a b c:List Input} (h:Yg a b) (k:Yg b c):Yg a c:=fun nm=>(h nm).trans (k nm)
theorem z8l {a b:List Input} (ha:(a.map (·.name)).Nodup) (hb:(b.map (·.name)).Nodup):((∀x,x∈a->yt b x=false)/\∀x,x∈b->Yd a x=false)↔Yg a b:=by
 constructor
 ·rintro ⟨h1,h2⟩ nm
  cases hf:zn nm a with
  |none=>
   cases hg:zn nm b with
   |none=>rfl
   |some y=>
    have:=h2 y (Yr hg);unfold Yd at this;rw [z0W hg,hf] at this;cases this
  |some x=>
   have hx:=Yr hf;have:=h1 x hx;unfold yt at this;rw [z0W hf] at this
   cases hg:zn nm b with
   |none=>rw [hg] at this;simp at this
   |some y=>
    rw [hg] at this;simp only [Option.isSome_some,Bool.not_true,w1z,w25,Bool.not_eq_false'] at this;simp [z1T.1 this]
 ·intro h;refine ⟨fun x hx=>?_,fun x hx=>?_⟩
  ·have:=h x.name;rw [Y0 ha hx] at this;unfold yt
   cases hg:zn x.name b with
   |none=>rw [hg] at this;cases this
   |some y=>
    rw [hg] at this;simp only [Option.map_some,w00] at this;simp [z1T.2 this.symm]
  ·have:=h x.name;rw [Y0 hb hx] at this;unfold Yd
   cases hg:zn x.name a with
   |none=>rw [hg] at this;cases this
   |some y=>rfl
structure FC (h g:Field):Prop where
 ty:Zz h.ty g.ty=true
 ar:Yg h.args g.args
 dr:z2n h.zg g.zg
theorem FC.symm {h g:Field} (c:FC h g):FC g h:=⟨by have:=zU.1 c.ty;exact zU.2 ⟨this.1.symm,this.2.symm⟩,c.ar.symm,c.dr.symm⟩
theorem FC.refl (h:Field):FC h h:=⟨zU.2 ⟨rfl,rfl⟩,fun _=>rfl,z2n.refl _⟩
structure z0O (L:List Field) (f:Field):Prop where
 ne:L≠[]
 tn:∀g,g∈L->Zz f.ty g.ty=true
 rw:RW f.ty.za
 lw:∀g,g∈L->RW g.ty.za
 bits:∀i,i<(sg f.ty.za).length->((sg f.ty.za)[i]?=some true↔∀g,g∈L->(sg g.ty.za)[i]?=some true)
 zg:DD (L.map (·.zg)) f.zg
 args:∀g,g∈L->Yg f.args g.args
 an:(f.args.map (·.name)).Nodup
theorem z0O.one {g:Field} (h1:RW g.ty.za) (h2:(g.args.map (·.name)).Nodup):z0O [g] (zH g):=
 ⟨by simp,fun x hx=>by rw [w1i.1 hx];exact zU.2 ⟨rfl,rfl⟩,h1,fun x hx=>by rw [w1i.1 hx];exact h1,fun i hi=>by simp [zH],DD.one g.zg,fun x hx=>by rw [w1i.1 hx];exact fun _=>rfl,h2⟩
theorem z5r {f g:Field} {at_:Str} (hf:(f.args.map (·.name)).Nodup) (hg:(g.args.map (·.name)).Nodup):W5 f g at_=[]↔Zz f.ty g.ty=true/\Yg f.args g.args/\Z4 f.zg g.zg=false:=by
 unfold W5;simp only [w0l,wM,yW,Bool.not_eq_false'];rw [←z8l hf hg];constructor
 ·rintro ⟨h1,h2,h3,h4⟩;exact ⟨h1,⟨h2,h3⟩,h4⟩
 ·rintro ⟨h1,⟨h2,h3⟩,h4⟩;exact ⟨h1,h2,h3,h4⟩
theorem z0O.bad {L:List Field} {f g:Field} {at_:Str} (h:z0O L f) (hg:(g.args.map (·.name)).Nodup):W5 f g at_=[]↔∀k,k∈L->FC k g:=by
 rw [z5r h.an hg,h.zg.z7T];constructor
 ·rintro ⟨h1,h2,h3⟩ k hk;have s1:=zU.1 (h.tn k hk);have s2:=zU.1 h1;exact ⟨zU.2 ⟨s1.1.symm.trans s2.1,s1.2.symm.trans s2.2⟩,(h.args k hk).symm.trans h2,h3 _ (List.mem_map_of_mem hk)⟩
 ·intro hc;obtain ⟨k,hk⟩:=List.exists_mem_of_ne_nil L h.ne;have s1:=zU.1 (h.tn k hk);have s2:=zU.1 (hc k hk).ty;refine ⟨zU.2 ⟨s1.1.trans s2.1,s1.2.trans s2.2⟩,(h.args k hk).trans (hc k hk).ar,fun m hm=>?_⟩;obtain ⟨y,hy,rfl⟩:=w0m.1 hm;exact (hc y hy).dr
theorem zeR (a b:List Bool) (i:Nat) (h:a.length=b.length):(z0k a b)[i]?=some true↔a[i]?=some true/\b[i]?=some true:=by
 unfold z0k;rw [List.getElem?_zipWith]
 cases ha:a[i]? with
 |none=>simp
 |some x=>
  cases hb:b[i]? with
  |none=>simp
  |some y=>simp
theorem z0O.join {L:List Field} {f g:Field} {at_:Str} (h:z0O L f) (hr:RW g.ty.za) (hg:(g.args.map (·.name)).Nodup) (hb:W5 f g at_=[]):z0O (g::L) ⟨f.name,f.args,yq f.ty g.ty,Zw f.zg g.zg⟩:=by
 obtain ⟨h1,h2,h3⟩:=(z5r h.an hg).1 hb;obtain ⟨w1,w2,w3,w4⟩:=qS h.rw hr h1;have s:=zU.1 h1
 have hl:(sg f.ty.za).length=(sg g.ty.za).length:=by rw [z2j h.rw,z2j hr,s.2]
 refine ⟨by simp,fun k hk=>?_,w2,fun k hk=>?_,fun i hi=>?_,?_,fun k hk=>?_,h.an⟩
 ·rcases w0t.1 hk with rfl|hk
  ·exact zU.2 ⟨w1.trans s.1,w3.trans s.2⟩
  ·have s1:=zU.1 (h.tn k hk);exact zU.2 ⟨w1.trans s1.1,w3.trans s1.2⟩
 ·rcases w0t.1 hk with rfl|hk
  ·exact hr
  ·exact h.lw k hk
 ·show (sg (yq f.ty g.ty).za)[i]?=some true↔_
  have hi:i<(sg f.ty.za).length:=by
   have hi:i<(sg (yq f.ty g.ty).za).length:=hi;rw [w4] at hi;unfold z0k at hi;rw [List.length_zipWith] at hi;omega
  rw [w4,zeR _ _ _ hl,h.bits i hi];constructor
  ·rintro ⟨a1,a2⟩ k hk
   rcases w0t.1 hk with rfl|hk
   ·exact a2
   ·exact a1 k hk
  ·intro hh;exact ⟨fun k hk=>hh k (by simp [hk]),hh g (by simp)⟩
 ·exact h.zg.join h3
 ·rcases w0t.1 hk with rfl|hk
  ·exact h2
  ·exact h.args k hk
theorem z0O.fits {L:List Field} {f g:Field} (h:z0O L f) (hg:g∈L):z5V g.ty f.ty=true:=by
 have s:=zU.1 (h.tn g hg)
 have hl:(sg g.ty.za).length=(sg f.ty.za).length:=by rw [z2j h.rw,z2j (h.lw g hg),s.2]
 refine (zdA (h.lw g hg) h.rw).2 ⟨zU.2 ⟨s.1.symm,s.2.symm⟩,?_⟩;apply w22;intro i;by_cases hi:i<(sg f.ty.za).length
 ·have hi2:i<(sg g.ty.za).length:=by omega
  have e:(z0k (sg g.ty.za) (sg f.ty.za))[i]?=some ((sg g.ty.za)[i]&&(sg f.ty.za)[i]):=by
   unfold z0k;rw [List.getElem?_zipWith,w0f hi,w0f hi2]
  rw [e,w0f hi]
  cases hb:(sg f.ty.za)[i] with
  |false=>simp
  |true=>
   have:=(h.bits i hi).1 (by rw [w0f hi,hb]) g hg;rw [w0f hi2] at this;simp at this;simp [this]
 ·have e:(z0k (sg g.ty.za) (sg f.ty.za)).length<=i:=by unfold z0k;rw [List.length_zipWith];omega
  rw [w19 e,w19 (by omega)]
theorem z0O.same {L L':List Field} {f f':Field} (h:z0O L f) (h':z0O L' f') (hL:∀g,g∈L↔g∈L'):f.ty=f'.ty/\f.zg.length=f'.zg.length:=by
 obtain ⟨k,hk⟩:=List.exists_mem_of_ne_nil L h.ne;have s1:=zU.1 (h.tn k hk);have s2:=zU.1 (h'.tn k ((hL k).1 hk))
 have hl:(sg f.ty.za).length=(sg f'.ty.za).length:=by rw [z2j h.rw,z2j h'.rw,s1.2,s2.2]
 refine ⟨zd5 h.rw h'.rw (s1.1.trans s2.1.symm) ?_,h.zg.length h'.zg fun m=>?_⟩
 ·apply w22;intro i;by_cases hi:i<(sg f.ty.za).length
  ·have hi2:i<(sg f'.ty.za).length:=by omega
   have e:(sg f.ty.za)[i]?=some true↔(sg f'.ty.za)[i]?=some true:=by
    rw [h.bits i hi,h'.bits i hi2];exact ⟨fun hh g hg=>hh g ((hL g).2 hg),fun hh g hg=>hh g ((hL g).1 hg)⟩
   rw [w0f hi,w0f hi2] at e⊢;simp only [w00] at e⊢;rw [w1n];exact e
  ·rw [w19 (by omega),w19 (by omega)]
 ·simp only [w0m];exact ⟨fun ⟨g,a,b⟩=>⟨g,(hL g).1 a,b⟩,fun ⟨g,a,b⟩=>⟨g,(hL g).2 a,b⟩⟩
def z1V (nm:Str) (ds:List Def):List Field:=ds.filterMap fun d=>z5 nm d.fields
def z67 (nm:Str) (ds:List Def):List zh:=ds.filterMap fun d=>zo nm d.members
theorem qA {nm:Str} {ds:List Def} {f:Field}:f∈z1V nm ds↔∃d,d∈ds/\z5 nm d.fields=some f:=by simp [z1V]
theorem z1B {nm:Str} {ds:List Def} {f:zh}:f∈z67 nm ds↔∃d,d∈ds/\zo nm d.members=some f:=by simp [z67]
theorem z03 (nm:Str) (d:Def) (ds:List Def):z1V nm (d::ds)=match z5 nm d.fields with|some g=>g::z1V nm ds|none=>z1V nm ds:=by
 unfold z1V;rw [List.filterMap_cons]
 cases z5 nm d.fields<;>rfl
theorem z5y (nm:Str) (d:Def) (ds:List Def):z67 nm (d::ds)=match zo nm d.members with|some g=>g::z67 nm ds|none=>z67 nm ds:=by
 unfold z67;rw [List.filterMap_cons]
 cases zo nm d.members<;>rfl
structure z2b (d e:Def):Prop where
 k:d.kind=e.kind
 dr:z2n d.zg e.zg
 fc:∀nm f g,z5 nm d.fields=some f->z5 nm e.fields=some g->FC f g
 fk:d.kind=2->∀nm,(z5 nm d.fields).isSome=(z5 nm e.fields).isSome
 ma:∀nm,(zo nm d.members).isSome=(zo nm e.members).isSome
 mc:∀nm x y,zo nm d.members=some x->zo nm e.members=some y->z2n x.zg y.zg
 nc:Yg d.zi e.zi
theorem z2b.symm {d e:Def} (h:z2b d e):z2b e d:=
 ⟨h.k.symm,h.dr.symm,fun nm f g h1 h2=>(h.fc nm g f h2 h1).symm,fun hk nm=>(h.fk (h.k.trans hk) nm).symm,fun nm=>(h.ma nm).symm,fun nm x y h1 h2=>(h.mc nm y x h2 h1).symm,h.nc.symm⟩
theorem z2b.refl (d:Def):z2b d d:=
 ⟨rfl,z2n.refl _,fun nm f g h1 h2=>by rw [h1] at h2;cases h2;exact FC.refl _,fun _ _=>rfl,fun _=>rfl,fun nm x y h1 h2=>by rw [h1] at h2;cases h2;exact z2n.refl _,fun _=>rfl⟩
structure yG (ds:List Def) (x:Def):Prop where
 ne:ds≠[]
 kd:∀d,d∈ds->d.kind=x.kind
 nm:∀d,d∈ds->d.name=x.name
 ip:x.implements.Nodup
 im:∀s,s∈x.implements↔∃d,d∈ds/\s∈d.implements
 dd:DD (ds.map (·.zg)) x.zg
 fn:(x.fields.map (·.name)).Nodup
 f0:∀nm,z5 nm x.fields=none->z1V nm ds=[]
 fo:∀nm f,z5 nm x.fields=some f->z0O (z1V nm ds) f
 fi:x.kind=2->∀nm d,d∈ds->(z5 nm x.fields).isSome=(z5 nm d.fields).isSome
 mn:(x.members.map (·.name)).Nodup
 mi:∀nm d,d∈ds->(zo nm x.members).isSome=(zo nm d.members).isSome
 mo:∀nm m,zo nm x.members=some m->DD ((z67 nm ds).map (·.zg)) m.zg
 ii:(x.zi.map (·.name)).Nodup
 ia:∀d,d∈ds->Yg x.zi d.zi
theorem zc2 (l:List Field):(l.map zH).map (·.name)=l.map (·.name):=by rw [List.map_map];rfl
theorem zb2 (l:List zh):(l.map yz).map (·.name)=l.map (·.name):=by rw [List.map_map];rfl
theorem yG.one {d:Def} (h:VD d):yG [d] (zW d):=by
 refine ⟨by simp,fun e he=>?_,fun e he=>?_,h.pu,fun s=>by simp [zW],DD.one d.zg,?_,fun nm hn=>?_,fun nm f hf=>?_,fun _ nm e he=>?_,?_,fun nm e he=>?_,fun nm m hm=>?_,h.iu,fun e he=>?_⟩
 ·rw [w1i.1 he];rfl
 ·rw [w1i.1 he];rfl
 ·show ((d.fields.map zH).map (·.name)).Nodup;rw [zc2];exact h.fu
 ·have hn:z5 nm (d.fields.map zH)=none:=hn;rw [Wd] at hn
  have:z5 nm d.fields=none:=by simpa using hn
  simp [z1V,this]
 ·have hf:z5 nm (d.fields.map zH)=some f:=hf;rw [Wd] at hf
  cases hg:z5 nm d.fields with
  |none=>rw [hg] at hf;cases hf
  |some g=>
   rw [hg] at hf
   have hf:zH g=f:=by simpa using hf
   have hm:=Z0 hg;rw [z03,hg,←hf];exact z0O.one (z1j (h.r.f g hm).ty) (h.au g hm)
 ·rw [w1i.1 he];show (z5 nm (d.fields.map zH)).isSome=_;rw [Wd];simp
 ·show ((d.members.map yz).map (·.name)).Nodup;rw [zb2];exact h.mu
 ·rw [w1i.1 he];show (zo nm (d.members.map yz)).isSome=_;rw [QS];simp
 ·have hm:zo nm (d.members.map yz)=some m:=hm;rw [QS] at hm
  cases hg:zo nm d.members with
  |none=>rw [hg] at hm;cases hm
  |some g=>
   rw [hg] at hm
   have hm:yz g=m:=by simpa using hm
   rw [z5y,hg,←hm];exact DD.one g.zg
 ·rw [w1i.1 he];exact fun _=>rfl
theorem z9C {x e:Def} (hx:(x.fields.map (·.name)).Nodup) (he:(e.fields.map (·.name)).Nodup):
  WW x e=[]↔(∀nm f g,z5 nm x.fields=some f->z5 nm e.fields=some g->W5 f g (x.name++[46]++f.name)=[])/\(x.kind=2->∀nm,(z5 nm x.fields).isSome=(z5 nm e.fields).isSome):=by
 unfold WW;simp only [w0l,yW,w2e];constructor
 ·rintro ⟨h1,h2,h3⟩;refine ⟨fun nm f g hf hg=>?_,fun hk nm=>?_⟩
  ·have:=h1 f (Z0 hf);unfold Zk at this;rw [wH hf,hg] at this;simpa [wH hf] using this
  ·unfold kF at h2 h3;rw [w0e hk] at h2 h3
   cases hf:z5 nm x.fields with
   |none=>
    cases hg:z5 nm e.fields with
    |none=>rfl
    |some g=>
     have:=h3 g (Z0 hg);unfold Ze at this;rw [wH hg,hf] at this;cases this
   |some f=>
    have:=h2 f (Z0 hf);unfold Ze at this;rw [wH hf] at this
    cases hg:z5 nm e.fields with
    |none=>rw [hg] at this;cases this
    |some g=>rfl
 ·rintro ⟨h1,h2⟩;refine ⟨fun f hf=>?_,fun f hf=>?_,fun g hg=>?_⟩
  ·unfold Zk
   cases hg:z5 f.name e.fields with
   |none=>rfl
   |some g=>exact h1 f.name f g (ZB hx hf) hg
  ·unfold kF at hf;split at hf
   ·rename_i hk;have:=h2 hk f.name;rw [ZB hx hf] at this;unfold Ze;rw [←this];rfl
   ·cases hf
  ·unfold kF at hg;split at hg
   ·rename_i hk;have:=h2 hk g.name;rw [ZB he hg] at this;unfold Ze;rw [this];rfl
   ·cases hg
theorem z84 {x e:Def} (hx:(x.members.map (·.name)).Nodup) (he:(e.members.map (·.name)).Nodup):
  Wx x e=[]↔(∀nm,(zo nm x.members).isSome=(zo nm e.members).isSome)/\∀nm m y,zo nm x.members=some m->zo nm e.members=some y->Z4 m.zg y.zg=false:=by
 unfold Wx;simp only [w0l,yW,w2e];constructor
 ·rintro ⟨h1,h2⟩;refine ⟨fun nm=>?_,fun nm m y hm hy=>?_⟩
  ·cases hf:zo nm x.members with
   |none=>
    cases hg:zo nm e.members with
    |none=>rfl
    |some g=>
     have:=h2 g (ZS hg);unfold wU at this;rw [wv hg,hf] at this;cases this
   |some f=>
    have:=h1 f (ZS hf);unfold ym at this;rw [wv hf] at this
    cases hg:zo nm e.members with
    |none=>rw [hg] at this;simp at this
    |some g=>rfl
  ·have:=h1 m (ZS hm);unfold ym at this;rw [wv hm,hy] at this;simpa [wM] using this
 ·rintro ⟨h1,h2⟩;refine ⟨fun f hf=>?_,fun g hg=>?_⟩
  ·unfold ym;have:=h1 f.name;rw [yx hx hf] at this
   cases hg:zo f.name e.members with
   |none=>rw [hg] at this;cases this
   |some y=>simp [wM,h2 f.name f y (yx hx hf) hg]
  ·have:=h1 g.name;rw [yx he hg] at this;unfold wU;rw [this];rfl
theorem z8t {x e:Def} (hx:(x.zi.map (·.name)).Nodup) (he:(e.zi.map (·.name)).Nodup):QT x e=[]↔Yg x.zi e.zi:=by
 unfold QT;simp only [w0l,yW,w2e];rw [←z8l hx he]
 have hone:∀y,yy e.zi x.name y=[]↔yt e.zi y=false:=fun y=>by
  unfold yy yt
  cases hg:zn y.name e.zi with
  |none=>simp
  |some z=>
   simp only [Option.isSome_some,w17,w25,Bool.not_true,w1z,Bool.not_eq_false'];by_cases hs:W8 z.ty y.ty=true
   ·rw [w0e hs,wM];simp
   ·rw [w0g hs];simp only [List.cons_ne_nil,false_iff];intro ha;have:=z1T.1 ha;simp only [cnL,w05] at this;exact hs (wy.2 this.1)
 constructor
 ·rintro ⟨h1,h2⟩;exact ⟨fun y hy=>(hone y).1 (h1 y hy),h2⟩
 ·rintro ⟨h1,h2⟩;exact ⟨fun y hy=>(hone y).2 (h1 y hy),h2⟩
theorem z3u {x e:Def} (hx:(x.fields.map (·.name)).Nodup) (hm:(x.members.map (·.name)).Nodup) (hi:(x.zi.map (·.name)).Nodup) (he:VD e):zZ x e=[]↔x.kind=e.kind/\Z4 x.zg e.zg=false/\
  ((∀nm f g,z5 nm x.fields=some f->z5 nm e.fields=some g->W5 f g (x.name++[46]++f.name)=[])/\(x.kind=2->∀nm,(z5 nm x.fields).isSome=(z5 nm e.fields).isSome))/\
  ((∀nm,(zo nm x.members).isSome=(zo nm e.members).isSome)/\∀nm m y,zo nm x.members=some m->zo nm e.members=some y->Z4 m.zg y.zg=false)/\Yg x.zi e.zi:=by
 rw [←z9C hx he.fu,←z84 hm he.mu,←z8t hi he.iu];unfold zZ;by_cases hk:x.kind=e.kind
 ·rw [w0e hk];simp only [w0l,wM,hk,true_and]
 ·rw [w0g hk];simp [hk]
theorem yG.bad {ds:List Def} {x e:Def} (h:yG ds x) (he:VD e):zZ x e=[]↔∀d,d∈ds->z2b d e:=by
 rw [z3u h.fn h.mn h.ii he];obtain ⟨d0,hd0⟩:=List.exists_mem_of_ne_nil ds h.ne;constructor
 ·rintro ⟨h1,h2,⟨h3,h4⟩,⟨h5,h6⟩,h7⟩ d hd;refine ⟨(h.kd d hd).trans h1,h.dd.z7T.1 h2 _ (List.mem_map_of_mem hd),fun nm f g hf hg=>?_,fun hk nm=>?_,fun nm=>(h.mi nm d hd).symm.trans (h5 nm),fun nm m y hm hy=>?_,(h.ia d hd).symm.trans h7⟩
  ·cases hx:z5 nm x.fields with
   |none=>
    have:=h.f0 nm hx;have hm:f∈z1V nm ds:=qA.2 ⟨d,hd,hf⟩;rw [this] at hm;cases hm
   |some k=>
    exact ((h.fo nm k hx).bad (he.au g (Z0 hg))).1 (h3 nm k g hx hg) f (qA.2 ⟨d,hd,hf⟩)
  ·have hk2:x.kind=2:=(h.kd d hd).symm.trans hk;exact (h.fi hk2 nm d hd).symm.trans (h4 hk2 nm)
  ·have:=h.mi nm d hd;rw [hm] at this
   cases hx:zo nm x.members with
   |none=>rw [hx] at this;cases this
   |some k=>exact (h.mo nm k hx).z7T.1 (h6 nm k y hx hy) _ (List.mem_map_of_mem (z1B.2 ⟨d,hd,hm⟩))
 ·intro hc;refine ⟨(h.kd d0 hd0).symm.trans (hc d0 hd0).k,h.dd.z7T.2 fun m hm=>?_,⟨fun nm f g hf hg=>?_,fun hk nm=>?_⟩,⟨fun nm=>(h.mi nm d0 hd0).trans ((hc d0 hd0).ma nm),fun nm m y hm hy=>?_⟩,(h.ia d0 hd0).trans (hc d0 hd0).nc⟩
  ·obtain ⟨d,hd,rfl⟩:=w0m.1 hm;exact (hc d hd).dr
  ·refine ((h.fo nm f hf).bad (he.au g (Z0 hg))).2 fun k hk=>?_;obtain ⟨d,hd,hdk⟩:=qA.1 hk;exact (hc d hd).fc nm k g hdk hg
  ·exact (h.fi hk nm d0 hd0).trans ((hc d0 hd0).fk ((h.kd d0 hd0).trans hk) nm)
  ·refine (h.mo nm m hm).z7T.2 fun m' hm'=>?_;obtain ⟨k,hk,rfl⟩:=w0m.1 hm';obtain ⟨d,hd,hdk⟩:=z1B.1 hk;exact (hc d hd).mc nm k y hdk hy
theorem z1L (n:Str) (b:List Field):∀a:List Field,z5 n (a++b)=match z5 n a with|some x=>some x|none=>z5 n b
 |[]=>rfl
 |x::r=>by
  simp only [w1y,z5];split
  ·rfl
  ·exact z1L n b r
theorem z63 (n:Str) (b:List Field):∀l:List Field,z5 n (l.map (Y5 b))=(z5 n l).map (Y5 b)
 |[]=>rfl
 |x::r=>by
  simp only [w0n,z5,z63 n b r];show (if ((Y5 b x).name==n)=true then _ else _)=_;rw [show (Y5 b x).name=x.name from rfl]
  split<;>rfl
theorem z2c (n:Str) (b:List zh):∀l:List zh,zo n (l.map (WO b))=(zo n l).map (WO b)
 |[]=>rfl
 |x::r=>by
  simp only [w0n,zo,z2c n b r];show (if ((WO b x).name==n)=true then _ else _)=_;rw [show (WO b x).name=x.name from rfl]
  split<;>rfl
theorem z5Q {n:Str} {a:List Field} (ha:z5 n a=none):∀l:List Field,z5 n (Zu a l)=(z5 n l).map zH
 |[]=>rfl
 |x::r=>by
  simp only [Zu,z5];by_cases hx:(x.name==n)=true
  ·have e:x.name=n:=by simpa using hx
   rw [w0e (by unfold Ze;rw [e,ha];rfl),w0e hx];simp only [z5];rw [w0e (show ((zH x).name==n)=true from hx)];rfl
  ·rw [w0g hx,←z5Q ha r];split
   ·simp only [z5];rw [w0g (show ¬ ((zH x).name==n)=true from hx)]
   ·rfl
theorem QF (a:List Field):∀{l:List Field},(l.map (·.name)).Nodup->((Zu a l).map (·.name)).Nodup
 |[],_=>by simp [Zu]
 |x::r,h=>by
  simp only [w0n,w15] at h;simp only [Zu];split
  ·simp only [w0n,w15];refine ⟨fun hm=>h.1 ?_,QF a h.2⟩;obtain ⟨y,hy,e⟩:=w0m.1 hm;obtain ⟨z,hz,_,rfl⟩:=Yw hy;exact w0m.2 ⟨z,hz,e⟩
  ·exact QF a h.2
theorem zbW {S:List (List Dir)} {l:List Dir} (h:DD S l):Zw l []=l:=by
 unfold Zw;rw [h.rest];rfl
theorem yG.join {ds:List Def} {x e:Def} (h:yG ds x) (he:VD e) (hn:e.name=x.name) (hb:zZ x e=[]):yG (e::ds) (yQ x e):=by
 obtain ⟨h1,h2,⟨h3,h4⟩,⟨h5,h6⟩,h7⟩:=(z3u h.fn h.mn h.ii he).1 hb
 have hfind:∀nm,z5 nm (yQ x e).fields=match z5 nm x.fields with|some f=>some (Y5 e.fields f)|none=>(z5 nm e.fields).map zH:=fun nm=>by
  show z5 nm (x.fields.map (Y5 e.fields)++Zu x.fields e.fields)=_;rw [z1L,z63]
  cases hx:z5 nm x.fields with
  |none=>simp only [Option.map_none];exact z5Q hx _
  |some f=>rfl
 refine ⟨by simp,fun d hd=>?_,fun d hd=>?_,?_,fun s=>?_,h.dd.join h2,?_,fun nm hz=>?_,fun nm f hf=>?_,fun hk nm d hd=>?_,?_,fun nm d hd=>?_,fun nm m hm=>?_,h.ii,fun d hd=>?_⟩
 ·rcases w0t.1 hd with rfl|hd
  ·exact h1.symm
  ·exact h.kd d hd
 ·rcases w0t.1 hd with rfl|hd
  ·exact hn
  ·exact h.nm d hd
 ·show (C24.Zs x.implements e.implements).Nodup;unfold C24.Zs;rw [List.nodup_append];refine ⟨h.ip,he.pu.filter _,fun a ha b hb e=>?_⟩;have:=(List.mem_filter.1 hb).2;rw [←e] at this;simp [ha] at this
 ·show s∈C24.Zs x.implements e.implements↔_;unfold C24.Zs;simp only [w14,List.mem_filter,w21,w1u,w0t,exists_eq_or_imp];rw [←h.im s];constructor
  ·rintro (a|⟨a,_⟩)
   ·exact .inr a
   ·exact .inl a
  ·rintro (a|a)
   ·by_cases hs:s∈x.implements
    ·exact .inl hs
    ·exact .inr ⟨a,hs⟩
   ·exact .inl a
 ·show ((x.fields.map (Y5 e.fields)++Zu x.fields e.fields).map (·.name)).Nodup;rw [w24,List.map_map,List.nodup_append];refine ⟨h.fn,QF _ he.fu,fun a ha b hb e'=>?_⟩;obtain ⟨y,hy,rfl⟩:=w0m.1 hb;obtain ⟨z,hz,hno,rfl⟩:=Yw hy;obtain ⟨w,hw,hwe⟩:=w0m.1 ha
  have e2:w.name=z.name:=by rw [show w.name=a from hwe];exact e'
  unfold Ze at hno;rw [←e2,ZB h.fn hw] at hno;cases hno
 ·rw [hfind] at hz
  cases hx:z5 nm x.fields with
  |some f=>rw [hx] at hz;cases hz
  |none=>
   rw [hx] at hz
   have hz:z5 nm e.fields=none:=by simpa using hz
   rw [z03,hz];exact h.f0 nm hx
 ·rw [hfind] at hf
  cases hx:z5 nm x.fields with
  |none=>
   rw [hx] at hf
   cases hg:z5 nm e.fields with
   |none=>rw [hg] at hf;cases hf
   |some g=>
    rw [hg] at hf
    have hf:zH g=f:=by simpa using hf
    have hm:=Z0 hg;rw [z03,hg,←hf,h.f0 nm hx];exact z0O.one (z1j (he.r.f g hm).ty) (he.au g hm)
  |some k=>
   rw [hx] at hf
   have hf:Y5 e.fields k=f:=by simpa using hf
   have hk:=h.fo nm k hx;have hkn:=wH hx;rw [z03]
   cases hg:z5 nm e.fields with
   |none=>
    have e1:Y5 e.fields k=k:=by
     unfold Y5;rw [hkn,hg];show (⟨nm,k.args,k.ty,Zw k.zg []⟩:Field)=k;rw [zbW hk.zg,←hkn]
    rw [←hf,e1];exact hk
   |some g=>
    have hm:=Z0 hg
    have e1:Y5 e.fields k=⟨k.name,k.args,yq k.ty g.ty,Zw k.zg g.zg⟩:=by
     unfold Y5;rw [hkn,hg];rfl
    rw [←hf,e1];exact hk.join (z1j (he.r.f g hm).ty) (he.au g hm) (h3 nm k g hx hg)
 ·have hs:∀d,d∈e::ds->(z5 nm d.fields).isSome=(z5 nm x.fields).isSome:=fun d hd=>by
   rcases w0t.1 hd with rfl|hd
   ·exact (h4 hk nm).symm
   ·exact (h.fi hk nm d hd).symm
  rw [hs d hd,hfind];have:=hs e (by simp)
  cases hx:z5 nm x.fields with
  |some f=>rfl
  |none=>
   rw [hx] at this;simpa using this
 ·show ((x.members.map (WO e.members)).map (·.name)).Nodup;rw [List.map_map];exact h.mn
 ·show (zo nm (x.members.map (WO e.members))).isSome=_;rw [z2c,Option.isSome_map]
  rcases w0t.1 hd with rfl|hd
  ·exact h5 nm
  ·exact h.mi nm d hd
 ·have hm:zo nm (x.members.map (WO e.members))=some m:=hm;rw [z2c] at hm
  cases hx:zo nm x.members with
  |none=>rw [hx] at hm;cases hm
  |some k=>
   rw [hx] at hm
   have hm:WO e.members k=m:=by simpa using hm
   have:=h5 nm;rw [hx] at this;rw [z5y]
   cases hg:zo nm e.members with
   |none=>rw [hg] at this;cases this
   |some g=>
    have e1:WO e.members k=⟨k.name,Zw k.zg g.zg⟩:=by
     unfold WO;rw [wv hx,hg];rfl
    rw [←hm,e1];exact (h.mo nm k hx).join (h6 nm k g hx hg)
 ·rcases w0t.1 hd with rfl|hd
  ·exact h7
  ·exact h.ia d hd
def Z8 (n:Str) (gs:List Gr):List Def:=gs.filterMap fun g=>z7 n g.doc
theorem Wp {n:Str} {gs:List Gr} {d:Def}:d∈Z8 n gs↔∃g,g∈gs/\z7 n g.doc=some d:=by simp [Z8]
theorem zbL (nm:Str) (g:Gr) (o:Option Def) (B:List z4):∃C,(qw nm g o B).2=B++C:=by
 unfold qw
 cases z7 nm g.doc with
 |none=>exact ⟨[],by cases o<;>simp⟩
 |some d=>
  cases o with
  |none=>exact ⟨[],by simp⟩
  |some x=>
   by_cases h:zZ x d=[]
   ·exact ⟨[],by simp [h]⟩
   ·exact ⟨zZ x d,by simp [h]⟩
theorem z5x (nm:Str):∀(gs:List Gr) (o:Option Def) (B:List z4),∃C,(ya nm gs o B).2=B++C
 |[],o,B=>⟨[],by simp [ya]⟩
 |g::r,o,B=>by
  simp only [ya];obtain ⟨C,hC⟩:=zbL nm g o B;obtain ⟨E,hE⟩:=z5x nm r (qw nm g o B).1 (qw nm g o B).2
  exact ⟨C++E,by rw [hE,hC,w1g]⟩
theorem z1Q {nm:Str}:∀(gs:List Gr) (hv:∀g,g∈gs->∀d,z7 nm g.doc=some d->VD d/\d.name=nm) (ds:List Def) (x:Def),yG ds x->x.name=nm->
  ((ya nm gs (some x) []).2=[]↔(∀d,d∈ds->∀e,e∈Z8 nm gs->z2b d e)/\∀d,d∈Z8 nm gs->∀e,e∈Z8 nm gs->z2b d e)/\
  ((ya nm gs (some x) []).2=[]->∃L y,(ya nm gs (some x) []).1=some y/\yG L y/\y.name=nm/\∀d,d∈L↔d∈ds∨d∈Z8 nm gs)
 |[],_,ds,x,h,hx=>by
  refine ⟨by simp [ya,Z8],fun _=>⟨ds,x,rfl,h,hx,fun d=>by simp [Z8]⟩⟩
 |g::r,hv,ds,x,h,hx=>by
  have hv2:∀g,g∈r->∀d,z7 nm g.doc=some d->VD d/\d.name=nm:=fun y hy=>hv y (by simp [hy]);simp only [ya]
  cases hf:z7 nm g.doc with
  |none=>
   rw [wK hf]
   have e:Z8 nm (g::r)=Z8 nm r:=by simp [Z8,List.filterMap_cons,hf]
   rw [e];exact z1Q r hv2 ds x h hx
  |some d=>
   obtain ⟨vd,dn⟩:=hv g (by simp) d hf
   have e:Z8 nm (g::r)=d::Z8 nm r:=by simp [Z8,List.filterMap_cons,hf]
   rw [e];by_cases hb:zZ x d=[]
   ·rw [WR hf hb];obtain ⟨i1,i2⟩:=z1Q r hv2 (d::ds) (yQ x d) (h.join vd (dn.trans hx.symm) hb) hx;have hd:=(h.bad vd).1 hb;refine ⟨i1.trans ⟨?_,?_⟩,fun h0=>?_⟩
    ·rintro ⟨h1,h2⟩;refine ⟨fun a ha b hb=>?_,fun a ha b hb=>?_⟩
     ·rcases w0t.1 hb with rfl|hb
      ·exact hd a ha
      ·exact h1 a (by simp [ha]) b hb
     ·rcases w0t.1 ha with e1|ha2
      ·rcases w0t.1 hb with e2|hb2
       ·rw [e1,e2];exact z2b.refl _
       ·rw [e1];exact h1 d (by simp) b hb2
      ·rcases w0t.1 hb with e2|hb2
       ·rw [e2];exact (h1 d (by simp) a ha2).symm
       ·exact h2 a ha2 b hb2
    ·rintro ⟨h1,h2⟩;refine ⟨fun a ha b hb=>?_,fun a ha b hb=>h2 a (by simp [ha]) b (by simp [hb])⟩
     rcases w0t.1 ha with e1|ha2
     ·rw [e1];exact h2 d (by simp) b (w0k _ hb)
     ·exact h1 a ha2 b (w0k _ hb)
    ·obtain ⟨L,y,h1,h2,h3,h4⟩:=i2 h0;refine ⟨L,y,h1,h2,h3,fun a=>?_⟩;rw [h4];simp only [w0t];constructor
     ·rintro ((h|h)|h)
      ·exact .inr (.inl h)
      ·exact .inl h
      ·exact .inr (.inr h)
     ·rintro (h|h|h)
      ·exact .inl (.inr h)
      ·exact .inl (.inl h)
      ·exact .inr h
   ·rw [Ws hf hb];obtain ⟨C,hC⟩:=z5x nm r (some x) ([]++zZ x d)
    have hne:¬ (ya nm r (some x) ([]++zZ x d)).2=[]:=by
     rw [hC];simp [hb]
    refine ⟨⟨fun h0=>absurd h0 hne,fun h0=>absurd ((h.bad vd).2 fun a ha=>h0.1 a ha d (by simp)) hb⟩,fun h0=>absurd h0 hne⟩
theorem z53 {nm:Str}:∀(gs:List Gr) (hv:∀g,g∈gs->∀d,z7 nm g.doc=some d->VD d/\d.name=nm),Z8 nm gs≠[]->
  ((ya nm gs none []).2=[]↔∀d,d∈Z8 nm gs->∀e,e∈Z8 nm gs->z2b d e)/\
  ((ya nm gs none []).2=[]->∃L y,(ya nm gs none []).1=some y/\yG L y/\y.name=nm/\∀d,d∈L↔d∈Z8 nm gs)
 |[],_,h=>absurd rfl h
 |g::r,hv,h=>by
  have hv2:∀g,g∈r->∀d,z7 nm g.doc=some d->VD d/\d.name=nm:=fun y hy=>hv y (by simp [hy]);simp only [ya]
  cases hf:z7 nm g.doc with
  |none=>
   rw [wK hf]
   have e:Z8 nm (g::r)=Z8 nm r:=by simp [Z8,List.filterMap_cons,hf]
   rw [e] at h⊢;exact z53 r hv2 h
  |some d=>
   obtain ⟨vd,dn⟩:=hv g (by simp) d hf
   have e:Z8 nm (g::r)=d::Z8 nm r:=by simp [Z8,List.filterMap_cons,hf]
   rw [e,wR hf];obtain ⟨i1,i2⟩:=z1Q r hv2 [d] (zW d) (yG.one vd) dn;refine ⟨i1.trans ⟨?_,?_⟩,fun h0=>?_⟩
   ·rintro ⟨h1,h2⟩ a ha b hb;have h1:∀e,e∈Z8 nm r->z2b d e:=h1 d (by simp)
    rcases w0t.1 ha with e1|ha2
    ·rcases w0t.1 hb with e2|hb2
     ·rw [e1,e2];exact z2b.refl _
     ·rw [e1];exact h1 b hb2
    ·rcases w0t.1 hb with e2|hb2
     ·rw [e2];exact (h1 a ha2).symm
     ·exact h2 a ha2 b hb2
   ·intro h1;refine ⟨fun a ha b hb=>?_,fun a ha b hb=>h1 a (by simp [ha]) b (by simp [hb])⟩;rw [w1i.1 ha];exact h1 d (by simp) b (by simp [hb])
   ·obtain ⟨L,y,h1,h2,h3,h4⟩:=i2 h0;refine ⟨L,y,h1,h2,h3,fun a=>?_⟩;rw [h4];simp
theorem WE.hv {gs:List Gr} (h:WE gs) (nm:Str):∀g,g∈gs->∀d,z7 nm g.doc=some d->VD d/\d.name=nm:=fun g hg d hd=>⟨h.vd hg (YC hd),Q2 hd⟩
theorem z6P {gs:List Gr} (hG:WE gs) {nm:Str} (hne:Z8 nm gs≠[]):
  (tyB gs nm=[]↔∀d,d∈Z8 nm gs->∀e,e∈Z8 nm gs->z2b d e)/\(tyB gs nm=[]->∃L,yG L (tyD gs nm)/\(tyD gs nm).name=nm/\∀d,d∈L↔d∈Z8 nm gs):=by
 obtain ⟨h1,h2⟩:=z53 gs (hG.hv nm) hne;refine ⟨h1,fun h0=>?_⟩;obtain ⟨L,y,h3,h4,h5,h6⟩:=h2 h0
 have e:tyD gs nm=y:=by unfold tyD;rw [h3];rfl
 rw [e];exact ⟨L,h4,h5,h6⟩
theorem z9d {o:List Str} {n:Str} (h:o.Nodup):(z0e o n).Nodup:=by
 unfold z0e;split
 ·exact h
 ·exact yT h (by assumption)
theorem z2z {x:Str}:∀(l:List Def) (o:List Str),x∈Zr o l↔x∈o∨x∈l.map (·.name)
 |[],o=>by simp [Zr]
 |d::r,o=>by
  simp only [Zr];rw [z2z r,z7g];simp only [w0n,w0t];rw [or_assoc]
theorem z52:∀(l:List Def) (o:List Str),o.Nodup->(Zr o l).Nodup
 |[],o,h=>h
 |d::r,o,h=>by simp only [Zr];exact z52 r _ (z9d h)
theorem z2s {x:Str}:∀(l:List Gr) (o:List Str),x∈ZK o l↔x∈o∨∃g,g∈l/\x∈g.doc.map (·.name)
 |[],o=>by simp [ZK]
 |g::r,o=>by
  simp only [ZK];rw [z2s r,z2z];simp only [w0t,exists_eq_or_imp];rw [or_assoc]
theorem z5Z:∀(l:List Gr) (o:List Str),o.Nodup->(ZK o l).Nodup
 |[],o,h=>h
 |g::r,o,h=>by simp only [ZK];exact z5Z r _ (z52 _ _ h)
theorem z20 (gs:List Gr):(Zo gs).Nodup:=z5Z gs [] (by simp)
theorem z0H {gs:List Gr} {x:Str}:x∈Zo gs↔∃g,g∈gs/\x∈g.doc.map (·.name):=by
 unfold Zo;rw [z2s];simp
theorem z3o {n:Str}:∀{l:List Def},n∈l.map (·.name)->∃d,z7 n l=some d
 |[],h=>by simp at h
 |x::r,h=>by
  simp only [z7];by_cases hx:(x.name==n)=true
  ·rw [w0e hx];exact ⟨x,rfl⟩
  ·rw [w0g hx];simp only [w0n,w0t] at h
   rcases h with rfl|h
   ·simp at hx
   ·exact z3o h
theorem qM {gs:List Gr} {x:Str}:x∈Zo gs↔Z8 x gs≠[]:=by
 rw [z0H];constructor
 ·rintro ⟨g,hg,hx⟩ h0;obtain ⟨d,hd⟩:=z3o hx;have:d∈Z8 x gs:=Wp.2 ⟨g,hg,hd⟩;rw [h0] at this;cases this
 ·intro h0;obtain ⟨d,hd⟩:=List.exists_mem_of_ne_nil _ h0;obtain ⟨g,hg,hf⟩:=Wp.1 hd;exact ⟨g,hg,w0m.2 ⟨d,YC hf,Q2 hf⟩⟩
structure MG (gs:List Gr):Prop where
 few:WE gs
 b1:z1J gs=[]
theorem MG.ty {gs:List Gr} (h:MG gs) {nm:Str} (hn:nm∈Zo gs):∃L,yG L (tyD gs nm)/\(tyD gs nm).name=nm/\∀d,d∈L↔d∈Z8 nm gs:=by
 have hb:tyB gs nm=[]:=by
  have:=h.b1;unfold z1J at this;exact w2e.1 this nm hn
 exact (z6P h.few (qM.1 hn)).2 hb
theorem z5B {f:Str->Def} {n:Str}:∀{l:List Str},(∀x,x∈l->(f x).name=x)->z7 n (l.map f)=if n∈l then some (f n) else none
 |[],_=>rfl
 |x::r,h=>by
  simp only [w0n,z7];rw [z5B fun y hy=>h y (by simp [hy]),h x (by simp)];by_cases hx:x=n
  ·subst hx;simp
  ·rw [w0g (by simpa using hx)]
   have:(n∈x::r)↔n∈r:=by simp [Ne.symm hx]
   simp only [this]
theorem MG.find {gs:List Gr} (h:MG gs) (nm:Str):z7 nm (yv gs)=if nm∈Zo gs then some (tyD gs nm) else none:=by
 unfold yv;refine z5B fun x hx=>?_;obtain ⟨_,_,h2,_⟩:=h.ty hx;exact h2
theorem MG.of {gs:List Gr} (h:WE gs) (hb:Yt gs=[]):MG gs/\z0i gs (yv gs)=[]/\wm gs=yv gs:=by
 unfold Yt at hb;split at hb
 ·rename_i h1
  exact ⟨⟨h,h1⟩,hb,by unfold wm Yt;rw [w0e h1,w0e hb]⟩
 ·rename_i h1;exact absurd hb h1
theorem zc8 {gs:List Gr} (h:WE gs) (hb:Yt gs=[]) {g:Gr} (hg:g∈gs) {t:Def} (ht:t∈g.doc):
  ∃u,z7 t.name (wm gs)=some u/\u.kind=t.kind/\∀f,f∈t.fields->∃y,z5 f.name u.fields=some y/\z5V f.ty y.ty=true:=by
 obtain ⟨hM,_,e⟩:=MG.of h hb;have hf:=h.find hg ht;have hd:t∈Z8 t.name gs:=Wp.2 ⟨g,hg,hf⟩
 have hn:t.name∈Zo gs:=qM.2 fun h0=>by rw [h0] at hd;cases hd
 obtain ⟨L,hL,_,hm⟩:=hM.ty hn;have htL:=(hm t).2 hd
 refine ⟨tyD gs t.name,by rw [e,hM.find,w0e hn],(hL.kd t htL).symm,fun f hf=>?_⟩
 have hff:=ZB (h.vd hg ht).fu hf;have hmem:f∈z1V f.name L:=qA.2 ⟨t,htL,hff⟩
 cases hy:z5 f.name (tyD gs t.name).fields with
 |none=>rw [hL.f0 f.name hy] at hmem;cases hmem
 |some y=>exact ⟨y,rfl,(hL.fo f.name y hy).fits hmem⟩
end Go.GB.C24
