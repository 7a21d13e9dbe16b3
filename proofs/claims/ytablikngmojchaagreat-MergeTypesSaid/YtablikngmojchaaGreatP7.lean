/-
  YtablikngmojchaaGreatP7: lemmas. No conditions.
-/
import Derived.Test.YtablikngmojchaaGreatP6
import Derived.Test.YtablikngmojchaaGreatP4
import Derived.Test.YtablikngmojchaaGreatP5
set_option linter.all false
set_option maxRecDepth 100000
set_option maxHeartbeats 16000000
namespace Go.GB.C24
open Go.GB Go.GB.C11
variable {P:Program}
def yy (all:List Str) (nm:Str) (g:Gr):Bool:=
 match ze nm g.doc with
 |none=>true
 |some _=>decide ((Yg g.doc nm).length=all.length)&&(Yg g.doc nm).all fun s=>decide (s∈all)
def z45 (gs:List Gr) (ds:List Def) (nm:Str):Bool:=gs.all (yy (Yg ds nm) nm)
theorem zbU (H:zG P) (gs:List Gr) (hG:GL gs) (ds:List Def) (hD:Z2 ds) (nm:Str):z5 P 58 [.t (.lst (gs.map Gr.enc)),yY ds,.t (.str nm)] ⟨[],0⟩ {v:= .t (.bool (z45 gs ds nm))}:=by
 have hn:=hG.n;have hl:=Qr ds nm;have hdl:=hD.l;have g0:=qH H.p13.toPr ds hD nm;have e0:z45 gs ds nm=gs.all (yy (Yg ds nm) nm):=rfl;generalize z45 gs ds nm=tot at e0⊢;generalize Yg ds nm=all at e0 hl g0;refine z5.run H.i58 H.mixed Z Z ?_;refine fR Z ?_;refine Mid.call (g0) Z Z Z Z ?_;refine fM Z ?_;refine zn gs (fun i (_:Unit)=>{env:=[(0,.t (.lst (gs.map Gr.enc))),(2,.t (.str nm)),(7,.t (.lst (all.map sE))),(8,.t (.int .i64 i))],s:=⟨[],0⟩}) (fun r i _=>tot=r.all (yy all nm)) 0 () Z e0 Z Z Z ?_ ?_
 ·intro _ hT;refine fR Z ?_;refine lM Z Z Z ?_;refine fM Z ?_;refine Run.z9 Z Z (by simp) ?_;refine fR Z ?_;refine Run.fin Z (z3.go ?_);exact .t (by rw [hT];rfl)
 ·intro i g r _ h1 hi hdr hT ih;have hgm:=hG.g g (zMG h1)
  have hT:tot=(yy all nm g&&r.all (yy all nm)):=by rw [hT,List.all_cons]
  have hpl:=Qr g.doc nm;have hgl:=hgm.2.1;have g1:=qH H.p13.toPr g.doc hgm.1 nm;refine fR Z ?_;refine lM Z Z Z ?_;refine fM Z ?_;refine Run.zb Z Z (by simp;omega) ?_;refine fR Z ?_;refine Mid.z6 Z Z Z h1 Z Z ?_;refine fM Z ?_;refine Mid.call (yn H.p13.toPr g.doc hgm.1.l nm) Z Z Z Z ?_;refine fM Z ?_
  cases hf:ze nm g.doc with
  |none=>
   have e:yy all nm g=true:=by simp [yy,hf]
   refine Run.zb Z Z Z ?_;refine fR Z ?_;refine aL Z Z Z Z Z ?_;refine fM Z ?_;exact zd 0 Z (ih () (by rw [hT,e];rfl)) Z Z Z
  |some d=>
   have e:yy all nm g=(decide ((Yg g.doc nm).length=all.length)&&(Yg g.doc nm).all fun s=>decide (s∈all)):=by simp [yy,hf]
   generalize Yg g.doc nm=some_ at e hpl g1;refine Run.z9 Z Z Z ?_;refine fR Z ?_;refine Mid.z6 Z Z Z h1 Z Z ?_;refine fM Z ?_;refine Mid.call (g1) Z Z Z Z ?_;refine fM Z ?_;refine lM Z Z Z ?_;refine fM Z ?_;refine lM Z Z Z ?_;refine fM Z ?_;refine Run.cond Z Z (fun hc=>?_) (fun hc=>?_)
   ·have hne:¬ some_.length=all.length:=by simp at hc;omega
    refine fR Z ?_;refine Run.fin Z (z3.go ?_);exact .t (by rw [hT,e];simp [hne])
   ·have hne:some_.length=all.length:=by simp at hc;omega
    rw [show decide (some_.length=all.length)=true by simp [hne],w1b] at e
    refine fR Z ?_;refine zn some_ (fun k (_:Unit)=>{env:=[(0,.t (.lst (gs.map Gr.enc))),(2,.t (.str nm)),(7,.t (.lst (all.map sE))),(8,.t (.int .i64 i)),(11,.t (.lst (some_.map sE))),(12,.t (.int .i64 k))],s:=⟨[],0⟩}) (fun q k _=>yy all nm g=q.all fun s=>decide (s∈all)) 0 () Z e Z Z Z ?_ ?_
    ·intro _ hq;refine fR Z ?_;refine lM Z Z Z ?_;refine fM Z ?_;refine Run.z9 Z Z (by simp) ?_;refine fR Z ?_;refine aL Z Z Z Z Z ?_;refine fM Z ?_;exact zd 0 Z (ih () (by rw [hT,hq];rfl)) Z Z Z
    ·intro k s q _ h2 hk hdq hq ih2
     have hq:yy all nm g=(decide (s∈all)&&q.all fun s=>decide (s∈all)):=by rw [hq,List.all_cons]
     refine fR Z ?_;refine lM Z Z Z ?_;refine fM Z ?_;refine Run.zb Z Z (by simp;omega) ?_;refine fR Z ?_;refine Mid.z6 Z Z Z h2 Z Z ?_;refine fM Z ?_;refine Mid.call (z1l H all (by omega) s) Z Z Z Z ?_;refine fM Z ?_;refine Run.cond Z Z (fun hc=>?_) (fun hc=>?_)
     ·have hs:decide (s∈all)=false:=by simpa using hc
      refine fR Z ?_;refine Run.fin Z (z3.go ?_);exact .t (by rw [hT,hq,hs];rfl)
     ·have hs:decide (s∈all)=true:=by simpa using hc
      refine fR Z ?_;refine aL Z Z Z Z Z ?_;refine fM Z ?_;exact zd 0 Z (ih2 () (by rw [hq,hs];rfl)) Z Z Z
def yI (d:Def):Bool:=((decide ((d.implements.length:Int)>64)||decide ((d.fields.length:Int)>64))||decide ((d.zg.length:Int)>16))||((d.fields.any fun f=>decide ((f.zg.length:Int)>16))||d.members.any fun x=>decide ((x.zg.length:Int)>16))
theorem zcY (H:zG P) (d:Def) (hd:d.Ok):z5 P 59 [d.v] ⟨[],0⟩ {v:= .t (.bool (yI d))}:=by
 have h1:=hd.fl;have h2:=hd.ml;refine z5.run H.i59 H.mixed Z Z ?_;refine fR Z ?_;refine lM Z Z Z ?_;refine fM Z ?_;refine lMG Z Z Z Z ?_;refine fM Z ?_;refine lMG Z Z Z Z ?_;refine fM Z ?_;refine zn d.fields (fun i (B:Bool)=>{env:=[(1,.ptr 0 0),(3,.t (.bool B)),(4,.t (.int .i64 i))],s:=⟨[(0,(TCo d))],1⟩}) (fun r i B=>yI d=(B||((r.any fun f=>decide ((f.zg.length:Int)>16))||d.members.any fun x=>decide ((x.zg.length:Int)>16)))) 1 ((decide ((d.implements.length:Int)>64)||decide ((d.fields.length:Int)>64))||decide ((d.zg.length:Int)>16)) Z Z Z Z Z ?_ ?_
 ·intro B hB;refine fR Z ?_;refine lM Z Z Z ?_;refine fM Z ?_;refine Run.z9 Z Z (by simp) ?_;refine fR Z ?_;refine zn d.members (fun i (B:Bool)=>{env:=[(1,.ptr 0 0),(3,.t (.bool B)),(5,.t (.int .i64 i))],s:=⟨[(0,(TCo d))],1⟩}) (fun r i B=>yI d=(B||r.any fun x=>decide ((x.zg.length:Int)>16))) 1 B Z (by rw [hB];rfl) Z Z Z ?_ ?_
  ·intro C hC;refine fR Z ?_;refine lM Z Z Z ?_;refine fM Z ?_;refine Run.z9 Z Z (by simp) ?_;refine fR Z ?_;refine Run.fin Z (z3.go ?_);exact .t (by rw [hC];simp)
  ·intro i x r C h1 hi hdr hC ih;refine fR Z ?_;refine lM Z Z Z ?_;refine fM Z ?_;refine Run.zb Z Z (by simp;omega) ?_;refine fR Z ?_;refine elG Z Z Z Z h1 Z Z ?_;refine fM Z ?_;refine lMG Z Z Z Z ?_;refine fM Z ?_;refine aL Z Z Z Z Z ?_;refine fM Z ?_;exact zd 1 Z (ih (C||decide ((x.zg.length:Int)>16)) (by rw [hC,w1d,Bool.or_assoc])) Z Z Z
 ·intro i x r B h1 hi hdr hB ih;refine fR Z ?_;refine lM Z Z Z ?_;refine fM Z ?_;refine Run.zb Z Z (by simp;omega) ?_;refine fR Z ?_;refine elG Z Z Z Z h1 Z Z ?_;refine fM Z ?_;refine lMG Z Z Z Z ?_;refine fM Z ?_;refine aL Z Z Z Z Z ?_;refine fM Z ?_;exact zd 1 Z (ih (B||decide ((x.zg.length:Int)>16)) (by rw [hB,w1d];simp [Bool.or_assoc])) Z Z Z
def QR (gs:List Gr) (ds:List Def) (d:Def):Bool:=d.kind==2&&!z45 gs ds d.name
def z2L (gs:List Gr) (ds:List Def):List z4:=
 zm (QR gs ds) (fun d=>⟨45,d.name⟩) ds++(one (decide ((ds.length:Int)>64)) ⟨4,[]⟩++zm yI (fun d=>⟨4,d.name⟩) ds)
def WK (gs:List Gr):List Def:=(yt gs).map (tyD gs)
def z0G (gs:List Gr):List z4:=(yt gs).flatMap (tyB gs)
def Q5 (gs:List Gr):List z4:=if z0G gs=[] then z2L gs (WK gs) else z0G gs
def z3r (gs:List Gr):List Def:=if Q5 gs=[] then WK gs else []
theorem z0v (gs:List Gr) (ds:List Def):(z2L gs ds).length<=2*ds.length+1:=by
 have h1:=Zp (QR gs ds) (fun d=>⟨45,d.name⟩) ds;have h2:=Wv (decide ((ds.length:Int)>64)) ⟨4,[]⟩;have h3:=Zp yI (fun d=>⟨4,d.name⟩) ds;simp only [z2L,w03];omega
theorem zcl {gs:List Gr} (hG:GL gs) (nm:Str):DB 900 (tyD gs nm)/\(tyB gs nm).length<=24000000:=
 z3q nm gs 0 none [] (fun g hg=>(hG.g g hg).2.2) (by have:=hG.n;omega) (DB.zero _) (by simp)
theorem z3k {gs:List Gr} (hG:GL gs):(z0G gs).length<=12288000000:=by
 have h1:=zQ (l:=yt gs) (g:=tyB gs) (k:=24000000) fun x _=>(zcl hG x).2;have h2:=z0b hG;have:(yt gs).length*24000000<=512*24000000:=w0s _ h2;unfold z0G;omega
theorem z0w {gs:List Gr} (hG:GL gs):(WK gs).length<=512:=by
 unfold WK;rw [w0r];exact z0b hG
theorem zaN {gs:List Gr} (hG:GL gs):∀d,d∈WK gs->DB 900 d:=fun d hd=>by
 obtain ⟨n,_,rfl⟩:=w0m.1 hd;exact (zcl hG n).1
theorem z5j {gs:List Gr} (hG:GL gs):Z2 (WK gs):=by
 have:=z0w hG
 exact ⟨by omega,fun d hd=>(zaN hG d hd).ok,by omega⟩
theorem z9q (H:zG P) (gs:List Gr) (hG:GL gs):z5 P 20 [.t (.lst (gs.map Gr.enc))] ⟨[],0⟩ {v:= .tup [yY (z3r gs),.t (.lst ((Q5 gs).map z4.enc))]}:=by
 have hn:=hG.n;have hnl:=z0b hG;have hb1:=z3k hG;have hdl:=z0w hG;have hdk:=z5j hG;have hdb:=zaN hG;have hb2:=z0v gs (WK gs);have g0:=Q7 H gs hG;have e1:(yt gs).flatMap (tyB gs)=z0G gs:=rfl;have e2:(yt gs).map (tyD gs)=WK gs:=rfl;generalize yt gs=N at g0 e1 e2 hnl;have hT:Q5 gs=if z0G gs=[] then z2L gs (WK gs) else z0G gs:=rfl;have hU:z3r gs=if Q5 gs=[] then WK gs else []:=rfl;generalize Q5 gs=T0 at hT hU⊢;generalize z3r gs=U0 at hU⊢;refine z5.run H.i20 H.mixed Z Z ?_;refine fR Z ?_;refine Mid.call (g0) Z Z Z Z ?_;refine fM Z ?_;refine zn N (fun i (q:List Def×List z4)=>{env:=[(0,.t (.lst (gs.map Gr.enc))),(2,.ptr 0 0),(4,.ptr 1 0),(5,.own 3 2 (q.2.map z4.enc)),(6,.t (.lst (N.map sE))),(7,.t (.int .i64 i))],s:=⟨[(0,.cells [.zp]),(1,.cells [.own 2 7 (q.1.map Def.enc)]),(2,.arr q.1.length),(3,.arr q.2.length)],4⟩}) (fun r i q=>q.1++r.map (tyD gs)=WK gs/\q.2++r.flatMap (tyB gs)=z0G gs) 2 ([],[]) Z ⟨e2,e1⟩ Z Z Z ?_ ?_
 ·rintro ⟨D,B⟩ ⟨hD,hB⟩;dsimp only at hD hB⊢
  have hD2:WK gs=D:=by simpa using hD.symm
  have hB2:z0G gs=B:=by simpa using hB.symm
  rw [hD2,hB2] at hT;rw [hD2] at hU hdl hdk hdb hb2;rw [hB2] at hb1;refine fR Z ?_;refine lM Z Z Z ?_;refine fM Z ?_;refine Run.z9 Z Z (by simp) ?_;refine fR Z ?_;refine lM Z Z Z ?_;refine fM Z ?_;refine Run.cond Z Z (fun hc=>?_) (fun hc=>?_)
  ·have hne:B≠[]:=by rintro rfl;simp at hc
   rw [w0g hne] at hT;rw [hT,w0g hne] at hU;rw [hT,hU];refine fR Z ?_;refine Run.fin Z (z3.go ?_);exact .ZG (.agg (.cons (.nil Z) .nil)) (.own Z)
  ·have hne:B=[]:=by
    cases B with
    |nil=>rfl
    |cons a b=>simp at hc
   rw [w0e hne] at hT;subst hne;have e0:z2L gs D=zm (QR gs D) (fun d=>⟨45,d.name⟩) D++(one (decide ((D.length:Int)>64)) ⟨4,[]⟩++zm yI (fun d=>⟨4,d.name⟩) D):=rfl;rw [hT] at hU⊢;generalize z2L gs D=tot at e0 hb2 hU⊢;refine fR Z ?_;refine zn D (fun i (B:List z4)=>{env:=[(0,.t (.lst (gs.map Gr.enc))),(2,.ptr 0 0),(4,.ptr 1 0),(5,.own 3 2 (B.map z4.enc)),(10,.t (.int .i64 i))],s:=⟨[(0,.cells [.zp]),(1,.cells [.t (.lst (D.map Def.enc))]),(3,.arr B.length)],4⟩}) (fun r i B=>B++(zm (QR gs D) (fun d=>⟨45,d.name⟩) r++(one (decide ((D.length:Int)>64)) ⟨4,[]⟩++zm yI (fun d=>⟨4,d.name⟩) D))=tot) 4 [] Z e0.symm Z Z Z ?_ ?_
   ·intro B hB
    have hB:B++(one (decide ((D.length:Int)>64)) ⟨4,[]⟩++zm yI (fun d=>⟨4,d.name⟩) D)=tot:=by simpa [zm] using hB
    have hBl:B.length<=2000:=by have:=congrArg List.length hB;simp only [w03] at this;omega
    refine fR Z ?_;refine lM Z Z Z ?_;refine fM Z ?_;refine Run.z9 Z Z (by simp) ?_;refine fR Z ?_;refine lM Z Z Z ?_;refine fM Z ?_;refine Run.z6Z (fun B:List z4=>{env:=[(2,.ptr 0 0),(4,.ptr 1 0),(5,.own 3 2 (B.map z4.enc))],s:=⟨[(0,.cells [.zp]),(1,.cells [.t (.lst (D.map Def.enc))]),(3,.arr B.length)],4⟩}) (fun B=>B++zm yI (fun d=>⟨4,d.name⟩) D=tot) Z Z Z ?_ ?_ ?_
    ·intro B hB;refine fR Z ?_;refine zn D (fun i (B:List z4)=>{env:=[(2,.ptr 0 0),(4,.ptr 1 0),(5,.own 3 2 (B.map z4.enc)),(11,.t (.int .i64 i))],s:=⟨[(0,.cells [.zp]),(1,.cells [.t (.lst (D.map Def.enc))]),(3,.arr B.length)],4⟩}) (fun r i B=>B++zm yI (fun d=>⟨4,d.name⟩) r=tot) 4 B Z hB Z Z Z ?_ ?_
     ·intro B hB
      have hB2:B=tot:=by simpa [zm] using hB
      rw [hB2];refine fR Z ?_;refine lM Z Z Z ?_;refine fM Z ?_;refine Run.z9 Z Z (by simp) ?_;refine fR Z ?_;refine lM Z Z Z ?_;refine fM Z ?_;refine Run.cond Z Z (fun hc=>?_) (fun hc=>?_)
      ·have hne:tot≠[]:=by rintro rfl;simp at hc
       rw [w0g hne] at hU;rw [hU];refine fR Z ?_;refine Run.fin Z (z3.go ?_);exact .ZG (.agg (.cons (.nil Z) .nil)) (.own Z)
      ·have hne:tot=[]:=by
        cases tot with
        |nil=>rfl
        |cons a b=>simp at hc
       rw [w0e hne] at hU;rw [hU,hne];refine fR Z ?_;refine Run.fin Z (z3.go ?_);exact .ZG (.agg (.cons (.t Z) .nil)) (.nil Z)
     ·intro i d r B h1 hi hdr hB ih
      have hB:B++(one (yI d) ⟨4,d.name⟩++zm yI (fun d=>⟨4,d.name⟩) r)=tot:=by rw [←hB];simp [zm]
      have hBl:B.length<=2000:=by have:=congrArg List.length hB;simp only [w03] at this;omega
      have hdd:=hdb d (zMG h1);refine fR Z ?_;refine lM Z Z Z ?_;refine fM Z ?_;refine Run.zb Z Z (by simp;omega) ?_;refine fR Z ?_;refine Mid.z6 Z Z Z h1 Z Z ?_;refine fM Z ?_;refine Mid.call (zcY H d hdd.ok) Z Z Z Z ?_;refine fM Z ?_;refine Run.cond Z Z (fun hc=>?_) (fun hc=>?_)
      ·rw [hc,Y5] at hB;refine fR Z ?_;refine Mid.z6 Z Z Z h1 Z Z ?_;refine fM Z ?_;refine Mid.call (Zo H 4 d.name) Z Z Z Z ?_;refine fM Z ?_;refine apM z4.enc B [(⟨4,d.name⟩:z4)] Z Z Z Z Z ?_ (h1:=by first |omega|(simp;omega)|(simp;done)) (h2:=by first |omega|(simp;omega)|(simp;done));refine fM rfl ?_;refine aL rfl rfl rfl rfl rfl ?_;refine fM rfl ?_;exact zd 4 rfl (ih (B++[⟨4,d.name⟩]) (by rw [←hB];simp)) rfl rfl rfl
      ·rw [hc,Yl,w0u] at hB;refine fR Z ?_;refine aL Z Z Z Z Z ?_;refine fM Z ?_;exact zd 4 Z (ih B hB) Z Z Z
    ·intro hc ih;rw [hc,Y5] at hB;refine fR Z ?_;refine Mid.call (Zo H 4 []) Z Z Z Z ?_;refine fM Z ?_;refine apM z4.enc B [(⟨4,[]⟩:z4)] Z Z Z Z Z ?_ (h1:=by first |omega|(simp;omega)|(simp;done)) (h2:=by first |omega|(simp;omega)|(simp;done));refine Mid.Wn (f:=1) rfl trivial ?_;refine Mid.WM rfl ?_;exact ZD 4 rfl (ih (B++[⟨4,[]⟩]) (by rw [←hB];simp)) rfl rfl rfl
    ·intro hc ih;rw [hc,Yl,w0u] at hB;exact ZD 4 Z (ih B hB) Z Z Z
   ·intro i d r B h1 hi hdr hB ih
    have hB:B++(one (QR gs D d) ⟨45,d.name⟩++(zm (QR gs D) (fun d=>⟨45,d.name⟩) r++(one (decide ((D.length:Int)>64)) ⟨4,[]⟩++zm yI (fun d=>⟨4,d.name⟩) D)))=tot:=by rw [←hB];simp [zm]
    have hBl:B.length<=2000:=by have:=congrArg List.length hB;simp only [w03] at this;omega
    refine fR Z ?_;refine lM Z Z Z ?_;refine fM Z ?_;refine Run.zb Z Z (by simp;omega) ?_;refine fR Z ?_;refine Mid.z6 Z Z Z h1 Z Z ?_;refine fM Z ?_;refine elG Z Z Z Z h1 Z Z ?_;refine fM Z ?_;refine caG Z Z (fun hg=>⟨_,rfl,zbU H gs hG D hdk d.name,rfl⟩) Z Z ?_;refine fM Z ?_;refine Run.cond Z Z (fun hc=>?_) (fun hc=>?_)
    ·rw [show QR gs D d=true from hc,Y5] at hB;refine fR Z ?_;refine Mid.z6 Z Z Z h1 Z Z ?_;refine fM Z ?_;refine Mid.call (Zo H 45 d.name) Z Z Z Z ?_;refine fM Z ?_;refine apM z4.enc B [(⟨45,d.name⟩:z4)] Z Z Z Z Z ?_ (h1:=by first |omega|(simp;omega)|(simp;done)) (h2:=by first |omega|(simp;omega)|(simp;done));refine fM rfl ?_;refine aL rfl rfl rfl rfl rfl ?_;refine fM rfl ?_;exact zd 4 rfl (ih (B++[⟨45,d.name⟩]) (by rw [←hB];simp)) rfl rfl rfl
    ·rw [show QR gs D d=false from hc,Yl,w0u] at hB;refine fR Z ?_;refine aL Z Z Z Z Z ?_;refine fM Z ?_;exact zd 4 Z (ih B hB) Z Z Z
 ·rintro i nm r ⟨D,B⟩ h1 hi hdr ⟨hD,hB⟩ ih;dsimp only at hD hB⊢;have hD:D++(tyD gs nm::r.map (tyD gs))=WK gs:=hD
  have hB:B++(tyB gs nm++r.flatMap (tyB gs))=z0G gs:=by rw [←hB];simp
  have hDl:D.length<=512:=by have:=congrArg List.length hD;simp only [w03] at this;omega
  have hBl:B.length+(tyB gs nm).length<=12288000000:=by have:=congrArg List.length hB;simp only [w03] at this;omega
  refine fR Z ?_;refine lM Z Z Z ?_;refine fM Z ?_;refine Run.zb Z Z (by simp;omega) ?_;refine fR Z ?_;refine Mid.z6 Z Z Z h1 Z Z ?_;refine fM Z ?_;refine Mid.call (ze5 H gs hG nm) Z Z Z Z ?_;refine fM Z ?_;refine apM Def.enc D [tyD gs nm] Z Z Z Z Z ?_ (h1:=by first |omega|(simp;omega)|(simp;done)) (h2:=by first |omega|(simp;omega)|(simp;done));refine fM rfl ?_;refine apM z4.enc B (tyB gs nm) rfl rfl rfl rfl rfl ?_ (h1:=by first |omega|(simp;omega)|(simp;done)) (h2:=by first |omega|(simp;omega)|(simp;done));refine fM rfl ?_;refine aL rfl rfl rfl rfl rfl ?_;refine fM rfl ?_;exact zd 4 rfl (ih (D++[tyD gs nm],B++tyB gs nm) ⟨by show (D++[tyD gs nm])++r.map (tyD gs)=_;rw [←hD];simp,by show (B++tyB gs nm)++r.flatMap (tyB gs)=_;rw [←hB];simp⟩) rfl rfl rfl
end Go.GB.C24
namespace Go.GB.C24
open Go.GB Go.GB.C11
mutual
def cn:Val->Val
 | .mk k i t its ks=> .mk k i t (cns its) ((List.range its.length).map (C35.Yn ks))
def cns:List Val->List Val
 |[]=>[]
 |x::r=>cn x::cns r
end
theorem z4Y:∀l:List Val,(cns l).length=l.length
 |[]=>rfl
 |x::r=>by simp [cns,z4Y r]
theorem zdz (a:Val):cn a= .mk a.kind a.int a.text (cns a.items) ((List.range a.items.length).map (C35.Yn a.keys)):=by
 cases a;rfl
theorem zbG:∀k:Nat,(∀a b:Val,SizeOf.sizeOf a<=k->(C35.QS C35.z4D a b=0↔cn a=cn b))/\
  ∀(l m:List Val) (ka kb:List Str) (j:Nat) (z:Int),SizeOf.sizeOf l<=k->(z=0↔l.length=m.length)->(C35.Y4 C35.z4D l m ka kb j z=0↔cns l=cns m/\∀i,i<l.length->C35.Yn ka (j+i)=C35.Yn kb (j+i))
 |0=>⟨fun a b h=>by cases a;simp at h,fun l m ka kb j z h=>by cases l<;>simp at h⟩
 |k+1=>by
  have ih:=zbG k;refine ⟨fun a b h=>?_,fun l m ka kb j z h hz=>?_⟩
  ·have h2:=ih.2 a.items b.items a.keys b.keys 0 (C35.wy a.items.length b.items.length) (by cases a;simp only [Val.items];simp only [Val.mk.sizeOf_spec] at h;omega) (by rw [C35.wU];omega);rw [C35.z0P,zdz,zdz];simp only [C35.nz,h2,C35.wU,C35.z0k,Val.mk.injEq];constructor
   ·rintro ⟨h1,h3,h4,h5,h6⟩
    have hl:a.items.length=b.items.length:=by have:=congrArg List.length h5;simpa [z4Y] using this
    refine ⟨h1,h3,h4,h5,?_⟩;rw [←hl]
    exact w2d fun i hi=>by have:=h6 i (w20.1 hi);simpa using this
   ·rintro ⟨h1,h3,h4,h5,h6⟩
    have hl:a.items.length=b.items.length:=by have:=congrArg List.length h5;simpa [z4Y] using this
    refine ⟨h1,h3,h4,h5,fun i hi=>?_⟩;rw [←hl] at h6;have:=List.map_inj_left.1 h6 i (w20.2 hi);simpa using this
  ·cases l with
   |nil=>
    cases m with
    |nil=>simpa [C35.Y4,cns] using hz
    |cons y s=>simpa [C35.Y4,cns] using hz
   |cons x r=>
    cases m with
    |nil=>simpa [C35.Y4,cns] using hz
    |cons y s=>
     have h1:=ih.1 x y (by simp only [List.cons.sizeOf_spec] at h;omega);have h2:=ih.2 r s ka kb (j+1) z (by simp only [List.cons.sizeOf_spec] at h;omega) (by rw [hz];simp);simp only [C35.Y4,C35.nz,h1,h2,C35.z0k,cns,List.cons.injEq];constructor
     ·rintro ⟨e1,e2,e3,e4⟩;refine ⟨⟨e2,e3⟩,fun i hi=>?_⟩
      cases i with
      |zero=>exact e1
      |succ i=>rw [show j+(i+1)=j+1+i by omega];exact e4 i (by simpa using hi)
     ·rintro ⟨⟨e2,e3⟩,e4⟩
      exact ⟨by simpa using e4 0 (by simp),e2,e3,fun i hi=>by rw [show j+1+i=j+(i+1) by omega];exact e4 (i+1) (by simpa using hi)⟩
theorem z6H (a b:Val):C35.z1H a b=true↔cn a=cn b:=by
 unfold C35.z1H;rw [decide_eq_true_iff];exact (zbG _).1 a b (w09 _)
def cnA (a:Arg):Arg:=⟨a.name,cn a.val⟩
def cnD (d:Dir):Dir:=⟨d.name,d.args.map cnA⟩
def cnM (m:zh):zh:=⟨m.name,m.zg.map cnD⟩
def cnI (x:Input):Input:=⟨x.name,x.ty,x.has,cn x.YJ,x.zg.map cnD⟩
def cnL (x:Input):Ref×Bool×Val:=(x.ty,x.has,cn x.YJ)
theorem Wh {α β:Type} {p:α->α->Bool} {f:α->β} (h:∀a b,p a b=true↔f a=f b):∀a b:List α,ZE p a b=true↔a.map f=b.map f
 |[],[]=>by simp [ZE]
 |[],b::s=>by simp [ZE]
 |a::r,[]=>by simp [ZE]
 |a::r,b::s=>by
  simp only [ZE,w07,w0n,List.cons.injEq,h a b,Wh h r s]
theorem zez (a b:Arg):eqA a b=true↔cnA a=cnA b:=by
 simp [eqA,cnA,z6H]
theorem z1E (a b:Dir):eqD a b=true↔cnD a=cnD b:=by
 simp [eqD,cnD,Wh zez]
theorem zeo (a b:zh):eqM a b=true↔cnM a=cnM b:=by
 simp [eqM,cnM,Wh z1E]
theorem z3z (a b:Input):alike a b=true↔cnL a=cnL b:=by
 simp [alike,cnL,z6H,QM,and_assoc]
theorem zee (a b:Input):eqI a b=true↔cnI a=cnI b:=by
 have h:=z3z a b;simp only [cnL,w05] at h;simp only [eqI,cnI,w07,beq_iff_eq,h,Wh z1E,Input.mk.injEq];constructor
 ·rintro ⟨⟨h1,h2,h3,h4⟩,h5⟩;exact ⟨h1,h2,h3,h4,h5⟩
 ·rintro ⟨h1,h2,h3,h4,h5⟩;exact ⟨⟨h1,h2,h3,h4⟩,h5⟩
theorem Yb (a b:Dir):eqD a b=eqD b a:=by
 rw [w1n,z1E,z1E];exact eq_comm
theorem z3g (a b:Input):alike a b=alike b a:=by
 rw [w1n,z3z,z3z];exact eq_comm
end Go.GB.C24
namespace Go.GB.C24
open Go.GB Go.GB.C11
variable {P:Program}
theorem z3b (H:zG P) (a:List Dir) (ha:a.length<=140737488355328) (hao:∀x,x∈a->x.Ok):z5 P 52 [.t (.lst (a.map Dir.enc)),.t (.lst (a.map Dir.enc))] ⟨[],0⟩ {v:= .t (.bool true)}:=by
 have:=Qw H a a ha ha hao hao
 rwa [(Wh z1E a a).2 rfl] at this
theorem z0T (H:zG P) (a:List Input) (ha:a.length<=140737488355328) (hao:∀x,x∈a->x.Ok):z5 P 54 [.t (.lst (a.map Input.enc)),.t (.lst (a.map Input.enc))] ⟨[],0⟩ {v:= .t (.bool true)}:=by
 have:=z3L H a a ha ha hao hao
 rwa [(Wh zee a a).2 rfl] at this
theorem z3H (H:zG P) (a:List zh) (ha:a.length<=140737488355328) (hao:∀x,x∈a->x.Ok):z5 P 55 [.t (.lst (a.map zh.enc)),.t (.lst (a.map zh.enc))] ⟨[],0⟩ {v:= .t (.bool true)}:=by
 have:=z2N H a a ha ha hao hao
 rwa [(Wh zeo a a).2 rfl] at this
theorem z9L (H:zG P) (a:Ref) (ha:a.Ok):z5 P 53 [a.v,a.v] ⟨[],0⟩ {v:= .t (.bool true)}:=by
 have:=Wr H.p13 a a ha ha
 rwa [QM.2 rfl] at this
theorem z9b (H:zG P) (a:List Str) (ha:a.length<=140737488355328):z5 P 51 [.t (.lst (a.map sE)),.t (.lst (a.map sE))] ⟨[],0⟩ {v:= .t (.bool true)}:=by
 have:=qt H.p13.toPr a a ha ha
 rwa [show decide (a=a)=true by simp] at this
theorem QO (H:zG P) (a:Def) (ha:a.Ok):z5 P 19 [a.v,a.v] ⟨[],0⟩ {v:= .t (.bool true)}:=by
 have hfl:=ha.fl;refine z5.run H.i19 H.mixed Z Z ?_;refine fR Z ?_;refine caG Z Z (fun hg=>⟨_,rfl,z9b H a.implements ha.il,rfl⟩) Z Z ?_;refine fM Z ?_;refine caG Z Z (fun hg=>⟨_,rfl,z3b H a.zg ha.dl ha.d,rfl⟩) Z Z ?_;refine fM Z ?_;refine lMG Z Z Z Z ?_;refine fM Z ?_;refine lMG Z Z Z Z ?_;refine fM Z ?_;refine Run.z9 Z Z (by simp) ?_;refine fR Z ?_;refine zn a.fields (fun i (_:Unit)=>{env:=[(2,.ptr 0 0),(3,.ptr 1 0),(5,.t (.int .i64 i))],s:=⟨[(0,(TCo a)),(1,(TCo a))],2⟩}) (fun r i _=>True) 2 () Z trivial Z Z Z ?_ ?_
 ·intro _ _;refine fR Z ?_;refine lM Z Z Z ?_;refine fM Z ?_;refine Run.z9 Z Z (by simp) ?_;refine fR Z ?_;refine Mid.call (z3H H a.members ha.ml ha.m) Z Z Z Z ?_;refine fM Z ?_;refine caG Z Z (fun hg=>⟨_,rfl,z0T H a.zi ha.nl ha.n,rfl⟩) Z Z ?_;refine fM Z ?_;refine Run.fin Z (z3.go ?_);exact .t Z
 ·intro i x r _ h1 hi hdr _ ih;have hx:=ha.f x (zMG h1);refine fR Z ?_;refine lM Z Z Z ?_;refine fM Z ?_;refine Run.zb Z Z (by simp;omega) ?_;refine fR Z ?_;refine Mid.z6 Z Z Z h1 Z Z ?_;refine fM Z ?_;refine Mid.z6 Z Z Z h1 Z Z ?_;refine fM Z ?_;refine caG Z Z (fun hg=>⟨_,rfl,z9L H x.ty hx.t,rfl⟩) Z Z ?_;refine fM Z ?_;refine caG Z Z (fun hg=>⟨_,rfl,z0T H x.args hx.al hx.a,rfl⟩) Z Z ?_;refine fM Z ?_;refine caG Z Z (fun hg=>⟨_,rfl,z3b H x.zg hx.l hx.d,rfl⟩) Z Z ?_;refine fM Z ?_;refine Run.z9 Z Z (by simp) ?_;refine fR Z ?_;refine aL Z Z Z Z Z ?_;refine fM Z ?_;exact zd 2 Z (ih () trivial) Z Z Z
theorem zdT (H:zG P) (ds:List Def) (hD:Z2 ds):z5 P 11 [yY ds,yY ds] ⟨[],0⟩ {v:= .t (.bool true)}:=by
 have hl:=hD.l;refine z5.run H.i11 H.mixed Z Z ?_;refine fR Z ?_;refine lM Z Z Z ?_;refine fM Z ?_;refine lM Z Z Z ?_;refine fM Z ?_;refine Run.z9 Z Z (by simp) ?_;refine fR Z ?_;refine zn ds (fun i (_:Unit)=>{env:=[(2,.ptr 0 0),(3,.ptr 1 0),(5,.t (.int .i64 i))],s:=⟨[(0,.cells [.t (.lst (ds.map Def.enc))]),(1,.cells [.t (.lst (ds.map Def.enc))])],2⟩}) (fun r i _=>True) 2 () Z trivial Z Z Z ?_ ?_
 ·intro _ _;refine fR Z ?_;refine lM Z Z Z ?_;refine fM Z ?_;refine Run.z9 Z Z (by simp) ?_;refine fR Z ?_;refine Run.fin Z (z3.go ?_);exact .t Z
 ·intro i x r _ h1 hi hdr _ ih;have hx:=hD.d x (zMG h1);refine fR Z ?_;refine lM Z Z Z ?_;refine fM Z ?_;refine Run.zb Z Z (by simp;omega) ?_;refine fR Z ?_;refine Mid.z6 Z Z Z h1 Z Z ?_;refine fM Z ?_;refine Mid.z6 Z Z Z h1 Z Z ?_;refine fM Z ?_;refine Mid.call (QO H x hx) Z Z Z Z ?_;refine fM Z ?_;refine Run.z9 Z Z Z ?_;refine fR Z ?_;refine aL Z Z Z Z Z ?_;refine fM Z ?_;exact zd 2 Z (ih () trivial) Z Z Z
end Go.GB.C24
namespace Go.GB.C24
open Go.GB Go.GB.C11
variable {P:Program}
theorem zcZ (H:zG P) (a b:Arg) (ha:a.Ok) (hb:b.Ok):z5 P 162 [a.v,b.v] ⟨[],0⟩ {v:= .t (.bool (eqA a b))}:=by
 have h:=C35.z6V H.p35 a.val b.val ha hb;refine z5.run H.i162 H.mixed Z Z ?_;refine fR Z ?_;refine caG Z Z (fun hg=>⟨_,rfl,h,rfl⟩) Z Z ?_;refine fM Z ?_;refine Run.fin Z (z3.go ?_);exact .t (by simp [eqA])
theorem z80 (H:zG P) (a b:List Arg) (ha:a.length<=140737488355328) (hb:b.length<=140737488355328) (hao:∀x,x∈a->x.Ok) (hbo:∀x,x∈b->x.Ok):z5 P 161 [.t (.lst (a.map Arg.enc)),.t (.lst (b.map Arg.enc)),.t (.fn 162)] ⟨[],0⟩ {v:= .t (.bool (ZE eqA a b))}:=by
 refine z5.run H.i161 H.mixed Z Z ?_;refine fR Z ?_;refine lM Z Z Z ?_;refine fM Z ?_;refine lM Z Z Z ?_;refine fM Z ?_;refine Run.cond Z Z (fun h=>?_) (fun h=>?_)
 ·have h':¬ a.length=b.length:=by simp at h;omega
  refine fR Z ?_;refine Run.fin Z (z3.go ?_);exact .t (by rw [z0Y h'])
 ·have h':a.length=b.length:=by simp at h;omega
  refine fR Z ?_;refine lM Z Z Z ?_;refine fM Z ?_;refine zn a (fun i (_:Unit)=>{env:=[(1,.t (.lst (b.map Arg.enc))),(2,.t (.fn 162)),(15,.t (.lst (a.map Arg.enc))),(16,.t (.int .i64 a.length)),(17,.t (.int .i64 i))],s:=⟨[],0⟩}) (fun r i _=>ZE eqA a b=ZE eqA r (b.drop i)) 0 () Z (by simp) Z Z Z ?_ ?_
  ·intro _ hinv;refine fR Z ?_;refine Run.z9 Z Z (by simp) ?_;refine fR Z ?_;refine Run.fin Z (z3.go ?_);exact .t (by rw [hinv,w1m (by omega)];rfl)
  ·intro i x r _ h1 hi hd hinv ih;obtain ⟨y,hy⟩:=yV h' hi;have hxo:=hao x (zMG h1);have hyo:=hbo y (zMG hy);have hinv':ZE eqA a b=ZE eqA (x::r) (b.drop i):=hinv;rw [C11.y9 hy] at hinv';have hinv':ZE eqA a b=(eqA x y&&ZE eqA r (b.drop (i+1))):=hinv';refine fR Z ?_;refine Run.zb Z Z (by simp;omega) ?_;refine fR Z ?_;refine Mid.z6 Z Z Z h1 Z Z ?_;refine fM Z ?_;refine Mid.z6 Z Z Z hy Z Z ?_;refine fM Z ?_;refine Mid.z0g Z (zcZ H x y hxo hyo) Z Z Z Z ?_;refine fM Z ?_;refine Run.cond Z Z (fun hc=>?_) (fun hc=>?_)
   ·have hc':eqA x y=false:=by simpa using hc
    refine fR Z ?_;refine Run.fin Z (z3.go ?_);exact .t (by rw [hinv',hc'];rfl)
   ·have hc':eqA x y=true:=by simpa using hc
    refine fR Z ?_;refine aL Z Z Z Z Z ?_;refine fM Z ?_;exact zd 0 Z (ih () (by rw [hinv',hc'];rfl)) Z Z Z
theorem QP (H:zG P) (a b:Dir) (ha:a.Ok) (hb:b.Ok):z5 P 124 [a.v,b.v] ⟨[],0⟩ {v:= .t (.bool (eqD a b))}:=by
 have h1:=z80 H a.args b.args ha.l hb.l ha.a hb.a;refine z5.run H.i124 H.mixed Z Z ?_;refine fR Z ?_;refine caG Z Z (fun hg=>⟨_,rfl,h1,rfl⟩) Z Z ?_;refine fM Z ?_;refine Run.fin Z (z3.go ?_);exact .t (by simp [eqD])
theorem zd2 (H:zG P) (x y:Dir) (hx:x.Ok) (hy:y.Ok):z5 P 123 [y.v,.ptr 0 0] ⟨[(0,.cells [.t (.str x.name),.t (.lst (x.args.map Arg.enc))])],1⟩ {v:= .t (.bool (eqD x y)),rd:=true}:=by
 refine z5.run H.i123 H.mixed Z Z ?_;refine fR Z ?_;refine Mid.call (QP H x y hx hy) Z Z Z Z ?_;refine fM Z ?_;refine Run.fin Z (z3.YU Z Z Z (by first |exact rfl|exact nSto_bd|exact tSto_bd) (.t (rfl)))
theorem z0B (H:zG P) (x y:Dir) (hx:x.Ok) (hy:y.Ok):z5 P 139 [y.v,.ptr 0 0] ⟨[(0,.cells [.t (.str x.name),.t (.lst (x.args.map Arg.enc))])],1⟩ {v:= .t (.bool (eqD y x)),rd:=true}:=by
 refine z5.run H.i139 H.mixed Z Z ?_;refine fR Z ?_;refine Mid.call (QP H y x hy hx) Z Z Z Z ?_;refine fM Z ?_;refine Run.fin Z (z3.YU Z Z Z (by first |exact rfl|exact nSto_bd|exact tSto_bd) (.t (rfl)))
theorem za6 (H:zG P) (n:Str) (y:Dir):z5 P 168 [y.v,.ptr 0 0] ⟨[(0,.cells [.t (.str n)])],1⟩ {v:= .t (.bool (y.name==n)),rd:=true}:=by
 refine z5.run H.i168 H.mixed Z Z ?_;refine fR Z ?_;refine Run.fin Z (z3.YU Z Z Z (by first |exact rfl|exact nSto_bd|exact tSto_bd) (.t (rfl)))
def z1g (p:Dir->Bool):List Dir->Int->Int
 |[],_=>-1
 |x::r,i=>if p x=true then i else z1g p r (i+1)
theorem z8B (p:Dir->Bool):∀(l:List Dir) (i:Int),0<=i->decide (z1g p l i≥0)=l.any p
 |[],i,_=>by simp [z1g]
 |x::r,i,h=>by
  by_cases hx:p x=true
  ·have e:z1g p (x::r) i=i:=by simp only [z1g];rw [w0e hx]
   rw [e];simp [h,hx]
  ·have e:z1g p (x::r) i=z1g p r (i+1):=by simp only [z1g];rw [w0g hx]
   rw [e,z8B p r (i+1) (by omega)];simp [hx]
theorem z9g (H:zG P) (f:FuncId) (x:Dir) (p:Dir->Bool) (l:List Dir) (hl:l.length<=140737488355328) (hp:∀y,y∈l->z5 P f [y.v,.ptr 0 0] ⟨[(0,.cells [.t (.str x.name),.t (.lst (x.args.map Arg.enc))])],1⟩ {v:= .t (.bool (p y)),rd:=true}):z5 P 160 [.t (.lst (l.map Dir.enc)),.fn f [(0,0)]] ⟨[(0,.cells [.t (.str x.name),.t (.lst (x.args.map Arg.enc))])],1⟩ {v:= .t (.int .i64 (z1g p l 0)),rd:=true}:=by
 refine z5.run H.i160 H.mixed Z Z ?_;refine fR Z ?_;refine lM Z Z Z ?_;refine fM Z ?_;refine zn l (fun i (_:Unit)=>{env:=[(0,.t (.lst (l.map Dir.enc))),(1,.fn f [(0,0)]),(7,.t (.int .i64 l.length)),(8,.t (.int .i64 i))],s:=⟨[(0,.cells [.t (.str x.name),.t (.lst (x.args.map Arg.enc))])],1⟩}) (fun r i _=>z1g p l 0=z1g p r i) 1 () Z Z Z Z Z ?_ ?_
 ·intro _ hinv;refine fR Z ?_;refine Run.z9 Z Z (by simp) ?_;refine fR Z ?_;refine Run.fin Z (z3.YU Z Z Z (by first |exact rfl|exact nSto_bd|exact tSto_bd) (.t ((by rw [hinv];rfl))))
 ·intro i y r _ h1 hi hd hinv ih;refine fR Z ?_;refine Run.zb Z Z (by simp;omega) ?_;refine fR Z ?_;refine Mid.z6 Z Z Z h1 Z Z ?_;refine fM Z ?_;refine Mid.z56 Z (hp y (zMG h1)) Z Z Z Z ?_;refine fM Z ?_;refine Run.cond Z Z (fun hc=>?_) (fun hc=>?_)
  ·refine fR Z ?_;refine Run.fin Z (z3.YU Z Z Z (by first |exact rfl|exact nSto_bd|exact tSto_bd) (.t ((by rw [hinv];simp only [z1g];rw [w0e hc]))))
  ·refine fR Z ?_;refine aL Z Z Z Z Z ?_;refine fM Z ?_
   have h':¬ p y=true:=by rw [hc];simp
   exact zd 1 Z (ih () (by rw [hinv];simp only [z1g];rw [w0g h'];rfl)) Z Z Z
theorem z9n (H:zG P) (n:Str) (l:List Dir) (hl:l.length<=140737488355328):z5 P 160 [.t (.lst (l.map Dir.enc)),.fn 168 [(0,0)]] ⟨[(0,.cells [.t (.str n)])],1⟩ {v:= .t (.int .i64 (ZO n l 0)),rd:=true}:=by
 refine z5.run H.i160 H.mixed Z Z ?_;refine fR Z ?_;refine lM Z Z Z ?_;refine fM Z ?_;refine zn l (fun i (_:Unit)=>{env:=[(0,.t (.lst (l.map Dir.enc))),(1,.fn 168 [(0,0)]),(7,.t (.int .i64 l.length)),(8,.t (.int .i64 i))],s:=⟨[(0,.cells [.t (.str n)])],1⟩}) (fun r i _=>ZO n l 0=ZO n r i) 1 () Z Z Z Z Z ?_ ?_
 ·intro _ hinv;refine fR Z ?_;refine Run.z9 Z Z (by simp) ?_;refine fR Z ?_;refine Run.fin Z (z3.YU Z Z Z (by first |exact rfl|exact nSto_bd|exact tSto_bd) (.t ((by rw [hinv];rfl))))
 ·intro i y r _ h1 hi hd hinv ih;refine fR Z ?_;refine Run.zb Z Z (by simp;omega) ?_;refine fR Z ?_;refine Mid.z6 Z Z Z h1 Z Z ?_;refine fM Z ?_;refine Mid.z56 Z (za6 H n y) Z Z Z Z ?_;refine fM Z ?_;refine Run.cond Z Z (fun hc=>?_) (fun hc=>?_)
  ·refine fR Z ?_;refine Run.fin Z (z3.YU Z Z Z (by first |exact rfl|exact nSto_bd|exact tSto_bd) (.t ((by rw [hinv];simp only [ZO];rw [w0e hc]))))
  ·refine fR Z ?_;refine aL Z Z Z Z Z ?_;refine fM Z ?_
   have h':¬ (y.name==n)=true:=by rw [hc];simp
   exact zd 1 Z (ih () (by rw [hinv];simp only [ZO];rw [w0g h'];rfl)) Z Z Z
theorem Yw (H:zG P) (f:FuncId) (x:Dir) (p:Dir->Bool) (l:List Dir) (hl:l.length<=140737488355328) (hp:∀y,y∈l->z5 P f [y.v,.ptr 0 0] ⟨[(0,.cells [.t (.str x.name),.t (.lst (x.args.map Arg.enc))])],1⟩ {v:= .t (.bool (p y)),rd:=true}):z5 P 122 [.t (.lst (l.map Dir.enc)),.fn f [(0,0)]] ⟨[(0,.cells [.t (.str x.name),.t (.lst (x.args.map Arg.enc))])],1⟩ {v:= .t (.bool (l.any p)),rd:=true}:=by
 refine z5.run H.i122 H.mixed Z Z ?_;refine fR Z ?_;refine Mid.z66 (z9g H f x p l hl hp) Z Z (by first |exact rfl|exact nSto_bd|exact tSto_bd) Z ?_;refine fM Z ?_;refine Run.fin Z (z3.YU Z Z Z (by first |exact rfl|exact nSto_bd|exact tSto_bd) (.t ((by rw [←z8B p l 0 (by omega)]))))
theorem z0Q (H:zG P) (l:List Dir) (hl:l.length<=140737488355328) (n:Str):z5 P 138 [.t (.lst (l.map Dir.enc)),.t (.str n)] ⟨[],0⟩ {v:= .t (.int .i64 (ZO n l 0))}:=by
 refine z5.run H.i138 H.mixed Z Z ?_;refine fR Z ?_
 refine Mid.Qt [0] (z9n H n l hl) Z Z Z Z (by simp [zZ];simp [zf.bd,V.bds,V.bd]) (by repeat' (first |exact trivial|exact rfl|refine And.intro ?_ ?_|exact (congrArg some (zf.ren_mE _ _ _ _ _ _)).symm|exact (congrArg some (zf.ren_cE _ _ _)).symm|(refine (congrArg some (zf.zY ?_ _ _)).symm;intro _;rfl))) Z ?_
 refine fM Z ?_;refine Run.fin Z (z3.go ?_);exact .t Z
end Go.GB.C24
namespace Go.GB.C24
open Go.GB Go.GB.C11
variable {P:Program}
def z13 (l:List Dir):List Dir:=l.filter fun x=>!qK x.name
theorem YW (x:Dir) (r:List Dir):z13 (x::r)=if qK x.name=true then z13 r else x::z13 r:=by
 unfold z13;rw [List.filter_cons];cases qK x.name<;>rfl
theorem zd3 (H:zG P) (l:List Dir) (hl:l.length<=2199023255552):z5 P 121 [.t (.lst (l.map Dir.enc))] ⟨[],0⟩ {v:= .t (.lst ((z13 l).map Dir.enc))}:=by
 have hR:∀R,z13 l=R->z5 P 121 [.t (.lst (l.map Dir.enc))] ⟨[],0⟩ {v:= .t (.lst (R.map Dir.enc))}:=by
  intro R hR;refine z5.run H.i121 H.mixed Z Z ?_;refine fR Z ?_;refine lM Z Z Z ?_;refine fM Z ?_
  refine zn l (fun i (B:List Dir)=>{env:=[(3,.own 0 2 (B.map Dir.enc)),(6,.t (.lst (l.map Dir.enc))),(7,.t (.int .i64 l.length)),(8,.t (.int .i64 i))],s:=⟨[(0,.arr B.length)],1⟩}) (fun r i B=>B.length<=i/\B++z13 r=R) 0 [] Z ⟨by simp,hR⟩ rfl rfl rfl ?_ ?_
  ·rintro B ⟨_,hB⟩
   have hB':B=R:=by rw [←hB];simp [z13]
   subst hB';refine fR Z ?_;refine Run.z9 Z Z (by simp) ?_;refine fR Z ?_;refine Run.fin Z (z3.go ?_);exact .own Z
  ·rintro i x r B h1 hi hdr ⟨hBl,hB⟩ ih;have hBl':B.length<=i:=hBl;refine fR Z ?_;refine Run.zb Z Z (by simp;omega) ?_;refine fR Z ?_;refine Mid.z6 Z Z Z h1 Z Z ?_;refine fM Z ?_;by_cases e0:x.name=([107,101,121]:Str)
   ·refine Run.zb Z Z (by simp [e0]) ?_;refine Run.zb Z Z (by simp [e0]) ?_;refine fR Z ?_;refine aL Z Z Z Z Z ?_;refine fM Z ?_;exact zd 1 Z (ih B ⟨by omega,by rw [←hB,YW,w0e (by unfold qK;simp [e0])]⟩) rfl rfl rfl
   ·refine Run.z9 Z Z (by simp [e0]) ?_;refine fR Z ?_;by_cases e1:x.name=([101,120,116,101,114,110,97,108]:Str)
    ·refine Run.zb Z Z (by simp [e1]) ?_;refine Run.zb Z Z (by simp [e1]) ?_;refine fR Z ?_;refine aL Z Z Z Z Z ?_;refine fM Z ?_;exact zd 1 Z (ih B ⟨by omega,by rw [←hB,YW,w0e (by unfold qK;simp [e1])]⟩) rfl rfl rfl
    ·refine Run.z9 Z Z (by simp [e1]) ?_;refine fR Z ?_;by_cases e2:x.name=([115,104,97,114,101,97,98,108,101]:Str)
     ·refine Run.zb Z Z (by simp [e2]) ?_;refine Run.zb Z Z (by simp [e2]) ?_;refine fR Z ?_;refine aL Z Z Z Z Z ?_;refine fM Z ?_;exact zd 1 Z (ih B ⟨by omega,by rw [←hB,YW,w0e (by unfold qK;simp [e2])]⟩) rfl rfl rfl
     ·refine Run.z9 Z Z (by simp [e2]) ?_;refine fR Z ?_;by_cases e3:x.name=([114,101,113,117,105,114,101,115]:Str)
      ·refine Run.zb Z Z (by simp [e3]) ?_;refine Run.zb Z Z (by simp [e3]) ?_;refine fR Z ?_;refine aL Z Z Z Z Z ?_;refine fM Z ?_;exact zd 1 Z (ih B ⟨by omega,by rw [←hB,YW,w0e (by unfold qK;simp [e3])]⟩) rfl rfl rfl
      ·refine Run.z9 Z Z (by simp [e3]) ?_;refine fR Z ?_;by_cases e4:x.name=([112,114,111,118,105,100,101,115]:Str)
       ·refine Run.zb Z Z (by simp [e4]) ?_;refine fR Z ?_;refine aL Z Z Z Z Z ?_;refine fM Z ?_;exact zd 1 Z (ih B ⟨by omega,by rw [←hB,YW,w0e (by unfold qK;simp [e4])]⟩) rfl rfl rfl
       ·refine Run.z9 Z Z (by simp [e4]) ?_;refine fR Z ?_;refine apM Dir.enc B [x] Z Z Z Z Z ?_ (h1:=by first |omega|(simp;omega)|(simp;done)) (h2:=by first |omega|(simp;omega)|(simp;done));refine fM rfl ?_;refine aL rfl rfl rfl rfl rfl ?_;refine fM rfl ?_;exact zd 1 rfl (ih (B++[x]) ⟨by simp;omega,by rw [←hB,YW,w0g (by unfold qK;simp [e0,e1,e2,e3,e4])];simp⟩) rfl rfl rfl
 exact hR _ Z
def WG:List Dir->List Dir->List Dir
 |out,[]=>out
 |out,x::r=>if (out.any fun y=>eqD x y)=true then WG out r else WG (out++[x]) r
theorem z18:∀(l out:List Dir),WG out (z13 l)=ZY out l
 |[],out=>rfl
 |x::r,out=>by
  rw [YW]
  have e:(out.any fun y=>eqD x y)=out.any fun y=>eqD y x:=by congr 1;funext y;exact Yb x y
  cases ho:qK x.name with
  |true=>simp only [ZY,ho,Bool.true_or,w17];exact z18 r out
  |false=>
   simp only [ZY,ho,w1z,WG,e,w0h,w0x];split
   ·exact z18 r out
   ·exact z18 r _
theorem z1d (x:Dir):∀(l out:List Dir),WG out (l++[x])=if ((WG out l).any fun y=>eqD x y)=true then WG out l else WG out l++[x]
 |[],out=>rfl
 |z::r,out=>by
  simp only [w1y,WG];split
  ·exact z1d x r out
  ·exact z1d x r _
theorem z3D (x:Dir):∀(l out:List Dir),((WG out l).any fun y=>eqD x y)=(out++l).any fun y=>eqD x y
 |[],out=>by simp [WG]
 |z::r,out=>by
  simp only [WG];split
  ·rename_i h;rw [z3D x r out,w1n];obtain ⟨w,hw,hw2⟩:=w1v.1 h;simp only [w1v,w14,w0t];constructor
   ·rintro ⟨y,hy,h2⟩
    exact ⟨y,by rcases hy with hy|hy;exact .inl hy;exact .inr (.inr hy),h2⟩
   ·rintro ⟨y,hy|rfl|hy,h2⟩
    ·exact ⟨y,.inl hy,h2⟩
    ·exact ⟨w,.inl hw,by rw [z1E] at*;exact h2.trans hw2⟩
    ·exact ⟨y,.inr hy,h2⟩
  ·rw [z3D x r];simp
theorem qx:∀(b Z X:List Dir),WG X (ZY Z b)=ZY (WG X Z) b
 |[],Z,X=>rfl
 |x::r,Z,X=>by
  have e:∀l:List Dir,(l.any fun y=>eqD y x)=l.any fun y=>eqD x y:=fun l=>by congr 1;funext y;exact Yb y x
  simp only [ZY,e]
  cases ho:qK x.name with
  |true=>simp only [Bool.true_or,w17];exact qx r Z X
  |false=>
   simp only [w1z];by_cases hz:(Z.any fun y=>eqD x y)=true
   ·rw [w0e hz,w0e (by rw [z3D,List.any_append,hz,Bool.or_true])];exact qx r Z X
   ·rw [w0g hz,qx r (Z++[x]) X,z1d]
    split<;>rfl
theorem z9R (X b:List Dir):WG X (zT b)=ZY X b:=qx b [] X
def DA (l:List Dir):Prop:=∀y,y∈l->y.args.length<=1000000
theorem DA.rest {l:List Dir} (h:DA l):DA (zT l):=fun y hy=>h y (by simpa using ya l [] hy)
theorem DA.join {a b:List Dir} (ha:DA a) (hb:DA b):DA (Zn a b):=fun y hy=>by
 rcases ya b _ hy with h|h
 ·exact ha.rest y h
 ·exact hb y h
theorem z4h (H:zG P) (l:List Dir) (hd:∀y,y∈l->y.Ok) (hda:DA l) (hl:l.length<=3000000):z5 P 68 [.t (.lst (l.map Dir.enc))] ⟨[],0⟩ {v:= .own 0 2 ((zT l).map Dir.enc),ob:=[(0,.arr (zT l).length)],n:=1,rd:=true}:=by
 have g0:=zd3 H l (by omega);have hpl:(z13 l).length<=l.length:=List.length_filter_le _ _;have hpd:∀y,y∈z13 l->y.Ok:=fun y hy=>hd y (List.mem_filter.1 hy).1;have hpa:DA (z13 l):=fun y hy=>hda y (List.mem_filter.1 hy).1;have e0:WG [] (z13 l)=zT l:=z18 l [];generalize zT l=R at e0⊢;generalize z13 l=D at e0 g0 hpl hpd hpa;refine z5.run H.i68 H.mixed Z Z ?_;refine fR Z ?_;refine Mid.call (g0) Z Z Z Z ?_;refine lM Z Z Z ?_;refine fM Z ?_
 refine zn D (fun i (B:List Dir)=>{env:=[(3,.own 0 2 (B.map Dir.enc)),(10,.t (.lst (D.map Dir.enc))),(11,.t (.int .i64 D.length)),(12,.t (.int .i64 i))],s:=⟨[(0,.arr B.length)],1⟩}) (fun r i B=>B.length+r.length<=3000000/\(∀y,y∈B->y.Ok)/\WG B r=R) 0 [] Z ⟨by simp;omega,by simp,e0⟩ rfl rfl rfl ?_ ?_
 ·rintro B ⟨_,_,hB⟩;have hB':B=R:=hB;subst hB';refine fR Z ?_;refine Run.z9 Z Z (by simp) ?_;refine fR Z ?_;refine Run.fin Z (z3.chg Z Z ?_ ?_)
  ·exact .le (.same Z)
  ·exact leSA
 ·rintro i x r B h1 hi hdr ⟨hBl,hBo,hB⟩ ih;simp only [w0d] at hBl;have hxo:=hpd x (zMG h1);have hxl:=hpa x (zMG h1);simp only [WG] at hB;refine fR Z ?_;refine Run.zb Z Z (by simp;omega) ?_;refine fR Z ?_;refine Mid.z6 Z Z Z h1 Z Z ?_;refine fM Z ?_
  refine Mid.Qt [1] (Yw H 123 x (fun y=>eqD x y) B (by omega) (fun y hy=>zd2 H x y hxo (hBo y hy))) Z Z Z Z (by simp [zZ];simp [zf.bd,V.bds,V.bd]) (by repeat' (first |exact trivial|exact rfl|refine And.intro ?_ ?_|exact (congrArg some (zf.ren_mE _ _ _ _ _ _)).symm|exact (congrArg some (zf.ren_cE _ _ _)).symm|(refine (congrArg some (zf.zY ?_ _ _)).symm;intro _;rfl))) Z ?_
  refine fM Z ?_;refine Run.cond Z Z (fun hc=>?_) (fun hc=>?_)
  ·rw [w0e hc] at hB;refine fR Z ?_;refine aL Z Z Z Z Z ?_;refine fM Z ?_;exact zd 1 Z (ih B ⟨by omega,hBo,hB⟩) rfl rfl rfl
  ·rw [w0g (by rw [hc];simp)] at hB;refine fR Z ?_;refine lM Z Z Z ?_;refine fM Z ?_;refine zn x.args (fun k (A:List Arg)=>{env:=[(3,.own 0 2 (B.map Dir.enc)),(6,.ptr 2 0),(10,.t (.lst (D.map Dir.enc))),(11,.t (.int .i64 D.length)),(12,.t (.int .i64 i)),(23,.t (.lst (x.args.map Arg.enc))),(24,.t (.int .i64 x.args.length)),(25,.t (.int .i64 k))],s:=⟨[(0,.arr B.length),(2,.cells [.t (.str x.name),.own 3 6 (A.map Arg.enc)]),(3,.arr A.length)],4⟩}) (fun q k A=>A++q=x.args) 3 [] Z Z Z Z Z ?_ ?_
   ·intro A hA
    have hA2:x=⟨x.name,A⟩:=by
     have:A=x.args:=by simpa using hA
     rw [this]
    refine fR Z ?_;refine Run.z9 Z Z (by simp) ?_;refine fR Z ?_;refine apM Dir.enc B [(⟨x.name,A⟩:Dir)] Z Z Z Z Z ?_ (h1:=by first |omega|(simp;omega)|(simp;done)) (h2:=by first |omega|(simp;omega)|(simp;done));refine fM rfl ?_;refine aL rfl rfl rfl rfl rfl ?_;refine fM rfl ?_
    exact zd 1 Z (ih (B++[⟨x.name,A⟩]) ⟨by simp;omega,fun y hy=>by rcases w14.1 hy with hy|hy;exact hBo y hy;rw [w1i.1 hy,←hA2];exact hxo,by rw [←hA2];exact hB⟩) rfl rfl rfl
   ·intro k a q A h2 hk hdq hA ih2;have hA:A++(a::q)=x.args:=hA
    have hAl:A.length+1<=x.args.length:=by have:=congrArg List.length hA;simp only [w03,w0d] at this;omega
    have hao:=hxo.a a (zMG h2);have hcp:=C35.z8p H.p35 a.val hao;refine fR Z ?_;refine Run.zb Z Z (by simp;omega) ?_;refine fR Z ?_;refine Mid.z6 Z Z Z h2 Z Z ?_;refine fM Z ?_;refine Mid.call (hcp) Z Z Z Z ?_;refine fM Z ?_;refine apM Arg.enc A [a] Z Z Z Z Z ?_ (h1:=by first |omega|(simp;omega)|(simp;done)) (h2:=by first |omega|(simp;omega)|(simp;done));refine fM rfl ?_;refine aL rfl rfl rfl rfl rfl ?_;refine fM rfl ?_;exact zd 4 rfl (ih2 (A++[a]) (by rw [←hA];simp)) rfl rfl rfl
end Go.GB.C24
namespace Go.GB
theorem z5.toT {P:Program} {f:FuncId} {vs:List V} {sz n:Nat} {xs:List (List T)} (h:z5 P f vs ⟨[],0⟩ {v:= .own 0 sz xs,ob:=[(0,.arr n)],n:=1,rd:=true}):z5 P f vs ⟨[],0⟩ {v:= .t (.lst xs)}:=by
 refine ⟨h.1,fun Λ args h1 h2 h3 h4=>?_⟩;refine Calls.mono (h.2 Λ args h1 h2 h3 h4) ?_;rintro e w' ⟨v,Λ',e1,e2,e3,e4,e5,e6⟩;exact ⟨v,Λ'.cut 0 0,e1,e2,e3.cut (by rw [h2];exact w09 _) (w09 _),rfl,e5.qw (Nat.zero_le _) (w09 _) trivial,LeX.yX.cut (w09 _) (Nat.zero_le _) e6⟩
end Go.GB
namespace Go.GB.C24
open Go.GB Go.GB.C11
variable {P:Program}
theorem qu (H:zG P) (l:List Dir) (hd:∀y,y∈l->y.Ok) (hda:DA l) (hl:l.length<=3000000):z5 P 68 [.t (.lst (l.map Dir.enc))] ⟨[],0⟩ {v:= .t (.lst ((zT l).map Dir.enc))}:=
 (z4h H l hd hda hl).toT
def cf2 (X Y:List Dir) (n:Str):Bool:=n !=z2f&&(match Q8 n Y,Q8 n X with|some v,some u=>!eqD u v|_,_=>false)
theorem z8t {X Y Z:List Dir} {p:Str->Bool} (h:∀n,p n=true->∃y,Q8 n Y=some y):(X.any fun d=>p d.name)=true->(Y.any fun d=>p d.name)=true:=by
 intro hx;obtain ⟨d,_,hd⟩:=w1v.1 hx;obtain ⟨y,hy⟩:=h d.name hd;obtain ⟨e,hm⟩:=z1p hy
 exact w1v.2 ⟨y,hm,by rw [e];exact hd⟩
theorem zbM (a b:List Dir):zO a b=(zT b).any fun d=>cf2 (zT a) (zT b) d.name:=by
 have e:zO a b=(zT a).any fun d=>cf2 (zT a) (zT b) d.name:=rfl;rw [e,w1n];constructor
 ·refine z8t (Z:=[]) fun n hn=>?_;unfold cf2 at hn
  cases h:Q8 n (zT b) with
  |some y=>exact ⟨y,rfl⟩
  |none=>simp [h] at hn
 ·refine z8t (Z:=[]) fun n hn=>?_;unfold cf2 at hn
  cases h:Q8 n (zT a) with
  |some y=>exact ⟨y,rfl⟩
  |none=>cases h2:Q8 n (zT b)<;>simp [h,h2] at hn
theorem QE (H:zG P) (a b:List Dir) (ha:DL a) (hb:DL b) (haa:DA a) (hba:DA b):z5 P 82 [.t (.lst (a.map Dir.enc)),.t (.lst (b.map Dir.enc))] ⟨[],0⟩ {v:= .tup [.t (.lst ((Zn a b).map Dir.enc)),.t (.bool (zO a b))]}:=by
 have hal:=ha.n;have hbl:=hb.n;have g1:=z4h H a ha.d haa (by omega);have g2:=qu H b hb.d hba (by omega);have hX:=q5 ha;have hY:=q5 hb;have hXa:=haa.rest;have hYa:=hba.rest;have e0:WG (zT a) (zT b)=Zn a b:=z9R _ _;have e1:=zbM a b;generalize Zn a b=J at e0⊢;generalize zO a b=K at e1⊢;generalize zT a=X at*;generalize zT b=Y at*;have hXl:=hX.n;have hYl:=hY.n;refine z5.run H.i82 H.mixed Z Z ?_;refine fR Z ?_
 refine Mid.yp [] (g1) Z Z Z Z Z (by repeat' (first |exact trivial|exact rfl|refine And.intro ?_ ?_|exact (congrArg some (zf.ren_mE _ _ _ _ _ _)).symm|exact (congrArg some (zf.ren_cE _ _ _)).symm|(refine (congrArg some (zf.zY ?_ _ _)).symm;intro _;rfl))) Z Z (ob':=[(0,.arr X.length)]) (rfl) Z Z ?_
 refine fM Z ?_;refine Mid.call (g2) Z Z Z Z ?_;refine fM Z ?_;refine lM Z Z Z ?_;refine fM Z ?_;refine lM Z Z Z ?_;refine fM Z ?_
 refine zn Y (fun i (q:List Dir×Bool)=>{env:=[(6,.own 0 2 ((X++q.1).map Dir.enc)),(7,.t (.lst (Y.map Dir.enc))),(8,.t (.int .i64 X.length)),(9,.t (.bool q.2)),(19,.t (.lst (Y.map Dir.enc))),(20,.t (.int .i64 Y.length)),(21,.t (.int .i64 i))],s:=⟨[(0,.arr (X++q.1).length)],1⟩}) (fun r i q=>WG (X++q.1) r=J/\(q.2||r.any fun d=>cf2 X Y d.name)=K/\X.length+q.1.length+r.length<=2000000/\∀y,y∈q.1->y.Ok) 1 ([],false) Z ⟨by simpa using e0,by simpa using e1.symm,by simp;omega,by simp⟩ rfl rfl rfl ?_ ?_
 ·rintro ⟨E,c⟩ ⟨hE,hcc,_,_⟩;have hE2:X++E=J:=hE
  have hc2:c=K:=by simpa using hcc
  dsimp only;rw [hE2,hc2];refine fR Z ?_;refine Run.z9 Z Z (by simp) ?_;refine fR Z ?_;refine Run.fin Z (z3.go ?_);exact .ZG (.own Z) (.t Z)
 ·rintro i y r ⟨E,c⟩ h1 hi hdr ⟨hE,hcc,hEl,hEo⟩ ih;dsimp only at hE hcc hEl hEo⊢;simp only [w0d] at hEl;simp only [WG] at hE;have hyo:=hY.d y (zMG h1)
  have hXE:∀z,z∈X++E->z.Ok:=fun z hz=>by
   rcases w14.1 hz with hz|hz
   ·exact hX.d z hz
   ·exact hEo z hz
  have hle:X.length<=(X++E).length:=by simp
  have hle2:(X++E).length<=2000000:=by simp;omega
  have hcc:(c||cf2 X Y y.name||r.any fun d=>cf2 X Y d.name)=K:=by rw [←hcc,w1d,Bool.or_assoc]
  have gX:z5 P 138 [.t (.lst (((X++E).take X.length).map Dir.enc)),.t (.str y.name)] ⟨[],0⟩ {v:= .t (.int .i64 (ZO y.name X 0))}:=by
   rw [List.take_left];exact z0Q H X (by omega) y.name
  have gY:=z0Q H Y (by omega) y.name;obtain ⟨v,hv⟩:=z1k (zMG h1) (rfl:y.name=y.name)
  rcases WV y.name Y 0 with ⟨_,h⟩|⟨k,v',hk,hk2,hk3⟩
  ·rw [hv] at h;cases h
  have:v=v':=by rw [hv] at hk3;exact Option.some.inj hk3
  subst this
  rw [show ZO y.name Y 0=(k:Int) by rw [show (0:Int)=((0:Nat):Int) from rfl,hk];simp] at gY
  have hvo:=hY.d v (zMG hk2);refine fR Z ?_;refine Run.zb Z Z (by simp;omega) ?_;refine fR Z ?_;refine Mid.z6 Z Z Z h1 Z Z ?_;refine fM Z ?_;refine lTo Z Z Z Z ?_;refine fM Z ?_
  rcases WV y.name X 0 with ⟨h5,h6⟩|⟨j,u,h5,h6,h7⟩
  ·rw [show ZO y.name X 0=(-1:Int) from h5] at gX
   have e:cf2 X Y y.name=false:=by simp [cf2,h6,hv]
   rw [e,Bool.or_false] at hcc;refine Mid.call (gX) Z Z Z Z ?_;refine fM Z ?_
   cases hY0:(X++E)[(-1:Int).toNat]? with
   |none=>
    refine Mid.z4R Z (by simp) Z Z Z hY0 Z ?_;skip;refine Mid.YQ Z (by simp) Z Z Z ?_;refine fM Z ?_;refine caG Z Z (fun hg=>⟨_,rfl,gY,rfl⟩) Z Z ?_;skip;refine elG Z Z Z Z hk2 Z Z ?_;refine fM Z ?_;refine Mid.YQ Z (by first |rfl|(simp;done)) Z Z Z ?_;refine Mid.YQ Z (by first |rfl|(simp;done)) Z Z Z ?_;refine fM Z ?_;refine Run.z9 Z Z Z ?_;refine fR Z ?_
    refine Mid.Qt [1] (Yw H 139 y (fun z=>eqD z y) (X++E) (by omega) (fun z hz=>z0B H y z hyo (hXE z hz))) Z Z Z Z (by simp [zZ];simp [zf.bd,V.bds,V.bd]) (by repeat' (first |exact trivial|exact rfl|refine And.intro ?_ ?_|exact (congrArg some (zf.ren_mE _ _ _ _ _ _)).symm|exact (congrArg some (zf.ren_cE _ _ _)).symm|(refine (congrArg some (zf.zY ?_ _ _)).symm;intro _;rfl))) Z ?_
    refine fM Z ?_;refine Run.cond Z Z (fun hc2=>?_) (fun hc2=>?_)
    ·have hq:¬ ((X++E).any fun z=>eqD y z)=true:=by
      rw [show ((X++E).any fun z=>eqD y z)=(X++E).any fun z=>eqD z y by congr 1;funext z;exact Yb y z]
      simpa using hc2
     rw [w0g hq] at hE;refine fR Z ?_;refine apM Dir.enc (X++E) [y] Z Z Z Z Z ?_ (h1:=by first |omega|(simp;omega)|(simp;done)) (h2:=by first |omega|(simp;omega)|(simp;done));refine fM rfl ?_;refine aL rfl rfl rfl rfl rfl ?_;refine fM rfl ?_
     exact zd 1 Z (ih (E++[y],c) ⟨by rw [←hE];simp,by simpa using hcc,by simp;omega,fun z hz=>by rcases w14.1 hz with hz|hz;exact hEo z hz;rw [w1i.1 hz];exact hyo⟩) rfl rfl rfl
    ·have hq:((X++E).any fun z=>eqD y z)=true:=by
      rw [show ((X++E).any fun z=>eqD y z)=(X++E).any fun z=>eqD z y by congr 1;funext z;exact Yb y z]
      revert hc2
      cases ((X++E).any fun z=>eqD z y)<;>simp
     rw [w0e hq] at hE;refine fR Z ?_;refine aL Z Z Z Z Z ?_;refine fM Z ?_;exact zd 1 Z (ih (E,c) ⟨hE,hcc,by show X.length+E.length+r.length<=_;omega,hEo⟩) rfl rfl rfl
   |some w=>
    have hq:=QP H w v (hXE w (zMG hY0)) hvo
    refine Mid.z4y Z Z Z Z hY0 (fun hg=>by simp at hg) rfl (by (repeat' (first |exact trivial|exact w12 _|exact WR _|exact qd _|exact grd3 _ _|exact q6 _ _|refine And.intro ?_ ?_|exact rfl|(simp;done)|(simp<;>omega)));done) (by (repeat' (first |exact trivial|exact w12 _|exact WR _|exact qd _|exact grd3 _ _|exact q6 _ _|refine And.intro ?_ ?_|exact rfl|(simp;done)|(simp<;>omega)));done) rfl ?_
    refine fM Z ?_;refine caG Z Z (fun hg=>⟨_,rfl,gY,rfl⟩) Z Z ?_;skip;refine elG Z Z Z Z hk2 Z Z ?_;refine fM Z ?_;refine caG Z Z (fun hg=>⟨_,rfl,hq,rfl⟩) Z Z ?_;refine fM Z ?_;refine Run.z9 Z Z (by simp) ?_;refine fR Z ?_
    refine Mid.Qt [1] (Yw H 139 y (fun z=>eqD z y) (X++E) (by omega) (fun z hz=>z0B H y z hyo (hXE z hz))) Z Z Z Z (by simp [zZ];simp [zf.bd,V.bds,V.bd]) (by repeat' (first |exact trivial|exact rfl|refine And.intro ?_ ?_|exact (congrArg some (zf.ren_mE _ _ _ _ _ _)).symm|exact (congrArg some (zf.ren_cE _ _ _)).symm|(refine (congrArg some (zf.zY ?_ _ _)).symm;intro _;rfl))) Z ?_
    refine fM Z ?_;refine Run.cond Z Z (fun hc2=>?_) (fun hc2=>?_)
    ·have hq:¬ ((X++E).any fun z=>eqD y z)=true:=by
      rw [show ((X++E).any fun z=>eqD y z)=(X++E).any fun z=>eqD z y by congr 1;funext z;exact Yb y z]
      simpa using hc2
     rw [w0g hq] at hE;refine fR Z ?_;refine apM Dir.enc (X++E) [y] Z Z Z Z Z ?_ (h1:=by first |omega|(simp;omega)|(simp;done)) (h2:=by first |omega|(simp;omega)|(simp;done));refine fM rfl ?_;refine aL rfl rfl rfl rfl rfl ?_;refine fM rfl ?_
     exact zd 1 Z (ih (E++[y],c) ⟨by rw [←hE];simp,by simpa using hcc,by simp;omega,fun z hz=>by rcases w14.1 hz with hz|hz;exact hEo z hz;rw [w1i.1 hz];exact hyo⟩) rfl rfl rfl
    ·have hq:((X++E).any fun z=>eqD y z)=true:=by
      rw [show ((X++E).any fun z=>eqD y z)=(X++E).any fun z=>eqD z y by congr 1;funext z;exact Yb y z]
      revert hc2
      cases ((X++E).any fun z=>eqD z y)<;>simp
     rw [w0e hq] at hE;refine fR Z ?_;refine aL Z Z Z Z Z ?_;refine fM Z ?_;exact zd 1 Z (ih (E,c) ⟨hE,hcc,by show X.length+E.length+r.length<=_;omega,hEo⟩) rfl rfl rfl
  ·rw [show ZO y.name X 0=(j:Int) by rw [show (0:Int)=((0:Nat):Int) from rfl,h5];simp] at gX
   have h6':(X++E)[j]?=some u:=by rw [w0a (w02.1 h6).1];exact h6
   have hq:=QP H u v (hX.d u (zMG h6)) hvo
   have e:cf2 X Y y.name=(y.name !=z2f&&!eqD u v):=by simp [cf2,h7,hv]
   rw [e] at hcc;refine Mid.call (gX) Z Z Z Z ?_;refine fM Z ?_;refine elG Z Z Z Z h6' Z Z ?_;refine fM Z ?_;refine caG Z Z (fun hg=>⟨_,rfl,gY,rfl⟩) Z Z ?_;skip;refine elG Z Z Z Z hk2 Z Z ?_;refine fM Z ?_;refine caG Z Z (fun hg=>⟨_,rfl,hq,rfl⟩) Z Z ?_;refine fM Z ?_;refine Run.cond Z Z (fun hc=>?_) (fun hc=>?_)
   ·rw [show (y.name !=z2f&&!eqD u v)=true by simpa [z2f] using hc,Bool.or_true] at hcc
    refine fR Z ?_
    refine Mid.Qt [1] (Yw H 139 y (fun z=>eqD z y) (X++E) (by omega) (fun z hz=>z0B H y z hyo (hXE z hz))) Z Z Z Z (by simp [zZ];simp [zf.bd,V.bds,V.bd]) (by repeat' (first |exact trivial|exact rfl|refine And.intro ?_ ?_|exact (congrArg some (zf.ren_mE _ _ _ _ _ _)).symm|exact (congrArg some (zf.ren_cE _ _ _)).symm|(refine (congrArg some (zf.zY ?_ _ _)).symm;intro _;rfl))) Z ?_
    refine fM Z ?_;refine Run.cond Z Z (fun hc2=>?_) (fun hc2=>?_)
    ·have hq:¬ ((X++E).any fun z=>eqD y z)=true:=by
      rw [show ((X++E).any fun z=>eqD y z)=(X++E).any fun z=>eqD z y by congr 1;funext z;exact Yb y z]
      simpa using hc2
     rw [w0g hq] at hE;refine fR Z ?_;refine apM Dir.enc (X++E) [y] Z Z Z Z Z ?_ (h1:=by first |omega|(simp;omega)|(simp;done)) (h2:=by first |omega|(simp;omega)|(simp;done));refine fM rfl ?_;refine aL rfl rfl rfl rfl rfl ?_;refine fM rfl ?_
     exact zd 1 Z (ih (E++[y],true) ⟨by rw [←hE];simp,by simpa using hcc,by simp;omega,fun z hz=>by rcases w14.1 hz with hz|hz;exact hEo z hz;rw [w1i.1 hz];exact hyo⟩) rfl rfl rfl
    ·have hq:((X++E).any fun z=>eqD y z)=true:=by
      rw [show ((X++E).any fun z=>eqD y z)=(X++E).any fun z=>eqD z y by congr 1;funext z;exact Yb y z]
      revert hc2
      cases ((X++E).any fun z=>eqD z y)<;>simp
     rw [w0e hq] at hE;refine fR Z ?_;refine aL Z Z Z Z Z ?_;refine fM Z ?_;exact zd 1 Z (ih (E,true) ⟨hE,hcc,by show X.length+E.length+r.length<=_;omega,hEo⟩) rfl rfl rfl
   ·rw [show (y.name !=z2f&&!eqD u v)=false by rw [←hc];simp [z2f,bne],Bool.or_false] at hcc
    refine fR Z ?_
    refine Mid.Qt [1] (Yw H 139 y (fun z=>eqD z y) (X++E) (by omega) (fun z hz=>z0B H y z hyo (hXE z hz))) Z Z Z Z (by simp [zZ];simp [zf.bd,V.bds,V.bd]) (by repeat' (first |exact trivial|exact rfl|refine And.intro ?_ ?_|exact (congrArg some (zf.ren_mE _ _ _ _ _ _)).symm|exact (congrArg some (zf.ren_cE _ _ _)).symm|(refine (congrArg some (zf.zY ?_ _ _)).symm;intro _;rfl))) Z ?_
    refine fM Z ?_;refine Run.cond Z Z (fun hc2=>?_) (fun hc2=>?_)
    ·have hq:¬ ((X++E).any fun z=>eqD y z)=true:=by
      rw [show ((X++E).any fun z=>eqD y z)=(X++E).any fun z=>eqD z y by congr 1;funext z;exact Yb y z]
      simpa using hc2
     rw [w0g hq] at hE;refine fR Z ?_;refine apM Dir.enc (X++E) [y] Z Z Z Z Z ?_ (h1:=by first |omega|(simp;omega)|(simp;done)) (h2:=by first |omega|(simp;omega)|(simp;done));refine fM rfl ?_;refine aL rfl rfl rfl rfl rfl ?_;refine fM rfl ?_
     exact zd 1 Z (ih (E++[y],c) ⟨by rw [←hE];simp,by simpa using hcc,by simp;omega,fun z hz=>by rcases w14.1 hz with hz|hz;exact hEo z hz;rw [w1i.1 hz];exact hyo⟩) rfl rfl rfl
    ·have hq:((X++E).any fun z=>eqD y z)=true:=by
      rw [show ((X++E).any fun z=>eqD y z)=(X++E).any fun z=>eqD z y by congr 1;funext z;exact Yb y z]
      revert hc2
      cases ((X++E).any fun z=>eqD z y)<;>simp
     rw [w0e hq] at hE;refine fR Z ?_;refine aL Z Z Z Z Z ?_;refine fM Z ?_;exact zd 1 Z (ih (E,c) ⟨hE,hcc,by show X.length+E.length+r.length<=_;omega,hEo⟩) rfl rfl rfl
def YV (n part:Str):Str:=if part=[] then n else n++([46]++part)
theorem wh (H:zG P) (n:Str) (F:List z4) (hF:F.length<=4398046511104) (is:Bool) (e:Int) (part:Str) (hn:n.length<=1125899906842624) (hp:part.length<=1125899906842624):z5 P 83 [.ptr 0 0,.t (.bool is),.t (.int .i64 e),.t (.str part)] ⟨[(0,.cells [.t (.str n),.own 1 2 ((F).map z4.enc)]),(1,.arr (F).length)],2⟩ {v:= .tup [],ob:=[(0,.cells [.t (.str n),.own 1 2 ((F++one is ⟨e,YV n part⟩).map z4.enc)]),(1,.arr (F++one is ⟨e,YV n part⟩).length)],rd:=true}:=by
 refine z5.run H.i83 H.mixed Z Z ?_;refine fR Z ?_
 cases is with
 |false=>
  rw [Yl,w1j];refine Run.z9 Z Z Z ?_;skip;refine Run.fin Z (z3.chg Z Z ?_ ?_)
  ·exact .le (.same Z)
  ·exact leSA
 |true=>
  rw [Y5];refine Run.zb Z Z Z ?_;refine fR Z ?_;refine Run.cond Z Z (fun hc=>?_) (fun hc=>?_)
  ·have e1:YV n part=n++([46]++part):=by unfold YV;rw [w0g (by rintro rfl;simp at hc)]
   rw [e1];refine fR Z ?_;refine pu Z ?_;refine pu Z ?_;refine fM Z ?_;refine apM z4.enc F [(⟨e,n++([46]++part)⟩:z4)] Z Z Z Z Z ?_ (h1:=by first |omega|(simp;omega)|(simp;done)) (h2:=by first |omega|(simp;omega)|(simp;done));refine fM rfl ?_;refine Run.fin rfl (z3.chg rfl rfl ?_ ?_)
   ·exact .le (.same Z)
   ·exact leSA
  ·have hp0:part=[]:=by simpa using hc
   have e1:YV n part=n:=by unfold YV;rw [w0e hp0]
   rw [e1];refine fR Z ?_;refine apM z4.enc F [(⟨e,n⟩:z4)] Z Z Z Z Z ?_ (h1:=by first |omega|(simp;omega)|(simp;done)) (h2:=by first |omega|(simp;omega)|(simp;done));refine fM rfl ?_;refine Run.fin rfl (z3.chg rfl rfl ?_ ?_)
   ·exact .le (.same Z)
   ·exact leSA
theorem z3h (H:zG P) (n:Str) (F:List z4) (hF:F.length<=4398046511104) (a b:List Dir) (ha:DL a) (hb:DL b) (haa:DA a) (hba:DA b) (part:Str) (hn:n.length<=1125899906842624) (hp:part.length<=1125899906842624):z5 P 35 [.ptr 0 0,.t (.lst (a.map Dir.enc)),.t (.lst (b.map Dir.enc)),.t (.str part)] ⟨[(0,.cells [.t (.str n),.own 1 2 ((F).map z4.enc)]),(1,.arr (F).length)],2⟩ {v:= .t (.lst ((Zn a b).map Dir.enc)),ob:=[(0,.cells [.t (.str n),.own 1 2 ((F++one (zO a b) ⟨29,YV n part⟩).map z4.enc)]),(1,.arr (F++one (zO a b) ⟨29,YV n part⟩).length)],rd:=true}:=by
 have g1:=QE H a b ha hb haa hba;have g2:=wh H n F hF (zO a b) 29 part hn hp;refine z5.run H.i35 H.mixed Z Z ?_;refine fR Z ?_;refine Mid.call (g1) Z Z Z Z ?_;refine fM Z ?_
 refine Mid.yp [0,1] (g2) Z Z Z Z (by simp [zZ];simp [zf.bd,V.bds,V.bd]) (by repeat' (first |exact trivial|exact rfl|refine And.intro ?_ ?_|exact (congrArg some (zf.ren_mE _ _ _ _ _ _)).symm|exact (congrArg some (zf.ren_cE _ _ _)).symm|(refine (congrArg some (zf.zY ?_ _ _)).symm;intro _;rfl))) Z Z (ob':=[(0,.cells [.t (.str n),.own 1 2 ((F++one (zO a b) ⟨29,YV n part⟩).map z4.enc)]),(1,.arr (F++one (zO a b) ⟨29,YV n part⟩).length)]) (rfl) Z Z ?_
 refine fM Z ?_;refine Run.fin Z (z3.chg Z Z ?_ ?_)
 ·exact .le (.same Z)
 ·exact leSA
theorem z4O (H:zG P) (a b:Input) (ha:a.Ok) (hb:b.Ok):z5 P 89 [Input.v a,Input.v b] ⟨[],0⟩ {v:= .t (.bool (alike a b))}:=by
 have h1:=z2w H.p13.toPr a.ty b.ty ha.t hb.t;have h2:=C35.z6V H.p35 a.YJ b.YJ ha.v hb.v;refine z5.run H.i89 H.mixed Z Z ?_;refine fR Z ?_;refine Mid.call (h1) Z Z Z Z ?_;refine fM Z ?_;refine caG Z Z (fun hg=>⟨_,rfl,h2,rfl⟩) Z Z ?_;refine fM Z ?_;refine Run.fin Z (z3.go ?_);exact .t (by simp [alike])
end Go.GB.C24
namespace Go.GB.C24
open Go.GB Go.GB.C11
variable {P:Program}
theorem z5C (H:zG P) (l:List Dir) (hl:l.length<=1000000):z5 P 81 [.t (.lst (l.map Dir.enc))] ⟨[],0⟩ {v:= .t (.lst (l.map Dir.enc))}:=by
 refine z5.run H.i81 H.mixed Z Z ?_;refine fR Z ?_;refine p0 Z ?_;refine fM Z ?_;refine Run.z2S Z Z (fun h=>?_) (fun _=>?_)
 ·have hn:l=[]:=by
   cases l with
   |nil=>rfl
   |cons x r=>
    have:=h (Dir.enc x) (by simp);simp [Dir.enc] at this
  subst hn;refine fR Z ?_;refine Run.fin Z (z3.go ?_);exact .nil Z
 ·refine fR Z ?_;refine apN Dir.enc l Z Z Z ?_ (h1:=by first |omega|(simp;omega)|(simp;done)) (h2:=by first |omega|(simp;omega)|(simp;done));refine fM rfl ?_;refine Run.fin rfl (z3.go ?_);exact .own rfl
theorem z48 (H:zG P) (l:List Str) (hl:l.length<=1000000):z5 P 33 [.t (.lst (l.map sE))] ⟨[],0⟩ {v:= .own 0 1 (l.map sE),ob:=[(0,.arr l.length)],n:=1,rd:=true}:=by
 refine z5.run H.p35.i33 H.mixed Z Z ?_;refine fR Z ?_;refine p0 Z ?_;refine fM Z ?_;refine Run.z2S Z Z (fun h=>?_) (fun _=>?_)
 ·have hn:l=[]:=by
   cases l with
   |nil=>rfl
   |cons x r=>
    have:=h (sE x) (by simp);simp [sE] at this
  subst hn;refine Run.region Z Z ?_;refine Mid.val (v:= .zp) (ps:=[]) Z Z trivial Z ?_;refine Mid.WM Z ?_
  refine Run.zcX (st':={env:=[(2,.own 0 1 [])],s:=⟨[(0,.arr 0)],1⟩}) 0 ?_ Z Z Z (by repeat' (first |exact trivial|exact LeX.t|exact LeX.top|exact LeX.Z7 (w11 rfl) (w11 rfl)|exact LeX.yX|exact LeX.Y1|exact LeX.same rfl|exact LeX.tEq (by simp)|exact LeX.ZW (by simp) (w11 rfl)|exact LeX.tEq (by congr 1<;>omega)|exact Or.inr ⟨w11 rfl,w11 rfl,rfl⟩|refine Or.inl ⟨w11 rfl,_,rfl,?_⟩|refine LeO.cells ?_|exact LeO.arr rfl|exact LeO.arr (by simp)|exact LeO.mE (by first |rfl|simp) (by first |exact Or.inl rfl|exact Or.inr rfl)|exact LeO.cE (by first |rfl|simp)|exact zC.cE (by first |rfl|simp)|refine LeO.map (by first |rfl|simp) ?_ (by first |exact Or.inl rfl|exact Or.inr rfl)|exact LeO.iter (by first |rfl|simp) (w11 rfl)|refine zC.cons ?_ ?_|exact zC.nil|refine And.intro ?_ ?_)) (by repeat' (first |exact trivial|exact LeX.t|exact LeX.top|exact LeX.Z7 (w11 rfl) (w11 rfl)|exact LeX.yX|exact LeX.Y1|exact LeX.same rfl|exact LeX.tEq (by simp)|exact LeX.ZW (by simp) (w11 rfl)|exact LeX.tEq (by congr 1<;>omega)|exact Or.inr ⟨w11 rfl,w11 rfl,rfl⟩|refine Or.inl ⟨w11 rfl,_,rfl,?_⟩|refine LeO.cells ?_|exact LeO.arr rfl|exact LeO.arr (by simp)|exact LeO.mE (by first |rfl|simp) (by first |exact Or.inl rfl|exact Or.inr rfl)|exact LeO.cE (by first |rfl|simp)|exact zC.cE (by first |rfl|simp)|refine LeO.map (by first |rfl|simp) ?_ (by first |exact Or.inl rfl|exact Or.inr rfl)|exact LeO.iter (by first |rfl|simp) (w11 rfl)|refine zC.cons ?_ ?_|exact zC.nil|refine And.intro ?_ ?_))
  refine z3.chg Z Z (.le (.same Z)) ?_;exact leSA
 ·refine fR Z ?_;refine apN sE l Z Z Z ?_ (h1:=by first |omega|(simp;omega)|(simp;done)) (h2:=by first |omega|(simp;omega)|(simp;done));refine fM rfl ?_;refine Run.fin rfl (z3.chg rfl rfl ?_ ?_)
  ·exact .le (.same Z)
  ·exact leSA
theorem WB (H:zG P) (l:List Input) (hl:l.length<=1000) (hi:∀x,x∈l->x.Ok/\x.zg.length<=1000000):z5 P 34 [.t (.lst (l.map Input.enc))] ⟨[],0⟩ {v:= .t (.lst (l.map Input.enc))}:=by
 refine z5.run H.i34 H.mixed Z Z ?_;refine fR Z ?_;refine lM Z Z Z ?_;refine fM Z ?_;refine zn l (fun i (B:List Input)=>{env:=[(3,.own 0 10 (B.map Input.enc)),(6,.t (.lst (l.map Input.enc))),(7,.t (.int .i64 l.length)),(8,.t (.int .i64 i))],s:=⟨[(0,.arr B.length)],1⟩}) (fun r i B=>B++r=l) 0 [] Z Z Z Z Z ?_ ?_
 ·intro B hB
  have hB2:B=l:=by simpa using hB
  refine fR Z ?_;refine Run.z9 Z Z (by simp) ?_;refine fR Z ?_;refine Run.fin Z (z3.go ?_);exact .own (by rw [hB2])
 ·intro i x r B h1 hil hdr hB ih;have hxo:=hi x (zMG h1)
  have hBl:B.length<=1000:=by have:=congrArg List.length hB;simp only [w03] at this;omega
  have g1:=q7 H.p13.toPr x.ty.z8 hxo.1.t.l;have g2:=C35.z8p H.p35 x.YJ hxo.1.v;have g3:=z5C H x.zg hxo.2;refine fR Z ?_;refine Run.zb Z Z (by simp;omega) ?_;refine fR Z ?_;refine Mid.z6 Z Z Z h1 Z Z ?_;refine fM Z ?_;refine Mid.call (g1) Z Z Z Z ?_;refine fM Z ?_;refine Mid.call (g2) Z Z Z Z ?_;refine fM Z ?_;refine Mid.call (g3) Z Z Z Z ?_;refine fM Z ?_;refine apM Input.enc B [x] Z Z Z Z Z ?_ (h1:=by first |omega|(simp;omega)|(simp;done)) (h2:=by first |omega|(simp;omega)|(simp;done));refine fM rfl ?_;refine aL rfl rfl rfl rfl rfl ?_;refine fM rfl ?_;exact zd 1 rfl (ih (B++[x]) (by rw [←hB];simp)) rfl rfl rfl
structure NM (d:Def):Prop where
 fN:∀y,y∈d.fields->y.name≠[]
 mN:∀y,y∈d.members->y.name≠[]
 nN:∀y,y∈d.zi->y.name≠[]
 da:DA d.zg
 fa:∀y,y∈d.fields->DA y.zg
 ma:∀y,y∈d.members->DA y.zg
 fi:∀y,y∈d.fields->∀x,x∈y.args->x.zg.length<=1000000
 ni:∀x,x∈d.zi->x.zg.length<=1000000
theorem qI (H:zG P) {n:Nat} (hn:n<=1000000) (f:Field) (hf:FB n f) (hd:DA f.zg) (hi:∀x,x∈f.args->x.zg.length<=1000000):z5 P 69 [f.v] ⟨[],0⟩ {v:=(Zg f).v}:=by
 have g1:=WB H f.args hf.al fun x hx=>⟨hf.ok.a x hx,hi x hx⟩;have g2:=q7 H.p13.toPr f.ty.z8 hf.ok.t.l;have g3:=qu H f.zg hf.ok.d hd (by have:=hf.dl;omega);refine z5.run H.i69 H.mixed Z Z ?_;refine fR Z ?_;refine Mid.call (g1) Z Z Z Z ?_;refine fM Z ?_;refine Mid.call (g2) Z Z Z Z ?_;refine fM Z ?_;refine Mid.call (g3) Z Z Z Z ?_;refine fM Z ?_;refine Run.fin Z (z3.go ?_);exact .agg (.cons (.t Z) (.cons (.t Z) (.cons (.t Z) (.cons (.t Z) (.cons (.t Z) .nil)))))
theorem z2K (H:zG P) (l:List zh) (hl:l.length<=140737488355328) (n:Str):z5 P 87 [.t (.lst (l.map zh.enc)),.t (.str n)] ⟨[],0⟩ {v:= .tup [zh.v ((zK n l).getD zh.zero),.t (.bool (zK n l).isSome)]}:=by
 refine z5.run H.i87 H.mixed Z Z ?_;refine fR Z ?_;refine lM Z Z Z ?_;refine fM Z ?_;refine zn l (fun i (_:Unit)=>{env:=[(1,.t (.str n)),(4,.ptr 0 0),(8,.t (.lst (l.map zh.enc))),(9,.t (.int .i64 l.length)),(10,.t (.int .i64 i))],s:=⟨[(0,.cells [.t (.str []),.zp])],1⟩}) (fun r i _=>zK n l=zK n r) 1 () Z Z Z Z Z ?_ ?_
 ·intro _ hinv;refine fR Z ?_;refine Run.z9 Z Z (by simp) ?_;refine fR Z ?_
  have e:zK n l=none:=by rw [hinv];rfl
  rw [e];refine Run.fin Z (z3.go ?_);exact .ZG (.agg (.cons (.t Z) (.cons (.nil Z) .nil))) (.t Z)
 ·intro i x r _ h1 hi hd hinv ih;refine fR Z ?_;refine Run.zb Z Z (by simp;omega) ?_;refine fR Z ?_;refine Mid.z6 Z Z Z h1 Z Z ?_;refine fM Z ?_;refine Run.cond Z Z (fun h=>?_) (fun h=>?_)
  ·refine fR Z ?_
   have e:zK n l=some x:=by rw [hinv];simp only [zK];rw [w0e h]
   rw [e];refine Run.fin Z (z3.go ?_);exact .ZG (.le (.same Z)) (.t Z)
  ·refine fR Z ?_;refine aL Z Z Z Z Z ?_;refine fM Z ?_
   have h':¬ (x.name==n)=true:=by rw [h];simp
   exact zd 1 Z (ih () (by rw [hinv];simp only [zK];rw [w0g h'])) Z Z Z
theorem yi (n s:Str) (e:Int) (h:s≠[]):(⟨e,YV n s⟩:z4)=zB n e s:=by
 unfold YV zB;rw [w0g h];simp
theorem z4G (n f:Str) (x:Input):(⟨22,YV n (f++[40]++x.name++[41])⟩:z4)=Z9 (n++[46]++f) 22 x:=by
 unfold YV Z9;rw [w0g (by simp)];simp
def Yf (a b:Field) (at_:Str):List z4:=zm (ye b.args) (Z9 at_ 22) a.args++zm (y3 a.args) (Z9 at_ 22) b.args
theorem z7d (a b:Field) (at_:Str):(Yf a b at_).length<=a.args.length+b.args.length:=by
 have h2:=Zp (ye b.args) (Z9 at_ 22) a.args;have h3:=Zp (y3 a.args) (Z9 at_ 22) b.args;simp only [Yf,w03];omega
theorem zcE (H:zG P) {k:Nat} (n:Str) (hn:n.length<=140737488355328) (F:List z4) (hF:F.length<=4398046500000) (a b:Field) (ha:FB k a) (hb:FB k b):z5 P 86 [.ptr 0 0,a.v,b.v] ⟨[(0,.cells [.t (.str n),.own 1 2 ((F).map z4.enc)]),(1,.arr (F).length)],2⟩ {v:= .tup [],ob:=[(0,.cells [.t (.str n),.own 1 2 ((F++Yf a b (n++[46]++a.name)).map z4.enc)]),(1,.arr (F++Yf a b (n++[46]++a.name)).length)],rd:=true}:=by
 have hal:=ha.al;have hbl:=hb.al;have hao:=ha.ok.a;have hbo:=hb.ok.a;have hnm:=ha.ok.nm;have e0:F++(zm (ye b.args) (Z9 (n++[46]++a.name) 22) a.args++zm (y3 a.args) (Z9 (n++[46]++a.name) 22) b.args)=F++Yf a b (n++[46]++a.name):=rfl;have hlen:=z7d a b (n++[46]++a.name)
 have hTl:(F++Yf a b (n++[46]++a.name)).length<=4398046511104:=by simp only [w03];omega
 generalize F++Yf a b (n++[46]++a.name)=tot at e0 hTl⊢;refine z5.run H.i86 H.mixed Z Z ?_;refine fR Z ?_;refine lM Z Z Z ?_;refine fM Z ?_;refine zn a.args (fun i (C:List z4)=>{env:=[(0,.ptr 0 0),(4,.ptr 2 0),(5,.ptr 3 0),(15,.t (.lst (a.args.map Input.enc))),(16,.t (.int .i64 a.args.length)),(17,.t (.int .i64 i))],s:=⟨[(0,.cells [.t (.str n),.own 1 2 (C.map z4.enc)]),(1,.arr C.length),(2,.cells [.t (.str a.name),.t (.lst (a.args.map Input.enc)),.t (.str a.ty.name),.t (.lst (a.ty.z8.map nE)),.t (.lst (a.zg.map Dir.enc))]),(3,.cells [.t (.str b.name),.t (.lst (b.args.map Input.enc)),.t (.str b.ty.name),.t (.lst (b.ty.z8.map nE)),.t (.lst (b.zg.map Dir.enc))])],4⟩}) (fun r i C=>C++(zm (ye b.args) (Z9 (n++[46]++a.name) 22) r++zm (y3 a.args) (Z9 (n++[46]++a.name) 22) b.args)=tot) 4 F Z e0 Z Z Z ?_ ?_
 ·intro C hC;refine fR Z ?_;refine Run.z9 Z Z (by simp) ?_;refine fR Z ?_;refine lM Z Z Z ?_;refine fM Z ?_;refine zn b.args (fun i (C:List z4)=>{env:=[(0,.ptr 0 0),(4,.ptr 2 0),(48,.t (.lst (b.args.map Input.enc))),(49,.t (.int .i64 b.args.length)),(50,.t (.int .i64 i))],s:=⟨[(0,.cells [.t (.str n),.own 1 2 (C.map z4.enc)]),(1,.arr C.length),(2,.cells [.t (.str a.name),.t (.lst (a.args.map Input.enc)),.t (.str a.ty.name),.t (.lst (a.ty.z8.map nE)),.t (.lst (a.zg.map Dir.enc))])],3⟩}) (fun r i C=>C++zm (y3 a.args) (Z9 (n++[46]++a.name) 22) r=tot) 3 C Z (by simpa [zm] using hC) Z Z Z ?_ ?_
  ·intro D hD
   have hD2:D=tot:=by simpa [zm] using hD
   rw [hD2];refine fR Z ?_;refine Run.z9 Z Z (by simp) ?_;skip;refine Run.fin Z (z3.chg Z Z ?_ ?_)
   ·exact .le (.same Z)
   ·exact leSA
  ·intro i x r D h1 hi hdr hD ih
   have hD:D++(one (y3 a.args x) (Z9 (n++[46]++a.name) 22 x)++zm (y3 a.args) (Z9 (n++[46]++a.name) 22) r)=tot:=by rw [←hD];simp [zm]
   have hDl:D.length<=4398046511104:=by have:=congrArg List.length hD;simp only [w03] at this;omega
   have hxn:=(hbo x (zMG h1)).nm;have g1:=wh H n D hDl (y3 a.args x) 22 (a.name++[40]++x.name++[41]) (by omega) (by simp;omega);rw [z4G] at g1;refine fR Z ?_;refine Run.zb Z Z (by simp;omega) ?_;refine fR Z ?_;refine Mid.z6 Z Z Z h1 Z Z ?_;refine fM Z ?_;refine Mid.call (qP H.p13.toPr a.args (by omega) x.name) Z Z Z Z ?_;refine fM Z ?_;refine pu Z ?_;refine fM Z ?_;refine pu Z ?_;refine pu Z ?_
   refine Mid.yp [0,1] (g1) Z Z Z Z (by simp [zZ];simp [zf.bd,V.bds,V.bd]) (by repeat' (first |exact trivial|exact rfl|refine And.intro ?_ ?_|exact (congrArg some (zf.ren_mE _ _ _ _ _ _)).symm|exact (congrArg some (zf.ren_cE _ _ _)).symm|(refine (congrArg some (zf.zY ?_ _ _)).symm;intro _;rfl))) Z Z (ob':=[(0,.cells [.t (.str n),.own 1 2 ((D++one (y3 a.args x) (Z9 (n++[46]++a.name) 22 x)).map z4.enc)]),(1,.arr (D++one (y3 a.args x) (Z9 (n++[46]++a.name) 22 x)).length)]) (rfl) Z Z ?_
   refine fM Z ?_;refine aL Z Z Z Z Z ?_;refine fM Z ?_;exact zd 3 Z (ih (D++one (y3 a.args x) (Z9 (n++[46]++a.name) 22 x)) (by rw [←hD];simp)) Z Z Z
 ·intro i x r D h1 hi hdr hD ih
  have hD:D++(one (ye b.args x) (Z9 (n++[46]++a.name) 22 x)++(zm (ye b.args) (Z9 (n++[46]++a.name) 22) r++zm (y3 a.args) (Z9 (n++[46]++a.name) 22) b.args))=tot:=by rw [←hD];simp [zm]
  have hDl:D.length<=4398046511104:=by have:=congrArg List.length hD;simp only [w03] at this;omega
  have hxo:=hao x (zMG h1);have hxn:=hxo.nm;have hal:=z4O H x ((zw x.name b.args).getD Input.zero) hxo (zer hbo x.name);have g1:=wh H n D hDl (!(zw x.name b.args).isSome||!alike x ((zw x.name b.args).getD Input.zero)) 22 (a.name++[40]++x.name++[41]) (by omega) (by simp;omega)
  have e1:(!(zw x.name b.args).isSome||!alike x ((zw x.name b.args).getD Input.zero))=ye b.args x:=by unfold ye;rw [z3g]
  have e2:one (!(zw x.name b.args).isSome||!alike x ((zw x.name b.args).getD Input.zero)) ⟨22,YV n (a.name++[40]++x.name++[41])⟩=one (ye b.args x) (Z9 (n++[46]++a.name) 22 x):=by rw [e1,z4G]
  rw [e2] at g1;refine fR Z ?_;refine Run.zb Z Z (by simp;omega) ?_;refine fR Z ?_;refine Mid.z6 Z Z Z h1 Z Z ?_;refine fM Z ?_;refine Mid.call (qP H.p13.toPr b.args (by omega) x.name) Z Z Z Z ?_;refine fM Z ?_;refine caG Z Z (fun hg=>⟨_,rfl,hal,rfl⟩) Z Z ?_;refine fM Z ?_;refine pu Z ?_;refine fM Z ?_;refine pu Z ?_;refine pu Z ?_
  refine Mid.yp [0,1] (g1) Z Z Z Z (by simp [zZ];simp [zf.bd,V.bds,V.bd]) (by repeat' (first |exact trivial|exact rfl|refine And.intro ?_ ?_|exact (congrArg some (zf.ren_mE _ _ _ _ _ _)).symm|exact (congrArg some (zf.ren_cE _ _ _)).symm|(refine (congrArg some (zf.zY ?_ _ _)).symm;intro _;rfl))) Z Z (ob':=[(0,.cells [.t (.str n),.own 1 2 ((D++one (ye b.args x) (Z9 (n++[46]++a.name) 22 x)).map z4.enc)]),(1,.arr (D++one (ye b.args x) (Z9 (n++[46]++a.name) 22 x)).length)]) (rfl) Z Z ?_
  refine fM Z ?_;refine aL Z Z Z Z Z ?_;refine fM Z ?_;exact zd 4 Z (ih (D++one (ye b.args x) (Z9 (n++[46]++a.name) 22 x)) (by rw [←hD];simp)) Z Z Z
def qm (a b:Def) (n:Str):List z4:=zm (zW b.fields) (fun y=>zB n 45 y.name) a.fields++zm (zW a.fields) (fun y=>zB n 45 y.name) b.fields
theorem z9c (a b:Def) (n:Str):(qm a b n).length<=a.fields.length+b.fields.length:=by
 have h2:=Zp (zW b.fields) (fun y=>zB n 45 y.name) a.fields;have h3:=Zp (zW a.fields) (fun y=>zB n 45 y.name) b.fields;simp only [qm,w03];omega
theorem zcS (H:zG P) {k:Nat} (hk:k<=1000000) (n:Str) (hn:n.length<=140737488355328) (F:List z4) (hF:F.length<=4398000000000) (a b:Def) (ha:DB k a) (hb:DB k b) (na:NM a) (nb:NM b):z5 P 38 [.ptr 0 0,a.v,b.v] ⟨[(0,.cells [.t (.str n),.own 1 2 ((F).map z4.enc)]),(1,.arr (F).length)],2⟩ {v:= .tup [],ob:=[(0,.cells [.t (.str n),.own 1 2 ((F++qm a b n).map z4.enc)]),(1,.arr (F++qm a b n).length)],rd:=true}:=by
 have hal:=ha.fl;have hbl:=hb.fl;have e0:F++(zm (zW b.fields) (fun y=>zB n 45 y.name) a.fields++zm (zW a.fields) (fun y=>zB n 45 y.name) b.fields)=F++qm a b n:=rfl;have hlen:=z9c a b n
 have hTl:(F++qm a b n).length<=4398046511104:=by simp only [w03];omega
 generalize F++qm a b n=tot at e0 hTl⊢;refine z5.run H.i38 H.mixed Z Z ?_;refine fR Z ?_;refine lM Z Z Z ?_;refine fM Z ?_;refine zn a.fields (fun i (C:List z4)=>{env:=[(0,.ptr 0 0),(4,.ptr 2 0),(5,.ptr 3 0),(15,.t (.lst (a.fields.map Field.enc))),(16,.t (.int .i64 a.fields.length)),(17,.t (.int .i64 i))],s:=⟨[(0,.cells [.t (.str n),.own 1 2 (C.map z4.enc)]),(1,.arr C.length),(2,(TCo a)),(3,(TCo b))],4⟩}) (fun r i C=>C++(zm (zW b.fields) (fun y=>zB n 45 y.name) r++zm (zW a.fields) (fun y=>zB n 45 y.name) b.fields)=tot) 4 F Z e0 Z Z Z ?_ ?_
 ·intro C hC;refine fR Z ?_;refine Run.z9 Z Z (by simp) ?_;refine fR Z ?_;refine lM Z Z Z ?_;refine fM Z ?_;refine zn b.fields (fun i (C:List z4)=>{env:=[(0,.ptr 0 0),(4,.ptr 2 0),(36,.t (.lst (b.fields.map Field.enc))),(37,.t (.int .i64 b.fields.length)),(38,.t (.int .i64 i))],s:=⟨[(0,.cells [.t (.str n),.own 1 2 (C.map z4.enc)]),(1,.arr C.length),(2,(TCo a))],3⟩}) (fun r i C=>C++zm (zW a.fields) (fun y=>zB n 45 y.name) r=tot) 3 C Z (by simpa [zm] using hC) Z Z Z ?_ ?_
  ·intro D hD
   have hD2:D=tot:=by simpa [zm] using hD
   rw [hD2];refine fR Z ?_;refine Run.z9 Z Z (by simp) ?_;skip;refine Run.fin Z (z3.chg Z Z ?_ ?_)
   ·exact .le (.same Z)
   ·exact leSA
  ·intro i x r D h1 hi hdr hD ih
   have hD:D++(one (zW a.fields x) (zB n 45 x.name)++zm (zW a.fields) (fun y=>zB n 45 y.name) r)=tot:=by rw [←hD];simp [zm]
   have hDl:D.length<=4398046511104:=by have:=congrArg List.length hD;simp only [w03] at this;omega
   have hxm:=zMG h1;have hxn:=(hb.ok.f x hxm).nm;have g1:=wh H n D hDl (zW a.fields x) 45 x.name (by omega) (by omega);rw [yi _ _ _ (nb.fN x hxm)] at g1;refine fR Z ?_;refine Run.zb Z Z (by simp;omega) ?_;refine fR Z ?_;refine Mid.z6 Z Z Z h1 Z Z ?_;refine fM Z ?_;refine Mid.call (qJ H.p13.toPr a (by omega) x.name) Z Z Z Z ?_;refine fM Z ?_
   refine Mid.yp [0,1] (g1) Z Z Z Z (by simp [zZ];simp [zf.bd,V.bds,V.bd]) (by repeat' (first |exact trivial|exact rfl|refine And.intro ?_ ?_|exact (congrArg some (zf.ren_mE _ _ _ _ _ _)).symm|exact (congrArg some (zf.ren_cE _ _ _)).symm|(refine (congrArg some (zf.zY ?_ _ _)).symm;intro _;rfl))) Z Z (ob':=[(0,.cells [.t (.str n),.own 1 2 ((D++one (zW a.fields x) (zB n 45 x.name)).map z4.enc)]),(1,.arr (D++one (zW a.fields x) (zB n 45 x.name)).length)]) (rfl) Z Z ?_
   refine fM Z ?_;refine aL Z Z Z Z Z ?_;refine fM Z ?_;exact zd 3 Z (ih (D++one (zW a.fields x) (zB n 45 x.name)) (by rw [←hD];simp)) Z Z Z
 ·intro i x r D h1 hi hdr hD ih
  have hD:D++(one (zW b.fields x) (zB n 45 x.name)++(zm (zW b.fields) (fun y=>zB n 45 y.name) r++zm (zW a.fields) (fun y=>zB n 45 y.name) b.fields))=tot:=by rw [←hD];simp [zm]
  have hDl:D.length<=4398046511104:=by have:=congrArg List.length hD;simp only [w03] at this;omega
  have hxm:=zMG h1;have hxn:=(ha.ok.f x hxm).nm;have g1:=wh H n D hDl (zW b.fields x) 45 x.name (by omega) (by omega);rw [yi _ _ _ (na.fN x hxm)] at g1;refine fR Z ?_;refine Run.zb Z Z (by simp;omega) ?_;refine fR Z ?_;refine Mid.z6 Z Z Z h1 Z Z ?_;refine fM Z ?_;refine Mid.call (qJ H.p13.toPr b (by omega) x.name) Z Z Z Z ?_;refine fM Z ?_
  refine Mid.yp [0,1] (g1) Z Z Z Z (by simp [zZ];simp [zf.bd,V.bds,V.bd]) (by repeat' (first |exact trivial|exact rfl|refine And.intro ?_ ?_|exact (congrArg some (zf.ren_mE _ _ _ _ _ _)).symm|exact (congrArg some (zf.ren_cE _ _ _)).symm|(refine (congrArg some (zf.zY ?_ _ _)).symm;intro _;rfl))) Z Z (ob':=[(0,.cells [.t (.str n),.own 1 2 ((D++one (zW b.fields x) (zB n 45 x.name)).map z4.enc)]),(1,.arr (D++one (zW b.fields x) (zB n 45 x.name)).length)]) (rfl) Z Z ?_
  refine fM Z ?_;refine aL Z Z Z Z Z ?_;refine fM Z ?_;exact zd 4 Z (ih (D++one (zW b.fields x) (zB n 45 x.name)) (by rw [←hD];simp)) Z Z Z
end Go.GB.C24
namespace Go.GB
theorem LeZ.zeS {s:S} {m m' k off:Nat} {cs:List V} {ts:List T} (hk:m<=k) (hs:zj s.sto k=some (.cells cs)) (hts:(cs.drop off).mapM V.zx=some ts):LeZ s m m' (.ptr k off) (.t (.ptr ts)):=by
 intro Λ v hm hr hv
 cases hv with
 |@ptr b _ _ hkn hlab=>
  obtain ⟨_,b',arr,e,h1,h2,h3,h4⟩:=hr.sto k _ hs;obtain rfl:=hr.inj b b' k hlab h1;obtain ⟨k1,k2⟩:=z0f _ ts hts
  have hlab':(Λ.cut m m').lab b= .fix none:=by simp [L.cut,hlab];omega
  have hat:∀(j:Nat) (x:T),ts[j]?=some x->∃c,cs[off+j]?=some c/\c.zx=some x/\off+j<arr.size:=fun j x hj=>by
   have hjl:j<ts.length:=(w02.1 hj).1;rw [←k1,List.length_drop] at hjl
   have hc:(cs.drop off)[j]?=some (cs[off+j]'(by omega)):=by
    rw [w0z,w0f (by omega)]
   exact ⟨cs[off+j]'(by omega),w0f (by omega),k2 j _ x hc hj,by omega⟩
  refine .t (.ptr ts b off (fun j=>arr.getD (off+j) undef) (fun j x _=>by simp [Rd,hlab']) (fun j x hj=>?_) (fun j x hj=>?_))
  ·obtain ⟨c,_,_,hl⟩:=hat j x hj;show Λ.w.cell? _=_;simp [World.cell?,h2,hl]
  ·obtain ⟨c,hc,hc1,hl⟩:=hat j x hj
   have hv:arr[off+j]?=some (arr.getD (off+j) undef):=by simp [hl]
   exact ((h4 (off+j) _ c hv hc).zx hc1).cut
end Go.GB
namespace Go.GB.C24
open Go.GB Go.GB.C11
variable {P:Program}
def yM (a b:List Input) (n:Str):List z4:=a.flatMap (Zw b n)++zm (y3 a) (fun y=>zB n 45 y.name) b
theorem z5d (a b:List Input) (n:Str):(yM a b n).length<=a.length+b.length:=by
 have h1:=zQ (l:=a) (g:=Zw b n) fun x _=>z2Y _ _ x;have h2:=Zp (y3 a) (fun y=>zB n 45 y.name) b;simp only [yM,w03];omega
theorem Wa (a b:Ref):wL a b=wL b a:=by
 rw [w1n,QM,QM];exact eq_comm
theorem z7s (H:zG P) (n:Str) (hn:n.length<=140737488355328) (F:List z4) (hF:F.length<=4398000000000) (a b:List Input) (ha:a.length<=1000) (hb:b.length<=1000) (hao:∀x,x∈a->x.Ok/\x.name≠[]) (hbo:∀x,x∈b->x.Ok/\x.name≠[]):z5 P 40 [.ptr 0 0,.t (.lst (a.map Input.enc)),.t (.lst (b.map Input.enc))] ⟨[(0,.cells [.t (.str n),.own 1 2 ((F).map z4.enc)]),(1,.arr (F).length)],2⟩ {v:= .tup [],ob:=[(0,.cells [.t (.str n),.own 1 2 ((F++yM a b n).map z4.enc)]),(1,.arr (F++yM a b n).length)],rd:=true}:=by
 have e0:F++(a.flatMap (Zw b n)++zm (y3 a) (fun y=>zB n 45 y.name) b)=F++yM a b n:=rfl;have hlen:=z5d a b n
 have hTl:(F++yM a b n).length<=4398046511104:=by simp only [w03];omega
 generalize F++yM a b n=tot at e0 hTl⊢;refine z5.run H.i40 H.mixed Z Z ?_;refine fR Z ?_;refine lM Z Z Z ?_;refine fM Z ?_;refine zn a (fun i (C:List z4)=>{env:=[(0,.ptr 0 0),(1,.t (.lst (a.map Input.enc))),(2,.t (.lst (b.map Input.enc))),(14,.t (.lst (a.map Input.enc))),(15,.t (.int .i64 a.length)),(16,.t (.int .i64 i))],s:=⟨[(0,.cells [.t (.str n),.own 1 2 ((C).map z4.enc)]),(1,.arr (C).length)],2⟩}) (fun r i C=>C++(r.flatMap (Zw b n)++zm (y3 a) (fun y=>zB n 45 y.name) b)=tot) 2 F Z e0 Z Z Z ?_ ?_
 ·intro C hC;refine fR Z ?_;refine Run.z9 Z Z (by simp) ?_;refine fR Z ?_;refine lM Z Z Z ?_;refine fM Z ?_;refine zn b (fun i (C:List z4)=>{env:=[(0,.ptr 0 0),(1,.t (.lst (a.map Input.enc))),(54,.t (.lst (b.map Input.enc))),(55,.t (.int .i64 b.length)),(56,.t (.int .i64 i))],s:=⟨[(0,.cells [.t (.str n),.own 1 2 ((C).map z4.enc)]),(1,.arr (C).length)],2⟩}) (fun r i C=>C++zm (y3 a) (fun y=>zB n 45 y.name) r=tot) 2 C Z (by simpa using hC) Z Z Z ?_ ?_
  ·intro D hD
   have hD2:D=tot:=by simpa [zm] using hD
   rw [hD2];refine fR Z ?_;refine Run.z9 Z Z (by simp) ?_;skip;refine Run.fin Z (z3.chg Z Z ?_ ?_)
   ·exact .le (.same Z)
   ·exact leSA
  ·intro i x r D h1 hi hdr hD ih
   have hD:D++(one (y3 a x) (zB n 45 x.name)++zm (y3 a) (fun y=>zB n 45 y.name) r)=tot:=by rw [←hD];simp [zm]
   have hDl:D.length<=4398046511104:=by have:=congrArg List.length hD;simp only [w03] at this;omega
   have hx:=hbo x (zMG h1);have hxn:=hx.1.nm;have g1:=wh H n D hDl (y3 a x) 45 x.name (by omega) (by omega);rw [yi _ _ _ hx.2] at g1;refine fR Z ?_;refine Run.zb Z Z (by simp;omega) ?_;refine fR Z ?_;refine Mid.z6 Z Z Z h1 Z Z ?_;refine fM Z ?_;refine Mid.call (qP H.p13.toPr a (by omega) x.name) Z Z Z Z ?_;refine fM Z ?_
   refine Mid.yp [0,1] (g1) Z Z Z Z (by simp [zZ];simp [zf.bd,V.bds,V.bd]) (by repeat' (first |exact trivial|exact rfl|refine And.intro ?_ ?_|exact (congrArg some (zf.ren_mE _ _ _ _ _ _)).symm|exact (congrArg some (zf.ren_cE _ _ _)).symm|(refine (congrArg some (zf.zY ?_ _ _)).symm;intro _;rfl))) Z Z (ob':=[(0,.cells [.t (.str n),.own 1 2 ((D++one (y3 a x) (zB n 45 x.name)).map z4.enc)]),(1,.arr (D++one (y3 a x) (zB n 45 x.name)).length)]) (rfl) Z Z ?_
   refine fM Z ?_;refine aL Z Z Z Z Z ?_;refine fM Z ?_;exact zd 2 Z (ih (D++one (y3 a x) (zB n 45 x.name)) (by rw [←hD];simp)) Z Z Z
 ·intro i x r D h1 hi hdr hD ih
  have hD:D++(Zw b n x++(r.flatMap (Zw b n)++zm (y3 a) (fun y=>zB n 45 y.name) b))=tot:=by rw [←hD];simp
  have hDl:D.length<=4398046511104:=by have:=congrArg List.length hD;simp only [w03] at this;omega
  have hx:=hao x (zMG h1);have hxn:=hx.1.nm;refine fR Z ?_;refine Run.zb Z Z (by simp;omega) ?_;refine fR Z ?_;refine Mid.z6 Z Z Z h1 Z Z ?_;refine fM Z ?_;refine Mid.call (qP H.p13.toPr b (by omega) x.name) Z Z Z Z ?_;refine fM Z ?_
  cases hf:zw x.name b with
  |none=>
   have e:Zw b n x=[zB n 45 x.name]:=by simp [Zw,hf]
   rw [e] at hD;have g1:=wh H n D hDl true 45 x.name (by omega) (by omega);rw [yi _ _ _ hx.2,Y5] at g1;refine Run.zb Z Z Z ?_;refine fR Z ?_
   refine Mid.yp [0,1] (g1) Z Z Z Z (by simp [zZ];simp [zf.bd,V.bds,V.bd]) (by repeat' (first |exact trivial|exact rfl|refine And.intro ?_ ?_|exact (congrArg some (zf.ren_mE _ _ _ _ _ _)).symm|exact (congrArg some (zf.ren_cE _ _ _)).symm|(refine (congrArg some (zf.zY ?_ _ _)).symm;intro _;rfl))) Z Z (ob':=[(0,.cells [.t (.str n),.own 1 2 ((D++[zB n 45 x.name]).map z4.enc)]),(1,.arr (D++[zB n 45 x.name]).length)]) (rfl) Z Z ?_
   refine fM Z ?_;refine aL Z Z Z Z Z ?_;refine fM Z ?_;exact zd 2 Z (ih (D++[zB n 45 x.name]) (by rw [←hD];simp)) Z Z Z
  |some y=>
   have hy:=hbo y (wm hf);refine Run.z9 Z Z Z ?_;refine fR Z ?_;refine Mid.call (z2w H.p13.toPr x.ty y.ty hx.1.t hy.1.t) Z Z Z Z ?_;refine fM Z ?_;refine Run.cond Z Z (fun hs=>?_) (fun hs=>?_)
   ·have hs':wL y.ty x.ty=false:=by rw [Wa];simpa using hs
    have e:Zw b n x=[zB n 10 x.name]:=by simp [Zw,hf,hs']
    rw [e] at hD;have g1:=wh H n D hDl true 10 x.name (by omega) (by omega);rw [yi _ _ _ hx.2,Y5] at g1;refine fR Z ?_
    refine Mid.yp [0,1] (g1) Z Z Z Z (by simp [zZ];simp [zf.bd,V.bds,V.bd]) (by repeat' (first |exact trivial|exact rfl|refine And.intro ?_ ?_|exact (congrArg some (zf.ren_mE _ _ _ _ _ _)).symm|exact (congrArg some (zf.ren_cE _ _ _)).symm|(refine (congrArg some (zf.zY ?_ _ _)).symm;intro _;rfl))) Z Z (ob':=[(0,.cells [.t (.str n),.own 1 2 ((D++[zB n 10 x.name]).map z4.enc)]),(1,.arr (D++[zB n 10 x.name]).length)]) (rfl) Z Z ?_
    refine fM Z ?_;refine aL Z Z Z Z Z ?_;refine fM Z ?_;exact zd 2 Z (ih (D++[zB n 10 x.name]) (by rw [←hD];simp)) Z Z Z
   ·have hs':wL y.ty x.ty=true:=by rw [Wa];simpa using hs
    have e:Zw b n x=one (!alike x y) (zB n 22 x.name):=by rw [z3g];simp [Zw,hf,hs']
    rw [e] at hD;have g1:=wh H n D hDl (!alike x y) 22 x.name (by omega) (by omega);rw [yi _ _ _ hx.2] at g1;refine fR Z ?_;refine Mid.call (z4O H x y hx.1 hy.1) Z Z Z Z ?_;refine fM Z ?_
    refine Mid.yp [0,1] (g1) Z Z Z Z (by simp [zZ];simp [zf.bd,V.bds,V.bd]) (by repeat' (first |exact trivial|exact rfl|refine And.intro ?_ ?_|exact (congrArg some (zf.ren_mE _ _ _ _ _ _)).symm|exact (congrArg some (zf.ren_cE _ _ _)).symm|(refine (congrArg some (zf.zY ?_ _ _)).symm;intro _;rfl))) Z Z (ob':=[(0,.cells [.t (.str n),.own 1 2 ((D++one (!alike x y) (zB n 22 x.name)).map z4.enc)]),(1,.arr (D++one (!alike x y) (zB n 22 x.name)).length)]) (rfl) Z Z ?_
    refine fM Z ?_;refine aL Z Z Z Z Z ?_;refine fM Z ?_;exact zd 2 Z (ih (D++one (!alike x y) (zB n 22 x.name)) (by rw [←hD];simp)) Z Z Z
def W8 (l:List zh) (x:zh):zh:=match zK x.name l with|some y=>⟨x.name,Zn x.zg y.zg⟩|none=>x
def ZA (a b:List zh) (n:Str):List z4:=a.flatMap (ZL b n)++zm (Y0 a) (fun y=>zB n 45 y.name) b
theorem z3R (a b:List zh) (n:Str):(ZA a b n).length<=a.length+b.length:=by
 have h1:=zQ (l:=a) (g:=ZL b n) fun x _=>z34 _ _ x;have h2:=Zp (Y0 a) (fun y=>zB n 45 y.name) b;simp only [ZA,w03];omega
structure MK (x:zh):Prop where
 ok:x.Ok
 dl:DL x.zg
 da:DA x.zg
 nn:x.name≠[]
theorem z6t (H:zG P) (n:Str) (hn:n.length<=140737488355328) (F:List z4) (hF:F.length<=4398000000000) (a b:List zh) (ha:a.length<=1000) (hb:b.length<=1000) (hao:∀x,x∈a->MK x) (hbo:∀x,x∈b->MK x):z5 P 39 [.ptr 0 0,.t (.lst (a.map zh.enc)),.t (.lst (b.map zh.enc))] ⟨[(0,.cells [.t (.str n),.own 1 2 ((F).map z4.enc)]),(1,.arr (F).length)],2⟩ {v:= .t (.lst ((a.map (W8 b)).map zh.enc)),ob:=[(0,.cells [.t (.str n),.own 1 2 ((F++ZA a b n).map z4.enc)]),(1,.arr (F++ZA a b n).length)],rd:=true}:=by
 have e0:F++(a.flatMap (ZL b n)++zm (Y0 a) (fun y=>zB n 45 y.name) b)=F++ZA a b n:=rfl;have hlen:=z3R a b n
 have hTl:(F++ZA a b n).length<=4398046511104:=by simp only [w03];omega
 generalize F++ZA a b n=tot at e0 hTl⊢;refine z5.run H.i39 H.mixed Z Z ?_;refine fR Z ?_;refine lM Z Z Z ?_;refine fM Z ?_;refine zn a (fun i (q:List z4×List zh)=>{env:=[(0,.ptr 0 0),(1,.t (.lst (a.map zh.enc))),(2,.t (.lst (b.map zh.enc))),(7,.own 2 2 (q.2.map zh.enc)),(16,.t (.lst (a.map zh.enc))),(17,.t (.int .i64 a.length)),(18,.t (.int .i64 i))],s:=⟨[(0,.cells [.t (.str n),.own 1 2 (q.1.map z4.enc)]),(1,.arr q.1.length),(2,.arr q.2.length)],3⟩}) (fun r i q=>q.1++(r.flatMap (ZL b n)++zm (Y0 a) (fun y=>zB n 45 y.name) b)=tot/\q.2++r.map (W8 b)=a.map (W8 b)) 2 (F,[]) Z ⟨e0,rfl⟩ Z Z Z ?_ ?_
 ·rintro ⟨C,M⟩ ⟨hC,hM⟩;dsimp only at hC hM⊢
  have hM2:M=a.map (W8 b):=by simpa using hM
  refine fR Z ?_;refine Run.z9 Z Z (by simp) ?_;refine fR Z ?_;refine lM Z Z Z ?_;refine fM Z ?_;refine zn b (fun i (C:List z4)=>{env:=[(0,.ptr 0 0),(1,.t (.lst (a.map zh.enc))),(7,.t (.lst (M.map zh.enc))),(50,.t (.lst (b.map zh.enc))),(51,.t (.int .i64 b.length)),(52,.t (.int .i64 i))],s:=⟨[(0,.cells [.t (.str n),.own 1 2 ((C).map z4.enc)]),(1,.arr (C).length)],2⟩}) (fun r i C=>C++zm (Y0 a) (fun y=>zB n 45 y.name) r=tot) 2 C Z (by simpa using hC) Z Z Z ?_ ?_
  ·intro D hD
   have hD2:D=tot:=by simpa [zm] using hD
   rw [hD2,←hM2];refine fR Z ?_;refine Run.z9 Z Z (by simp) ?_;refine fR Z ?_;refine Run.fin Z (z3.chg Z Z ?_ ?_)
   ·exact .t Z
   ·exact leSA
  ·intro i x r D h1 hi hdr hD ih
   have hD:D++(one (Y0 a x) (zB n 45 x.name)++zm (Y0 a) (fun y=>zB n 45 y.name) r)=tot:=by rw [←hD];simp [zm]
   have hDl:D.length<=4398046511104:=by have:=congrArg List.length hD;simp only [w03] at this;omega
   have hx:=hbo x (zMG h1);have hxn:=hx.ok.nm;have g1:=wh H n D hDl (Y0 a x) 45 x.name (by omega) (by omega);rw [yi _ _ _ hx.nn] at g1;refine fR Z ?_;refine Run.zb Z Z (by simp;omega) ?_;refine fR Z ?_;refine Mid.z6 Z Z Z h1 Z Z ?_;refine fM Z ?_;refine Mid.call (z2K H a (by omega) x.name) Z Z Z Z ?_;refine fM Z ?_
   refine Mid.yp [0,1] (g1) Z Z Z Z (by simp [zZ];simp [zf.bd,V.bds,V.bd]) (by repeat' (first |exact trivial|exact rfl|refine And.intro ?_ ?_|exact (congrArg some (zf.ren_mE _ _ _ _ _ _)).symm|exact (congrArg some (zf.ren_cE _ _ _)).symm|(refine (congrArg some (zf.zY ?_ _ _)).symm;intro _;rfl))) Z Z (ob':=[(0,.cells [.t (.str n),.own 1 2 ((D++one (Y0 a x) (zB n 45 x.name)).map z4.enc)]),(1,.arr (D++one (Y0 a x) (zB n 45 x.name)).length)]) (rfl) Z Z ?_
   refine fM Z ?_;refine aL Z Z Z Z Z ?_;refine fM Z ?_;exact zd 2 Z (ih (D++one (Y0 a x) (zB n 45 x.name)) (by rw [←hD];simp)) Z Z Z
 ·rintro i x r ⟨D,M⟩ h1 hi hdr ⟨hD,hM⟩ ih;dsimp only at hD hM⊢
  have hD:D++(ZL b n x++(r.flatMap (ZL b n)++zm (Y0 a) (fun y=>zB n 45 y.name) b))=tot:=by rw [←hD];simp
  have hDl:D.length+(ZL b n x).length<=4398046511104:=by have:=congrArg List.length hD;simp only [w03] at this;omega
  have hM:M++(W8 b x::r.map (W8 b))=a.map (W8 b):=hM
  have hMl:M.length<=1000:=by have:=congrArg List.length hM;simp only [w03,w0r] at this;omega
  have hx:=hao x (zMG h1);have hxn:=hx.ok.nm;refine fR Z ?_;refine Run.zb Z Z (by simp;omega) ?_;refine fR Z ?_;refine Mid.z6 Z Z Z h1 Z Z ?_;refine fM Z ?_;refine Mid.call (z2K H b (by omega) x.name) Z Z Z Z ?_;refine fM Z ?_
  cases hf:zK x.name b with
  |none=>
   have e:ZL b n x=[zB n 45 x.name]:=by simp [ZL,hf]
   have e2:W8 b x=x:=by simp [W8,hf]
   rw [e] at hD hDl;rw [e2] at hM;have g1:=wh H n D (by omega) true 45 x.name (by omega) (by omega);rw [yi _ _ _ hx.nn,Y5] at g1
   refine Mid.yp [0,1] (g1) Z Z Z Z (by simp [zZ];simp [zf.bd,V.bds,V.bd]) (by repeat' (first |exact trivial|exact rfl|refine And.intro ?_ ?_|exact (congrArg some (zf.ren_mE _ _ _ _ _ _)).symm|exact (congrArg some (zf.ren_cE _ _ _)).symm|(refine (congrArg some (zf.zY ?_ _ _)).symm;intro _;rfl))) Z Z (ob':=[(0,.cells [.t (.str n),.own 1 2 ((D++[zB n 45 x.name]).map z4.enc)]),(1,.arr (D++[zB n 45 x.name]).length)]) (rfl) Z Z ?_
   refine fM Z ?_;refine Run.z9 Z Z Z ?_;refine fR Z ?_;refine apM zh.enc M [x] Z Z Z Z Z ?_ (h1:=by first |omega|(simp;omega)|(simp;done)) (h2:=by first |omega|(simp;omega)|(simp;done));refine fM rfl ?_;refine aL rfl rfl rfl rfl rfl ?_;refine fM rfl ?_;exact zd 3 rfl (ih (D++[zB n 45 x.name],M++[x]) ⟨by rw [←hD];simp,by rw [←hM];simp⟩) rfl rfl rfl
  |some y=>
   have hy:=hbo y (Ym hf)
   have e:ZL b n x=one (zO x.zg y.zg) (zB n 29 x.name):=by simp [ZL,hf]
   have e2:W8 b x=⟨x.name,Zn x.zg y.zg⟩:=by simp [W8,hf]
   rw [e] at hD hDl;rw [e2] at hM;have g1:=wh H n D (by omega) false 45 x.name (by omega) (by omega);rw [Yl,w1j] at g1;have g2:=z3h H n D (by omega) x.zg y.zg hx.dl hy.dl hx.da hy.da x.name (by omega) (by omega);rw [yi _ _ _ hx.nn] at g2
   refine Mid.yp [0,1] (g1) Z Z Z Z (by simp [zZ];simp [zf.bd,V.bds,V.bd]) (by repeat' (first |exact trivial|exact rfl|refine And.intro ?_ ?_|exact (congrArg some (zf.ren_mE _ _ _ _ _ _)).symm|exact (congrArg some (zf.ren_cE _ _ _)).symm|(refine (congrArg some (zf.zY ?_ _ _)).symm;intro _;rfl))) Z Z (ob':=[(0,.cells [.t (.str n),.own 1 2 ((D).map z4.enc)]),(1,.arr (D).length)]) (rfl) Z Z ?_
   refine fM Z ?_;refine Run.zb Z Z Z ?_;refine fR Z ?_
   refine Mid.yp [0,1] (g2) Z Z Z Z (by simp [zZ];simp [zf.bd,V.bds,V.bd]) (by repeat' (first |exact trivial|exact rfl|refine And.intro ?_ ?_|exact (congrArg some (zf.ren_mE _ _ _ _ _ _)).symm|exact (congrArg some (zf.ren_cE _ _ _)).symm|(refine (congrArg some (zf.zY ?_ _ _)).symm;intro _;rfl))) Z Z (ob':=[(0,.cells [.t (.str n),.own 1 2 ((D++one (zO x.zg y.zg) (zB n 29 x.name)).map z4.enc)]),(1,.arr (D++one (zO x.zg y.zg) (zB n 29 x.name)).length)]) (rfl) Z Z ?_
   refine fM Z ?_;refine apM zh.enc M [(⟨x.name,Zn x.zg y.zg⟩:zh)] Z Z Z Z Z ?_ (h1:=by first |omega|(simp;omega)|(simp;done)) (h2:=by first |omega|(simp;omega)|(simp;done));refine fM rfl ?_;refine aL rfl rfl rfl rfl rfl ?_;refine fM rfl ?_;exact zd 3 rfl (ih (D++one (zO x.zg y.zg) (zB n 29 x.name),M++[⟨x.name,Zn x.zg y.zg⟩]) ⟨by rw [←hD];simp,by rw [←hM];simp⟩) rfl rfl rfl
theorem zak {l:List Field} {x:Field} (h:zu x.name l=none):YP l x=Zg x:=by
 simp [YP,h,Zg,Zn,ZY,Field.zero]
theorem za1 {l:List Field} {x y:Field} (h:zu x.name l=some y):YP l x=⟨x.name,x.args,yQ x.ty y.ty,Zn x.zg y.zg⟩:=by
 simp [YP,h]
theorem z7H (H:zG P) {k:Nat} (hk:k<=1000000) (n:Str) (hn:n.length<=140737488355328) (F:List z4) (hF:F.length<=2000000) (a b:Def) (ha:DB k a) (hb:DB k b) (na:NM a) (nb:NM b):z5 P 37 [.ptr 0 0,a.v,b.v] ⟨[(0,.cells [.t (.str n),.own 1 2 ((F).map z4.enc)]),(1,.arr (F).length)],2⟩ {v:= .t (.lst ((a.fields.map (YP b.fields)++Zt a.fields b.fields).map Field.enc)),ob:=[(0,.cells [.t (.str n),.own 1 2 ((F++a.fields.flatMap (Z1 b.fields n)).map z4.enc)]),(1,.arr (F++a.fields.flatMap (Z1 b.fields n)).length)],rd:=true}:=by
 have hal:=ha.fl;have hbl:=hb.fl;have h1:=zQ (l:=a.fields) (g:=Z1 b.fields n) fun x hx=>Ql hb.f _ (ha.f x hx)
 have hTl:(F++a.fields.flatMap (Z1 b.fields n)).length<=4398000000000:=by
  have:a.fields.length*2002<=1000000*2002:=w0s _ (by omega);simp only [w03];omega
 generalize hT:F++a.fields.flatMap (Z1 b.fields n)=tot at hTl⊢;have hRl:=QI a.fields b.fields;generalize hR:a.fields.map (YP b.fields)++Zt a.fields b.fields=res
 have hresl:res.length<=2000000:=by rw [←hR];simp;omega
 refine z5.run H.i37 H.mixed Z Z ?_;refine fR Z ?_;refine lM Z Z Z ?_;refine fM Z ?_;refine zn a.fields (fun i (q:List z4×List Field)=>{env:=[(0,.ptr 0 0),(4,.ptr 2 0),(5,.ptr 3 0),(7,.own 4 5 (q.2.map Field.enc)),(20,.t (.lst (a.fields.map Field.enc))),(21,.t (.int .i64 a.fields.length)),(22,.t (.int .i64 i))],s:=⟨[(0,.cells [.t (.str n),.own 1 2 (q.1.map z4.enc)]),(1,.arr q.1.length),(2,(TCo a)),(3,(TCo b)),(4,.arr q.2.length)],5⟩}) (fun r i q=>q.1++r.flatMap (Z1 b.fields n)=tot/\q.2++(r.map (YP b.fields)++Zt a.fields b.fields)=res) 4 (F,[]) Z ⟨hT,hR⟩ Z Z Z ?_ ?_
 ·rintro ⟨C,M⟩ ⟨hC,hM⟩;dsimp only at hC hM⊢
  have hC2:C=tot:=by simpa using hC
  rw [hC2];refine fR Z ?_;refine Run.z9 Z Z (by simp) ?_;refine fR Z ?_;refine lM Z Z Z ?_;refine fM Z ?_;refine zn b.fields (fun i (M:List Field)=>{env:=[(4,.ptr 2 0),(7,.own 4 5 (M.map Field.enc)),(71,.t (.lst (b.fields.map Field.enc))),(72,.t (.int .i64 b.fields.length)),(73,.t (.int .i64 i))],s:=⟨[(0,.cells [.t (.str n),.own 1 2 (tot.map z4.enc)]),(1,.arr tot.length),(2,(TCo a)),(4,.arr M.length)],5⟩}) (fun r i M=>M++Zt a.fields r=res) 5 M Z (by simpa using hM) Z Z Z ?_ ?_
  ·intro N hN
   have hN2:N=res:=by simpa [Zt] using hN
   rw [hN2];refine fR Z ?_;refine Run.z9 Z Z (by simp) ?_;refine fR Z ?_;refine Run.fin Z (z3.chg Z Z ?_ ?_)
   ·exact .own Z
   ·exact leSA
  ·intro i x r N h1 hi hdr hN ih;have hxm:=zMG h1;have hxb:=hb.f x hxm
   have hNl:N.length+(Zt a.fields (x::r)).length<=2000000:=by have:=congrArg List.length hN;simp only [w03] at this;omega
   have g1:=qI H hk x hxb (nb.fa x hxm) (nb.fi x hxm);refine fR Z ?_;refine Run.zb Z Z (by simp;omega) ?_;refine fR Z ?_;refine Mid.z6 Z Z Z h1 Z Z ?_;refine fM Z ?_;refine Mid.call (qJ H.p13.toPr a (by omega) x.name) Z Z Z Z ?_;refine fM Z ?_;refine Run.cond Z Z (fun hc=>?_) (fun hc=>?_)
   ·have e:Zt a.fields (x::r)=Zg x::Zt a.fields r:=by simp only [Zt];rw [w0e (show zW a.fields x=true from hc)]
    rw [e] at hN hNl;refine fR Z ?_;refine Mid.call (g1) Z Z Z Z ?_;refine fM Z ?_;refine apM Field.enc N [Zg x] Z Z Z Z Z ?_ (h1:=by first |omega|(simp;omega)|(simp;done)) (h2:=by first |omega|(simp;omega)|(simp;done));refine fM rfl ?_;refine aL rfl rfl rfl rfl rfl ?_;refine fM rfl ?_;exact zd 5 rfl (ih (N++[Zg x]) (by rw [←hN];simp)) rfl rfl rfl
   ·have e:Zt a.fields (x::r)=Zt a.fields r:=by simp only [Zt];rw [w0g (show ¬ zW a.fields x=true by rw [show zW a.fields x=false from hc];simp)]
    rw [e] at hN;refine fR Z ?_;refine aL Z Z Z Z Z ?_;refine fM Z ?_;exact zd 5 Z (ih N hN) Z Z Z
 ·rintro i x r ⟨D,M⟩ h1 hi hdr ⟨hD,hM⟩ ih;dsimp only at hD hM⊢;have hxm:=zMG h1;have hxb:=ha.f x hxm;have hxn:=hxb.ok.nm
  have hD:D++(Z1 b.fields n x++r.flatMap (Z1 b.fields n))=tot:=by rw [←hD];simp
  have hDl:D.length+(Z1 b.fields n x).length<=4398000000000:=by have:=congrArg List.length hD;simp only [w03] at this;omega
  have hM:M++(YP b.fields x::(r.map (YP b.fields)++Zt a.fields b.fields))=res:=hM
  have hMl:M.length<=2000000:=by have:=congrArg List.length hM;simp only [w03] at this;omega
  have g1:=qI H hk x hxb (na.fa x hxm) (na.fi x hxm);refine fR Z ?_;refine Run.zb Z Z (by simp;omega) ?_;refine fR Z ?_;refine Mid.z6 Z Z Z h1 Z Z ?_;refine fM Z ?_;refine Mid.call (g1) Z Z Z Z ?_;refine fM Z ?_;refine Mid.call (qJ H.p13.toPr b (by omega) x.name) Z Z Z Z ?_;refine fM Z ?_
  cases hf:zu x.name b.fields with
  |none=>
   have e:Z1 b.fields n x=[]:=by simp [Z1,hf]
   rw [e,w0u] at hD;rw [zak hf] at hM;refine Run.z9 Z Z Z ?_;refine fR Z ?_;refine apM Field.enc M [Zg x] Z Z Z Z Z ?_ (h1:=by first |omega|(simp;omega)|(simp;done)) (h2:=by first |omega|(simp;omega)|(simp;done));refine fM rfl ?_;refine aL rfl rfl rfl rfl rfl ?_;refine fM rfl ?_;exact zd 5 rfl (ih (D,M++[Zg x]) ⟨hD,by rw [←hM];simp⟩) rfl rfl rfl
  |some y=>
   have hym:=wY hf;have hyb:=hb.f y hym
   have e:Z1 b.fields n x=one (!Zj x.ty y.ty) (zB n 10 x.name)++(Yf x y (n++[46]++x.name)++one (zO x.zg y.zg) (zB n 29 x.name)):=by simp [Z1,hf,WC,Yf,zB]
   rw [e] at hD hDl;simp only [w03] at hDl;rw [za1 hf] at hM;have g2:=z7S H x.ty y.ty hxb.ok.t hyb.ok.t;have g3:=wh H n D (by omega) (!Zj x.ty y.ty) 10 x.name (by omega) (by omega);rw [yi _ _ _ (na.fN x hxm)] at g3;have g4:=zcE H n hn (D++one (!Zj x.ty y.ty) (zB n 10 x.name)) (by simp only [w03];omega) x y hxb hyb;have g5:=z3h H n (D++one (!Zj x.ty y.ty) (zB n 10 x.name)++Yf x y (n++[46]++x.name)) (by simp only [w03];omega) x.zg y.zg (hxb.d hk) (hyb.d hk) (na.fa x hxm) (nb.fa y hym) x.name (by omega) (by omega);rw [yi _ _ _ (na.fN x hxm)] at g5;refine Run.zb Z Z Z ?_;refine fR Z ?_;refine Mid.call g2 Z Z Z Z ?_
   refine Mid.Wn (f:=6) Z (by (repeat' (first |exact trivial|exact w12 _|exact WR _|exact qd _|exact grd3 _ _|exact q6 _ _|refine And.intro ?_ ?_|exact rfl|(simp;done)|(simp<;>omega)));done) ?_
   refine Mid.WM Z ?_
   refine Run.z3j 8 Z (st':={env:=[(0,.ptr 0 0),(4,.ptr 2 0),(5,.ptr 3 0),(7,.own 4 5 (M.map Field.enc)),(9,.ptr 5 0),(10,.ptr 6 0),(11,.ptr 7 0),(13,.t (.ptr [.str (yQ x.ty y.ty).name,.lst ((yQ x.ty y.ty).z8.map nE)])),(14,.t (.bool (Zj x.ty y.ty))),(20,.t (.lst (a.fields.map Field.enc))),(21,.t (.int .i64 a.fields.length)),(22,.t (.int .i64 i))],s:=⟨[(0,.cells [.t (.str n),.own 1 2 (D.map z4.enc)]),(1,.arr D.length),(2,(TCo a)),(3,(TCo b)),(4,.arr M.length),(5,.cells [.t (.str x.name),.t (.lst (x.args.map Input.enc)),.t (.str x.ty.name),.t (.lst (x.ty.z8.map nE)),.t (.lst (x.zg.map Dir.enc))]),(6,.cells [.t (.str (Zg x).name),.t (.lst ((Zg x).args.map Input.enc)),.t (.str (Zg x).ty.name),.t (.lst ((Zg x).ty.z8.map nE)),.t (.lst ((Zg x).zg.map Dir.enc))]),(7,.cells [.t (.str y.name),.t (.lst (y.args.map Input.enc)),.t (.str y.ty.name),.t (.lst (y.ty.z8.map nE)),.t (.lst (y.zg.map Dir.enc))])],8⟩}) ?_ Z Z Z (by repeat' (first |exact trivial|exact LeZ.le (w11 rfl) (.same rfl)|exact LeZ.zeS (w11 rfl) rfl rfl|exact Or.inl ⟨w11 rfl,_,rfl,.le (.cells (.same rfl))⟩|exact Or.inl ⟨w11 rfl,_,rfl,.le (.arr rfl)⟩|refine And.intro ?_ ?_)) (by repeat' (first |exact trivial|exact LeZ.le (w11 rfl) (.same rfl)|exact LeZ.zeS (w11 rfl) rfl rfl|exact Or.inl ⟨w11 rfl,_,rfl,.le (.cells (.same rfl))⟩|exact Or.inl ⟨w11 rfl,_,rfl,.le (.arr rfl)⟩|refine And.intro ?_ ?_))
   refine fR Z ?_
   refine Mid.yp [0,1] (g3) Z Z Z Z (by simp [zZ];simp [zf.bd,V.bds,V.bd]) (by repeat' (first |exact trivial|exact rfl|refine And.intro ?_ ?_|exact (congrArg some (zf.ren_mE _ _ _ _ _ _)).symm|exact (congrArg some (zf.ren_cE _ _ _)).symm|(refine (congrArg some (zf.zY ?_ _ _)).symm;intro _;rfl))) Z Z (ob':=[(0,.cells [.t (.str n),.own 1 2 ((D++one (!Zj x.ty y.ty) (zB n 10 x.name)).map z4.enc)]),(1,.arr (D++one (!Zj x.ty y.ty) (zB n 10 x.name)).length)]) (rfl) Z Z ?_
   refine fM Z ?_
   refine Mid.yp [0,1] (g4) Z Z Z Z (by simp [zZ];simp [zf.bd,V.bds,V.bd]) (by repeat' (first |exact trivial|exact rfl|refine And.intro ?_ ?_|exact (congrArg some (zf.ren_mE _ _ _ _ _ _)).symm|exact (congrArg some (zf.ren_cE _ _ _)).symm|(refine (congrArg some (zf.zY ?_ _ _)).symm;intro _;rfl))) Z Z (ob':=[(0,.cells [.t (.str n),.own 1 2 ((D++one (!Zj x.ty y.ty) (zB n 10 x.name)++Yf x y (n++[46]++x.name)).map z4.enc)]),(1,.arr (D++one (!Zj x.ty y.ty) (zB n 10 x.name)++Yf x y (n++[46]++x.name)).length)]) (rfl) Z Z ?_
   refine fM Z ?_
   refine Mid.yp [0,1] (g5) Z Z Z Z (by simp [zZ];simp [zf.bd,V.bds,V.bd]) (by repeat' (first |exact trivial|exact rfl|refine And.intro ?_ ?_|exact (congrArg some (zf.ren_mE _ _ _ _ _ _)).symm|exact (congrArg some (zf.ren_cE _ _ _)).symm|(refine (congrArg some (zf.zY ?_ _ _)).symm;intro _;rfl))) Z Z (ob':=[(0,.cells [.t (.str n),.own 1 2 ((D++one (!Zj x.ty y.ty) (zB n 10 x.name)++Yf x y (n++[46]++x.name)++one (zO x.zg y.zg) (zB n 29 x.name)).map z4.enc)]),(1,.arr (D++one (!Zj x.ty y.ty) (zB n 10 x.name)++Yf x y (n++[46]++x.name)++one (zO x.zg y.zg) (zB n 29 x.name)).length)]) (rfl) Z Z ?_
   refine fM Z ?_;refine apM Field.enc M [(⟨x.name,x.args,yQ x.ty y.ty,Zn x.zg y.zg⟩:Field)] Z Z Z Z Z ?_ (h1:=by first |omega|(simp;omega)|(simp;done)) (h2:=by first |omega|(simp;omega)|(simp;done));refine fM rfl ?_;refine aL rfl rfl rfl rfl rfl ?_;refine fM rfl ?_;exact zd 5 rfl (ih (D++one (!Zj x.ty y.ty) (zB n 10 x.name)++Yf x y (n++[46]++x.name)++one (zO x.zg y.zg) (zB n 29 x.name),M++[⟨x.name,x.args,yQ x.ty y.ty,Zn x.zg y.zg⟩]) ⟨by rw [←hD];simp,by rw [←hM];simp⟩) rfl rfl rfl
end Go.GB.C24
namespace Go.GB
section
variable {P:Program}
variable {ρ:Nat->Nat} {σ:Nat->Option Nat} {m1 m n:Nat}
theorem z5.z95 {out:Out} (rdb:Bool) (hrd:rdb=false->m1=0) (hn:Rn ρ σ m1 m out.n) {f:FuncId} {vs:List V} {sto s1:List (Nat×zf)} (h:z5 P f vs ⟨s1,m1⟩ out) (hb:V.bds m1 vs=true) (hs:zZ m1 s1=true)
  (hsub:∀j,j<m1->zj sto (ρ j)=(zj s1 j).map (zf.ren ρ)) (hob:∀k o,(k,o)∈out.ob->k<m1+out.n/\(zj s1 k≠none∨m1<=k)):
  YS P f (V.YR ρ vs) m sto {v:=out.v.ren ρ,ob:=out.ob.map fun e=>(ρ e.1,e.2.ren ρ),n:=out.n,rd:=rdb}:=by
 refine ⟨h.1,fun k o hk=>?_,fun Λ args hr hle hfree hsz hargs=>?_⟩
 ·simp only [w0m] at hk;obtain ⟨⟨j,o'⟩,hj,e⟩:=hk;simp at e;obtain ⟨rfl,rfl⟩:=e;obtain ⟨h1,h2⟩:=hob j o' hj;by_cases hj1:j<m1
  ·left
   rcases h2 with h2|h2
   ·rw [hsub j hj1];simpa using h2
   ·omega
  ·right;have:=hn.new j (by omega) h1;show m<=ρ j/\ρ j<m+out.n;omega
 simp only at hle hfree
 have hfresh:∀{b k j:Nat},σ k=some j->(Λ.lab b= .obj k∨∃fr,Λ.lab b= .arr k fr)->j<m1:=by
  intro b k j hk hl;obtain ⟨e,hj⟩:=hn.inv k j hk
  rcases w1a j m1 with h|h
  ·exact h
  ·have e2:=hn.new j h hj;have:=(hfree k (by omega) (by omega)).2.1
   rcases hl with hl|⟨fr,hl⟩
   ·exact absurd hl (this.obj b)
   ·exact absurd hl (this.arr b fr)
 have hfreshF:∀{b k j:Nat},σ k=some j->((∃i,Λ.lab b= .fob k i)∨∃i fr,Λ.lab b= .far k i fr)->j<m1:=by
  intro b k j hk hl;obtain ⟨e,hj⟩:=hn.inv k j hk
  rcases w1a j m1 with h|h
  ·exact h
  ·have e2:=hn.new j h hj;have:=(hfree k (by omega) (by omega)).2.1
   rcases hl with ⟨i,hl⟩|⟨i,fr,hl⟩
   ·exact absurd hl (this.fob b i)
   ·exact absurd hl (this.far b i fr)
 have hr1:zV (Λ.view ρ σ m1) ⟨s1,m1⟩:=by
  refine ⟨fun j o hj=>?_,fun b b' j h1 h2=>?_,fun b hb=>?_,fun b j hb=>?_,fun j hj=>?_,fun b b' j i h1 h2=>?_,fun b j hb=>?_,fun j i hj=>?_⟩
  ·obtain ⟨h1,h2⟩:=Wd hs j o hj;refine ⟨h1,?_⟩;have hro:=(hr.sto (ρ j) (o.ren ρ) (by rw [hsub j h1,hj];rfl)).2;have hs':=hn.at_ j (by omega)
   cases o with
   |cells cs=>
    obtain ⟨b,arr,e,e1,e2,e3,e4⟩:=hro;rw [V.zR] at e3 e4
    exact ⟨b,arr,e,ZF e1 hs',e2,by simpa using e3,fun i v c a1 a2=>(e4 i v (c.ren ρ) a1 (by simp [a2])).view hn rfl (V.Zd (by simpa [zf.bd] using h2) i c a2)⟩
   |map kag es sx=>
    obtain ⟨b,ents,clock,e1,e2,e3⟩:=hro
    refine ⟨b,ents,clock,ZF e1 hs',e2,⟨by simpa using e3.size,fun i e kv a1 a2=>?_,e3.born,e3.apart,e3.known⟩⟩
    obtain ⟨g1,g2⟩:=e3.at_ i e (kv.1,kv.2.ren ρ) a1 (by simp [a2]);exact ⟨g1.ZQ fun _ _ h=>h.view,g2.view hn Z (V.Zd (by simpa [zf.bd] using h2) i kv.2 (by simp [a2]))⟩
   |arr n=>
    have hro':Λ.fro (ρ j)=n:=hro;unfold WJ;simp [L.view,h1,hro']
   |iter q s seen c=>
    have hq:q<m1:=by simpa [zf.bd] using h2
    obtain ⟨b,bm,e1,e2,e3,e4⟩:=hro;exact ⟨b,bm,ZF e1 hs',e2,ZF e3 (hn.at_ q (by omega)),hq⟩
   |gro ver cs=>
    obtain ⟨q0,q⟩:=hro;rw [V.zR] at q
    refine ⟨by simpa [L.view,h1] using q0,?_⟩
    rcases q with ⟨e1,e2⟩|⟨b,arr,e,e1,e2,e3,e4⟩
    ·refine .inl ⟨by simpa using e1,fun b i hb=>?_⟩
     obtain ⟨k,a1,a2⟩:=Z6 hb;have:=(hn.inv _ _ a2).1;subst this;exact e2 b i a1
    ·exact .inr ⟨b,arr,e,z0t hn e1 hs',e2,by simpa using e3,fun i v c a1 a2=>(e4 i v (c.ren ρ) a1 (by simp [a2])).view hn rfl (V.Zd (by simpa [zf.bd] using h2) i c a2)⟩
   |yF os=>
    obtain ⟨q0,q⟩:=hro;refine ⟨fun b i hb=>?_,fun i cs hi=>?_⟩
    ·obtain ⟨k,a1,a2⟩:=Z6 hb;have:=(hn.inv _ _ a2).1;subst this;simpa using q0 b i a1
    ·obtain ⟨b,arr,e,e1,e2,e3,e4⟩:=q i (V.YR ρ cs) (by simp [hi]);rw [V.zR] at e3 e4
     have hbd:V.bds m1 cs=true:=by
      simp only [zf.bd,w0i] at h2;exact h2 cs (zMG hi)
     exact ⟨b,arr,e,WX e1 hs',e2,by simpa using e3,fun i v c a1 a2=>(e4 i v (c.ren ρ) a1 (by simp [a2])).view hn rfl (V.Zd hbd i c a2)⟩
   |y4 ns=>intro i;have:=hro i;simpa [L.view,h1] using this
   |Wm kag I=>
    obtain ⟨b,ents,clock,e1,e2,e3,e4,e5⟩:=hro;refine ⟨b,ents,clock,ZF e1 hs',e2,e3,e4,fun i e hi=>?_⟩;obtain ⟨cs,v,q1,q2,q3⟩:=e5 i e hi;exact ⟨cs,v,q1.ZQ fun _ _ h=>h.view,q2.view,q3⟩
  ·obtain ⟨k,a1,a2⟩:=yZ h1;obtain ⟨k',b1,b2⟩:=yZ h2;have:=(hn.inv _ _ a2).1;have:=(hn.inv _ _ b2).1
   subst_vars
   exact hr.inj b b' _ a1 b1
  ·exact Qh (hr.new b hb)
  ·rcases hb with hb|⟨fr,hb⟩
   ·obtain ⟨k,a1,a2⟩:=yZ hb;exact hfresh a2 (.inl a1)
   ·obtain ⟨k,a1,a2⟩:=z0L hb;exact hfresh a2 (.inr ⟨_,a1⟩)
  ·have hj':m1<=j:=hj;simp [L.view];omega
  ·obtain ⟨k,a1,a2⟩:=Z6 h1;obtain ⟨k',b1,b2⟩:=Z6 h2;have:=(hn.inv _ _ a2).1;have:=(hn.inv _ _ b2).1
   subst_vars
   exact hr.Yr b b' _ i a1 b1
  ·rcases hb with ⟨i,hb⟩|⟨i,fr,hb⟩
   ·obtain ⟨k,a1,a2⟩:=Z6 hb;exact hfreshF a2 (.inl ⟨_,a1⟩)
   ·obtain ⟨k,a1,a2⟩:=z0Z hb;exact hfreshF a2 (.inr ⟨_,_,a1⟩)
  ·have hj':m1<=j:=hj;simp [L.view];omega
 refine (h.2 (Λ.view ρ σ m1) args hr1 Z (by rw [hsz,V.zR];simp) fun j v y h1 h2=>(hargs j v (y.ren ρ) h1 (by rw [V.zR];simp [h2])).view hn Z (V.Zd hb j y h2)).mono fun e w' he=>?_;obtain ⟨v,Λ',rfl,rfl,k1,k2,k3,k4⟩:=he;simp only at k2 k3
 have hlt:∀{b:Nat},Λ.hid σ b=true->b<Λ.w.heap.size:=by
  intro b hh
  rcases w1a b Λ.w.heap.size with h|h
  ·exact h
  ·unfold L.hid at hh;rw [hr.new b h] at hh;simp at hh
 have hH:∀{b:Nat},Λ.hid σ b=true->(Λ.zt ρ σ Λ').lab b=Λ.lab b:=fun h=>by simp [L.zt,h]
 have hL:∀{b:Nat},Λ.hid σ b=false->(Λ.zt ρ σ Λ').lab b=(Λ'.lab b).ren ρ:=fun h=>by simp [L.zt,h]
 have hheap:∀{b:Nat},Λ.hid σ b=true->∃fr,Λ'.lab b= .fix (some fr)/\Λ'.w.heap[b]?=Λ.w.heap[b]?/\((∃k,Λ.lab b= .obj k/\σ k=none/\fr=0)∨(∃k,Λ.lab b= .arr k fr/\σ k=none)∨(∃k i,Λ.lab b= .fob k i/\σ k=none/\fr=0)∨∃k i,Λ.lab b= .far k i fr/\σ k=none):=by
  intro b hh;obtain ⟨fr,e1,e2⟩:=z5X (ρ:=ρ) (m1:=m1) hh;obtain ⟨g1,g2⟩:=k1.fr.fix b (hlt hh) _ e1;exact ⟨fr,g1,g2,e2⟩
 have hvis:∀{b k j:Nat},σ k=some j->(Λ.lab b= .obj k∨∃fr,Λ.lab b= .arr k fr)->Λ.hid σ b=false:=by
  intro b k j hk hb;unfold L.hid
  rcases hb with hb|⟨fr,hb⟩<;>rw [hb]<;>simp [hk]
 have hvisF:∀{b k j:Nat},σ k=some j->((∃i,Λ.lab b= .fob k i)∨∃i fr,Λ.lab b= .far k i fr)->Λ.hid σ b=false:=by
  intro b k j hk hb;unfold L.hid
  rcases hb with ⟨i,hb⟩|⟨i,fr,hb⟩<;>rw [hb]<;>simp [hk]
 have hfix:∀{b:Nat} {fr:Option Nat},Λ.lab b= .fix fr->Λ.hid σ b=false:=by
  intro b fr hb;unfold L.hid;rw [hb]
 have rdren:∀{b o:Nat} {l:Nat->Lab},l b=(Λ'.lab b).ren ρ->Rd Λ'.lab b o->Rd l b o:=by
  intro b o l e h;unfold Rd at*;rw [e]
  cases hl:Λ'.lab b<;>rw [hl] at h<;>simp only [Lab.ren]<;>exact h
 have hinvF:∀{b k j i:Nat},σ k=some j->(Λ.zt ρ σ Λ').lab b= .fob k i->Λ'.lab b= .fob j i:=by
  intro b k j i hk hb
  cases hh:Λ.hid σ b with
  |true=>rw [hH hh] at hb;have:=hvisF hk (.inl ⟨i,hb⟩);rw [hh] at this;cases this
  |false=>
   rw [hL hh] at hb
   cases hl:Λ'.lab b<;>rw [hl] at hb<;>simp [Lab.ren] at hb
   rename_i j' i';obtain ⟨e1,rfl⟩:=hb;have hb1:=k3.Ye b j' (.inl ⟨_,hl⟩);have hb2:=hn.at_ j' (by omega);rw [e1,hk] at hb2;simp at hb2;subst hb2;rfl
 have hkp:Kp Λ (Λ.zt ρ σ Λ'):=by
  refine ⟨⟨k1.fr.os,k1.fr.tape,k1.fr.output,k1.fr.size,fun b hb fr hl=>?_,fun b hb k fr hl o ho=>?_,fun b hb k i fr hl o ho=>?_⟩,w09 _,fun b k _ hl=>?_,fun b k n _ hb hl hf=>?_,fun k hk=>?_,fun b k i _ hl=>?_,fun b k i n _ hb hl hf=>?_,fun k i hk=>?_,fun b k i hk hp hf hl=>?_⟩
  ·obtain ⟨g1,g2⟩:=k1.fr.fix b hb fr (Qh hl)
   exact ⟨by rw [hL (hfix hl),g1];rfl,g2⟩
  ·cases hk:σ k with
   |none=>
    have hh:Λ.hid σ b=true:=by unfold L.hid;rw [hl];simp [hk]
    obtain ⟨fr',g1,g2,g3⟩:=hheap hh
    exact ⟨by unfold Rd;rw [hH hh,hl];exact ho,cell?_heap g2⟩
   |some j=>
    have hh:=hvis hk (.inr ⟨_,hl⟩);obtain ⟨g1,g2⟩:=k1.fr.arr b hb j fr (WL hl hk) o ho;exact ⟨rdren (hL hh) g1,g2⟩
  ·cases hk:σ k with
   |none=>
    have hh:Λ.hid σ b=true:=by unfold L.hid;rw [hl];simp [hk]
    obtain ⟨fr',g1,g2,g3⟩:=hheap hh
    exact ⟨by unfold Rd;rw [hH hh,hl];exact ho,cell?_heap g2⟩
   |some j=>
    have hh:=hvisF hk (.inr ⟨_,_,hl⟩);obtain ⟨g1,g2⟩:=k1.fr.far b hb j i fr (ql hl hk) o ho;exact ⟨rdren (hL hh) g1,g2⟩
  ·cases hk:σ k with
   |none=>rw [hH (by unfold L.hid;rw [hl];simp [hk])];exact hl
   |some j=>
    rw [hL (hvis hk (.inl hl)),k1.obj b j (hfresh hk (.inl hl)) (ZF hl hk)];simp only [Lab.ren,(hn.inv k j hk).1]
  ·cases hk:σ k with
   |none=>
    have hh:Λ.hid σ b=true:=by unfold L.hid;rw [hl];simp [hk]
    obtain ⟨fr',g1,g2,g3⟩:=hheap hh
    exact ⟨by rw [hH hh];exact hl,g2⟩
   |some j=>
    have hj:=hfresh hk (.inr ⟨_,hl⟩)
    have e1:(Λ.view ρ σ m1).fro j=Λ.fro k:=by simp [L.view,hj,(hn.inv k j hk).1]
    have e2:(Λ.zt ρ σ Λ').fro k=Λ'.fro j:=by simp [L.zt,hk]
    obtain ⟨g1,g2⟩:=k1.own b j n hj hb (WL hl hk) (by rw [←e2,hf,e1])
    exact ⟨by rw [hL (hvis hk (.inr ⟨_,hl⟩)),g1];simp only [Lab.ren,(hn.inv k j hk).1],g2⟩
  ·cases hk':σ k with
   |none=>simp [L.zt,hk']
   |some j=>
    obtain ⟨e1,e2⟩:=hn.inv k j hk';simp only [L.zt,hk'];by_cases hj:j<m1
    ·have:=k1.fro j hj;simpa [L.view,hj,e1] using this
    ·have e3:=hn.new j (by omega) e2;rw [(hfree k (by omega) (by omega)).2.1.fro];omega
  ·cases hk:σ k with
   |none=>
    have hh:Λ.hid σ b=true:=by unfold L.hid;rw [hl];simp [hk]
    obtain ⟨fr',g1,g2,g3⟩:=hheap hh
    exact ⟨by rw [hH hh];exact hl,fun N hN=>by unfold Ze at hN⊢;show (match Λ'.w.heap[b]? with|some (.cells arr _ _)=>some arr.size|_=>none)=_;rw [g2];exact hN⟩
   |some j=>
    obtain ⟨g1,g2⟩:=k1.fob b j i (hfreshF hk (.inl ⟨_,hl⟩)) (WX hl hk)
    exact ⟨by rw [hL (hvisF hk (.inl ⟨_,hl⟩)),g1];simp only [Lab.ren,(hn.inv k j hk).1],g2⟩
  ·cases hk:σ k with
   |none=>
    have hh:Λ.hid σ b=true:=by unfold L.hid;rw [hl];simp [hk]
    obtain ⟨fr',g1,g2,g3⟩:=hheap hh
    exact ⟨by rw [hH hh];exact hl,g2⟩
   |some j=>
    have hj:=hfreshF hk (.inr ⟨_,_,hl⟩)
    have e1:(Λ.view ρ σ m1).frf j i=Λ.frf k i:=by simp [L.view,hj,(hn.inv k j hk).1]
    have e2:(Λ.zt ρ σ Λ').frf k i=Λ'.frf j i:=by simp [L.zt,hk]
    obtain ⟨g1,g2⟩:=k1.far b j i n hj hb (ql hl hk) (by rw [←e2,hf,e1])
    exact ⟨by rw [hL (hvisF hk (.inr ⟨_,_,hl⟩)),g1];simp only [Lab.ren,(hn.inv k j hk).1],g2⟩
  ·cases hk':σ k with
   |none=>simp [L.zt,hk']
   |some j=>
    obtain ⟨e1,e2⟩:=hn.inv k j hk';simp only [L.zt,hk'];by_cases hj:j<m1
    ·have:=k1.frf j i hj;simpa [L.view,hj,e1] using this
    ·have e3:=hn.new j (by omega) e2;rw [(hfree k (by omega) (by omega)).2.1.frf];omega
  ·cases hk':σ k with
   |none=>
    cases hh:Λ.hid σ b with
    |true=>rw [hH hh] at hl;exact hl
    |false=>
     rw [hL hh] at hl
     cases hl':Λ'.lab b<;>rw [hl'] at hl<;>simp [Lab.ren] at hl
     rename_i j' i';have hb1:=k3.Ye b j' (.inl ⟨_,hl'⟩);have hb2:=hn.at_ j' (by omega);rw [hl.1,hk'] at hb2;cases hb2
   |some j=>
    have hb1:=hinvF hk' hl;obtain ⟨e1,e2⟩:=hn.inv k j hk';by_cases hj:j<m1
    ·have e3:(Λ.view ρ σ m1).frf j 0=Λ.frf k 0:=by simp [L.view,hj,e1]
     have e4:(Λ.zt ρ σ Λ').frf k 0=Λ'.frf j 0:=by simp [L.zt,hk']
     obtain ⟨k',a1,a2⟩:=Z6 (k1.z3F b j i hj (by rw [e3];exact hp) (by rw [←e4,hf,e3]) hb1);have:=(hn.inv _ _ a2).1;rw [←this,e1] at a1;exact a1
    ·have e3:=hn.new j (by omega) e2;have:=(hfree k (by omega) (by omega)).2.1.frf 0;omega
 have hobj:∀{b j:Nat},Λ'.lab b= .obj j->(Λ.zt ρ σ Λ').lab b= .obj (ρ j):=by
  intro b k hb
  cases hh:Λ.hid σ b with
  |true=>obtain ⟨fr,g1,_⟩:=hheap hh;rw [g1] at hb;simp at hb
  |false=>rw [hL hh,hb];rfl
 have harr:∀{b j n:Nat},Λ'.lab b= .arr j n->(Λ.zt ρ σ Λ').lab b= .arr (ρ j) n:=by
  intro b k n hb
  cases hh:Λ.hid σ b with
  |true=>obtain ⟨fr,g1,_⟩:=hheap hh;rw [g1] at hb;simp at hb
  |false=>rw [hL hh,hb];rfl
 have hfob:∀{b j i:Nat},Λ'.lab b= .fob j i->(Λ.zt ρ σ Λ').lab b= .fob (ρ j) i:=by
  intro b k i hb
  cases hh:Λ.hid σ b with
  |true=>obtain ⟨fr,g1,_⟩:=hheap hh;rw [g1] at hb;simp at hb
  |false=>rw [hL hh,hb];rfl
 have hfar:∀{b j i n:Nat},Λ'.lab b= .far j i n->(Λ.zt ρ σ Λ').lab b= .far (ρ j) i n:=by
  intro b k i n hb
  cases hh:Λ.hid σ b with
  |true=>obtain ⟨fr,g1,_⟩:=hheap hh;rw [g1] at hb;simp at hb
  |false=>rw [hL hh,hb];rfl
 have hcur:∀{b j:Nat},j<m1+out.n->qj Λ'.lab j b->qj (Λ.zt ρ σ Λ').lab (ρ j) b:=by
  rintro b j hj ⟨i,e1,e2⟩;exact ⟨i,hfob e1,fun b' i' h'=>e2 b' i' (hinvF (hn.at_ j hj) h')⟩
 have hrep:∀{u:Value} {y:T},zH Λ'.lab Λ'.w u y->zH (Λ.zt ρ σ Λ').lab (Λ.zt ρ σ Λ').w u y:=by
  intro u y hy;refine hy.ZQ fun b o _ _ hrd=>⟨?_,rfl⟩
  cases hh:Λ.hid σ b with
  |true=>
   obtain ⟨fr,g1,_,g3⟩:=hheap hh;unfold Rd at hrd⊢;rw [g1] at hrd;rw [hH hh]
   rcases g3 with ⟨k,e,_,rfl⟩|⟨k,e,_⟩|⟨k,i,e,_,rfl⟩|⟨k,i,e,_⟩
   ·simp at hrd
   ·rw [e];exact hrd
   ·simp at hrd
   ·rw [e];exact hrd
  |false=>exact rdren (hL hh) hrd
 have hfro:∀{j:Nat},j<m1+out.n->(Λ.zt ρ σ Λ').fro (ρ j)=Λ'.fro j:=by
  intro j hj;simp [L.zt,hn.at_ j hj]
 have hfrf:∀{j i:Nat},j<m1+out.n->(Λ.zt ρ σ Λ').frf (ρ j) i=Λ'.frf j i:=by
  intro j i hj;simp [L.zt,hn.at_ j hj]
 have hρ:∀{j:Nat},j<m1+out.n->ρ j<Λ.nxt:=by
  intro j hj;by_cases h1:j<m1
  ·have:=hn.low j h1;omega
  ·have:=hn.new j (by omega) hj;omega
 have hval:∀{u:Value} {y:V},zr Λ' u y->zr (Λ.zt ρ σ Λ') u (y.ren ρ):=by
  intro u y hy
  induction hy with
  |t h=>exact .t (hrep h)
  |zp=>exact .zp
  |@own v k sz xs h hsz hl hn' ho=>
   rw [k2] at hl;refine .own (hrep h) hsz (hρ hl) (by rw [hfro hl];exact hn') fun he=>?_
   rcases ho (by rw [←hfro hl];exact he) with ho|⟨b,cap,arr,e,hv,hb',hh,hc,hn'⟩
   ·exact .inl ho
   ·exact .inr ⟨b,cap,arr,e,hv,harr hb',hh,hc,hn'⟩
  |slc hl hc h=>exact .slc (hρ (by omega)) hc (hobj h)
  |agg hs _ ih=>
   refine .agg (by rw [V.zR];simpa using hs) fun j v c h1 h2=>?_;rw [V.zR,w0c,w06] at h2;obtain ⟨c',h3,rfl⟩:=h2;exact ih j v c' h1 h3
  |tup hs _ ih=>
   refine .tup (by rw [V.zR];simpa using hs) fun j v c h1 h2=>?_;rw [V.zR,w0c,w06] at h2;obtain ⟨c',h3,rfl⟩:=h2;exact ih j v c' h1 h3
  |ptr hl h=>exact .ptr (hρ (by omega)) (hobj h)
  |mp hl h=>exact .mp (hρ (by omega)) (hobj h)
  |fn hs h=>
   refine .fn (by simpa using hs) fun j v c h1 h2=>?_;rw [w0c,w06] at h2;obtain ⟨c',h3,rfl⟩:=h2;obtain ⟨b,e1,e2,e3⟩:=h j v c' h1 h3;exact ⟨b,e1,hobj e2,hρ (by omega)⟩
  |gd _ h' ih=>exact .gd ih h'
  |top=>exact .top
  |ub h h'=>exact .ub h h'
  |fpt hl h=>exact .fpt (hρ (by omega)) (hfob h)
  |gpt hv hl hm h=>
   rw [k2] at hl;refine .gpt hv (hρ hl) (by rw [hfrf hl];exact hm) fun he=>?_;obtain ⟨b,e1,e2⟩:=h (by rw [←hfrf hl];exact he);exact ⟨b,e1,hcur hl e2⟩
  |gsl hv hl hm h=>
   rw [k2] at hl;refine .gsl hv (hρ hl) (by rw [hfrf hl];exact hm) fun he=>?_
   rcases h (by rw [←hfrf hl];exact he) with h|⟨b,cap,N,hv,hc,e2,hN,he'⟩
   ·exact .inl h
   ·exact .inr ⟨b,cap,N,hv,hc,hcur hl e2,hN,he'⟩
  |fow h hsz hl hm ho=>
   rw [k2] at hl;refine .fow (hrep h) hsz (hρ hl) (by rw [hfrf hl];exact hm) fun he=>?_
   rcases ho (by rw [←hfrf hl];exact he) with ho|⟨b,cap,arr,e,hv,hb',hh,hc,hn'⟩
   ·exact .inl ho
   ·exact .inr ⟨b,cap,arr,e,hv,hfar hb',hh,hc,hn'⟩
 have hname:∀{b k:Nat},Λ.hid σ b=true->((Λ.zt ρ σ Λ').lab b= .obj k∨∃n,(Λ.zt ρ σ Λ').lab b= .arr k n)->σ k=none/\(Λ.lab b= .obj k∨∃n,Λ.lab b= .arr k n):=by
  intro b k hh hb;rw [hH hh] at hb;refine ⟨?_,hb⟩
  unfold L.hid at hh;rcases hb with hb|⟨n,hb⟩<;>rw [hb] at hh<;>simpa using hh
 have hseen:∀{b k:Nat},Λ.hid σ b=false->((Λ.zt ρ σ Λ').lab b= .obj k∨∃n,(Λ.zt ρ σ Λ').lab b= .arr k n)->∃j,ρ j=k/\j<m1+out.n/\(Λ'.lab b= .obj j∨∃n,Λ'.lab b= .arr j n):=by
  intro b k hh hb;rw [hL hh] at hb
  cases hl:Λ'.lab b with
  |fix fr=>rw [hl] at hb;simp [Lab.ren] at hb
  |obj j=>rw [hl] at hb;simp [Lab.ren] at hb;have:=k3.bnd b j (.inl hl);exact ⟨j,hb,by omega,.inl rfl⟩
  |arr j n=>rw [hl] at hb;simp [Lab.ren] at hb;have:=k3.bnd b j (.inr ⟨n,hl⟩);exact ⟨j,hb,by omega,.inr ⟨n,rfl⟩⟩
  |fob j i=>rw [hl] at hb;simp [Lab.ren] at hb
  |far j i n=>rw [hl] at hb;simp [Lab.ren] at hb
 have hseenF:∀{b k:Nat},Λ.hid σ b=false->((∃i,(Λ.zt ρ σ Λ').lab b= .fob k i)∨∃i n,(Λ.zt ρ σ Λ').lab b= .far k i n)->∃j,ρ j=k/\j<m1+out.n:=by
  intro b k hh hb;rw [hL hh] at hb
  cases hl:Λ'.lab b with
  |fix fr=>rw [hl] at hb;simp [Lab.ren] at hb
  |obj j=>rw [hl] at hb;simp [Lab.ren] at hb
  |arr j n=>rw [hl] at hb;simp [Lab.ren] at hb
  |fob j i=>rw [hl] at hb;simp [Lab.ren] at hb;have:=k3.Ye b j (.inl ⟨i,hl⟩);exact ⟨j,hb,by omega⟩
  |far j i n=>rw [hl] at hb;simp [Lab.ren] at hb;have:=k3.Ye b j (.inr ⟨i,n,hl⟩);exact ⟨j,hb,by omega⟩
 obtain ⟨ag1,ag2⟩:=Wg hn out.ob sto s1 (fun j hj=>by
  by_cases h1:j<m1
  ·exact hsub j h1
  ·have e3:=hn.new j (by omega) hj;rw [(hfree (ρ j) (by omega) (by omega)).2.2]
   cases ha:zj s1 j with
   |none=>rfl
   |some o=>have:=(Wd hs j o ha).1;omega) (fun j o hj=>(hob j o hj).1)
 refine ⟨v,Λ.zt ρ σ Λ',rfl,rfl,hkp,rfl,?_,hval k4,fun k hk _ hcase=>?_⟩
 ·refine ⟨fun k o ho=>?_,fun b b' k h1 h2=>?_,fun b hb=>?_,fun b k hb=>?_,fun k hk=>?_,fun b b' k i h1 h2=>?_,fun b k hb=>?_,fun k i hk=>?_⟩
  ·cases hk:σ k with
   |none=>
    have ho':zj sto k=some o:=by rw [←ag2 k hk];exact ho
    obtain ⟨g1,g2⟩:=hr.sto k o ho'
    refine ⟨g1,g2.mono hkp g1 (fun b hb=>?_) (by simp [L.zt,hk]) (fun b i hb=>?_) (fun b i hb=>?_) (fun i=>by simp [L.zt,hk])⟩
    ·obtain ⟨fr,q1,q2,_⟩:=hheap (b:=b) (by unfold L.hid;rw [hb];simp [hk]);exact q2
    ·obtain ⟨fr,q1,q2,_⟩:=hheap (b:=b) (by unfold L.hid;rw [hb];simp [hk]);exact q2
    ·cases hh:Λ.hid σ b with
     |true=>rw [hH hh] at hb;exact hb
     |false=>obtain ⟨j,e1,e2⟩:=hseenF hh (.inl ⟨i,hb⟩);rw [←e1,hn.at_ j e2] at hk;cases hk
   |some j=>
    obtain ⟨e1,e2⟩:=hn.inv k j hk;subst e1;have ho':zj (Za sto (out.ob.map fun e=>(ρ e.1,e.2.ren ρ))) (ρ j)=some o:=ho;rw [ag1 j e2,w06] at ho';obtain ⟨o1,a1,rfl⟩:=ho';obtain ⟨g1,g2⟩:=k3.sto j o1 a1;refine ⟨hρ e2,?_⟩
    cases o1 with
    |cells cs=>
     obtain ⟨b,arr,e,e1,e2,e3,e4⟩:=g2
     refine ⟨b,arr,e,hobj e1,e2,by rw [V.zR];simpa using e3,fun i v c a1 a2=>?_⟩
     rw [V.zR,w0c,w06] at a2;obtain ⟨c',a3,rfl⟩:=a2;exact hval (e4 i v c' a1 a3)
    |map kag es sx=>
     obtain ⟨b,ents,clock,e1,e2,e3⟩:=g2
     refine ⟨b,ents,clock,hobj e1,e2,⟨by simpa using e3.size,fun i e kv a1 a2=>?_,e3.born,e3.apart,e3.known⟩⟩
     rw [w0c,w06] at a2;obtain ⟨kv',a3,rfl⟩:=a2;obtain ⟨q1,q2⟩:=e3.at_ i e kv' a1 a3;exact ⟨q1.ZQ fun _ _ h=>hrep h,hval q2⟩
    |arr n'=>
     unfold WJ at*;simp only [zf.ren];rw [hfro e2];exact g2
    |iter q s seen c=>
     obtain ⟨b,bm,a1,a2,a3,a4⟩:=g2;exact ⟨b,bm,hobj a1,a2,hobj a3,hρ (by omega)⟩
    |gro ver cs=>
     obtain ⟨q0,q⟩:=g2
     refine ⟨by rw [hfrf e2];exact q0,?_⟩
     rw [V.zR]
     rcases q with ⟨e3,e4⟩|⟨b,arr,e,e3,e4,e5,e6⟩
     ·exact .inl ⟨by simp [e3],fun b i hb=>e4 b i (hinvF (hn.at_ j e2) hb)⟩
     ·refine .inr ⟨b,arr,e,hcur e2 e3,e4,by simpa using e5,fun i v c a1 a2=>?_⟩
      rw [w0c,w06] at a2;obtain ⟨c',a3,rfl⟩:=a2;exact hval (e6 i v c' a1 a3)
    |yF os=>
     obtain ⟨q0,q⟩:=g2
     refine ⟨fun b i hb=>by simpa using q0 b i (hinvF (hn.at_ j e2) hb),fun i cs hi=>?_⟩
     rw [w0c,w06] at hi;obtain ⟨cs',hi,rfl⟩:=hi;obtain ⟨b,arr,e,e3,e4,e5,e6⟩:=q i cs' hi
     refine ⟨b,arr,e,hfob e3,e4,by rw [V.zR];simpa using e5,fun i v c a1 a2=>?_⟩
     rw [V.zR,w0c,w06] at a2;obtain ⟨c',a3,rfl⟩:=a2;exact hval (e6 i v c' a1 a3)
    |y4 ns=>exact fun i=>(hfrf e2).trans (g2 i)
    |Wm kag I=>
     obtain ⟨b,ents,clock,e3,e4,e5,e6,e7⟩:=g2;refine ⟨b,ents,clock,hobj e3,e4,e5,e6,fun i e hi=>?_⟩;obtain ⟨cs,v,q1,q2,q3⟩:=e7 i e hi;exact ⟨cs,v,q1.ZQ fun _ _ h=>hrep h,hrep q2,q3⟩
  ·cases hh:Λ.hid σ b with
   |true=>
    obtain ⟨q1,q2⟩:=hname hh (.inl h1)
    cases hh':Λ.hid σ b' with
    |true=>
     rw [hH hh] at h1;rw [hH hh'] at h2;exact hr.inj b b' k h1 h2
    |false=>
     obtain ⟨j,e1,e2,_⟩:=hseen hh' (.inl h2);rw [←e1,hn.at_ j e2] at q1;cases q1
   |false=>
    obtain ⟨j,e1,e2,_⟩:=hseen hh (.inl h1)
    cases hh':Λ.hid σ b' with
    |true=>
     obtain ⟨q1,_⟩:=hname hh' (.inl h2);rw [←e1,hn.at_ j e2] at q1;cases q1
    |false=>
     rw [hL hh] at h1;rw [hL hh'] at h2
     cases hl:Λ'.lab b<;>rw [hl] at h1<;>simp [Lab.ren] at h1
     cases hl':Λ'.lab b'<;>rw [hl'] at h2<;>simp [Lab.ren] at h2
     rename_i j1 j2;have b1:=k3.bnd b j1 (.inl hl);have b2:=k3.bnd b' j2 (.inl hl');have c1:=hn.at_ j1 (by omega);have c2:=hn.at_ j2 (by omega);rw [h1] at c1;rw [h2,c1] at c2;simp at c2;subst c2;exact k3.inj b b' j1 hl hl'
  ·have hge:Λ.w.heap.size<=b:=w0o k1.fr.size hb;rw [hL (hfix (hr.new b hge)),k3.new b hb];rfl
  ·show k<Λ.nxt
   cases hh:Λ.hid σ b with
   |true=>exact hr.bnd b k (hname hh hb).2
   |false=>obtain ⟨j,rfl,e2,_⟩:=hseen hh hb;exact hρ e2
  ·have hk':Λ.nxt<=k:=hk
   cases hs:σ k with
   |none=>simp only [L.zt,hs];exact hr.frz k hk'
   |some j=>obtain ⟨rfl,e2⟩:=hn.inv k j hs;have:=hρ e2;omega
  ·cases hk:σ k with
   |some j=>exact k3.Yr b b' j i (hinvF hk h1) (hinvF hk h2)
   |none=>
    have hd:∀{b:Nat},(Λ.zt ρ σ Λ').lab b= .fob k i->Λ.lab b= .fob k i:=by
     intro b hb
     cases hh:Λ.hid σ b with
     |true=>rw [hH hh] at hb;exact hb
     |false=>obtain ⟨j,e1,e2⟩:=hseenF hh (.inl ⟨i,hb⟩);rw [←e1,hn.at_ j e2] at hk;cases hk
    exact hr.Yr b b' k i (hd h1) (hd h2)
  ·show k<Λ.nxt
   cases hh:Λ.hid σ b with
   |true=>rw [hH hh] at hb;exact hr.Ye b k hb
   |false=>obtain ⟨j,rfl,e2⟩:=hseenF hh hb;exact hρ e2
  ·have hk':Λ.nxt<=k:=hk
   cases hs:σ k with
   |none=>simp only [L.zt,hs];exact hr.z1q k i hk'
   |some j=>obtain ⟨rfl,e2⟩:=hn.inv k j hs;have:=hρ e2;omega
 ·have hs0:σ k=none:=by
   cases hs:σ k with
   |none=>rfl
   |some j=>
    obtain ⟨rfl,e2⟩:=hn.inv k j hs
    rcases hcase with hge|⟨hlt1,hb⟩
    ·have hge:m+out.n<=ρ j:=hge;by_cases h1:j<m1
     ·have:=hn.low j h1;omega
     ·have:=hn.new j (by omega) e2;omega
    ·have hm1:=hrd hb;have:=hn.new j (by omega) e2;omega
  refine ⟨fun b hb=>?_,fun b n hb=>?_,by simp only [L.zt,hs0];exact hk.fro,fun b i hb=>?_,fun b i n hb=>?_,fun i=>by simp only [L.zt,hs0];exact hk.frf i⟩
  ·cases hh:Λ.hid σ b with
   |true=>rw [hH hh] at hb;exact hk.obj b hb
   |false=>obtain ⟨j,e1,e2,_⟩:=hseen hh (.inl hb);rw [←e1,hn.at_ j e2] at hs0;cases hs0
  ·cases hh:Λ.hid σ b with
   |true=>rw [hH hh] at hb;exact hk.arr b n hb
   |false=>obtain ⟨j,e1,e2,_⟩:=hseen hh (.inr ⟨n,hb⟩);rw [←e1,hn.at_ j e2] at hs0;cases hs0
  ·cases hh:Λ.hid σ b with
   |true=>rw [hH hh] at hb;exact hk.fob b i hb
   |false=>obtain ⟨j,e1,e2⟩:=hseenF hh (.inl ⟨i,hb⟩);rw [←e1,hn.at_ j e2] at hs0;cases hs0
  ·cases hh:Λ.hid σ b with
   |true=>rw [hH hh] at hb;exact hk.far b i n hb
   |false=>obtain ⟨j,e1,e2⟩:=hseenF hh (.inr ⟨i,n,hb⟩);rw [←e1,hn.at_ j e2] at hs0;cases hs0
end
section
variable {P:Program} {n m:Nat} {R:St->Prop} {draw:Bool} {all:List AO} {after:List (List Nat)} {live:List Nat} {k:List It} {b b':Nat} {fl:List (Bool×Bool)} {ops:List AO} {st st':St} {d:Option Nat}
theorem Mid.zeR {f:FuncId} {args:List Ar} {vs:List V} {out:Out} {v':V} {ob':List (Nat×zf)} {cc:Bool} (h:z5 P f vs ⟨[],0⟩ out)
  (hv:QY st args some=some (V.YR (wE [] b) vs)) (hb:V.bds 0 vs=true) (hob:z9K [] 0 out.n out.ob=true)
  (hv':out.v.ren (wE [] b)=v') (hob':z1Z (wE [] b) out.ob=ob') (hcc:Qd (!ob'.isEmpty||decide (0<out.n)) some=some cc)
  (hst:wb b st d {v:=v',ob:=ob',n:=out.n,rd:=false} (fun b' st'=>some (b',st'))=some (b',st'))
  (h':Mid P n m R draw all after live k b' ((false,cc)::fl) ops st'):Mid P n m R draw all after live k b fl (⟨d,none,.call f args⟩::ops) st:=by
 rw [W5] at hv;simp at hv;refine Mid.opX Z ?_;simp only [evX];refine QU.le (qZ.pure _) ?_;rw [hv]
 have hat:∀s,YS P f (V.YR (wE [] b) vs) b s {v:=v',ob:=ob',n:=out.n,rd:=false}:=by
  intro s';have hrn:=zav (r:=[]) (b:=b) (n:=out.n) rfl rfl;have:=z5.z95 (sto:=s') false (fun _=>rfl) hrn h hb rfl (fun j hj=>absurd hj (Nat.not_lt_zero j)) (z2k hob);rw [hv',←z12,hob'] at this;exact this
 simp only [wT,w00] at hcc;simp only [yo,w00,w05] at hst;obtain ⟨rfl,rfl⟩:=hst
 refine ⟨{v:=v',ob:=ob',n:=out.n,rd:=false},by simp only [w0h,w0x];exact hat,?_⟩
 simp only [hcc];exact h'
end
end Go.GB
namespace Go.GB.C24
open Go.GB Go.GB.C11
variable {P:Program}
theorem z9T (H:zG P) (n:Str) (a b:List Dir) (ha:DL a) (hb:DL b) (haa:DA a) (hba:DA b) (part:Str) (hn:n.length<=1125899906842624) (hp:part.length<=1125899906842624):z5 P 35 [.ptr 0 0,.t (.lst (a.map Dir.enc)),.t (.lst (b.map Dir.enc)),.t (.str part)] ⟨[(0,.cells [.t (.str n),.zp])],1⟩ {v:= .t (.lst ((Zn a b).map Dir.enc)),ob:=[(0,.cells [.t (.str n),.own 1 2 ((one (zO a b) ⟨29,YV n part⟩).map z4.enc)]),(1,.arr (one (zO a b) ⟨29,YV n part⟩).length)],n:=1,rd:=true}:=
 z5.wk (z3h H n [] (by simp) a b ha hb haa hba part hn hp) (Nat.le_succ 1) (.cons (.same rfl) (.cons .t (.cons .t (.cons .t .nil)))) ⟨.inl ⟨Nat.zero_lt_one,_,rfl,.cells (.cons .t (.cons (.Z7 (w09 _) (Nat.lt_succ_self 1)) .nil))⟩,.inr ⟨w09 _,Nat.lt_succ_self 1,rfl⟩,trivial⟩ rfl rfl rfl
theorem zdl {a b:Def} (h:Yy a b=[]):a.members.map (W8 b.members)=a.members.map (QV b.members):=by
 refine w2d fun x hx=>?_;have h1:=(w0l.1 h).1;have h2:=w2e.1 h1 x hx;unfold W8 QV
 cases hf:zK x.name b.members with
 |none=>simp [ZL,hf] at h2
 |some y=>rfl
theorem z7v (a b:Def):wi a b=a.fields.flatMap (Z1 b.fields a.name)++(if a.kind=2 then qm a b a.name else []):=by
 unfold wi kF qm
 by_cases h:a.kind=2<;>simp [h,zm]
theorem z59 (H:zG P) {k:Nat} (hk:k<=500000) (a b:Def) (ha:DB k a) (hb:DB k b) (na:NM a) (nb:NM b):z5 P 16 [a.v,b.v] ⟨[],0⟩ {v:= .tup [(Y2 a b).v,.t (.lst ((zL a b).map z4.enc))]}:=by
 have hk1:k<=1000000:=by omega
 have hfl:=ha.fl;have hfl2:=hb.fl;have hml:=ha.ml;have hml2:=hb.ml;have hnl:=ha.nl;have hnl2:=hb.nl;have hil:=ha.il;have hil2:=hb.il;have hnm:=ha.ok.nm;by_cases hkd:a.kind=b.kind
 rotate_left
 ·have e1:zL a b=[⟨9,a.name⟩]:=by unfold zL;rw [w0g hkd]
  have e2:Y2 a b=Def.zero:=by unfold Y2;rw [e1];rfl
  rw [e1,e2];refine z5.run H.i16 H.mixed Z Z ?_;refine fR Z ?_;refine Run.zb Z Z (by simp [hkd]) ?_
  refine Run.Wn (f:=5) Z (by (repeat' (first |exact trivial|exact w12 _|exact WR _|exact qd _|exact grd3 _ _|exact q6 _ _|refine And.intro ?_ ?_|exact rfl|(simp;done)|(simp<;>omega)));done) ?_
  refine Mid.ze1 Z Z Z ?_;refine fM Z ?_;refine Run.fin Z (z3.go ?_);exact .ZG (.agg (.cons (.t Z) (.cons (.t Z) (.cons (.nil Z) (.cons (.nil Z) (.cons (.nil Z) (.cons (.nil Z) (.cons (.nil Z) .nil)))))))) (.t Z)
 have e0:zL a b=one (zO a.zg b.zg) ⟨29,a.name⟩++(a.fields.flatMap (Z1 b.fields a.name)++((if a.kind=2 then qm a b a.name else [])++(ZA a.members b.members a.name++yM a.zi b.zi a.name))):=by
  unfold zL;rw [w0e hkd,z7v,w1g];rfl
 have hlen:=w9 ha hb
 have hM0:zL a b=[]->a.members.map (W8 b.members)=a.members.map (QV b.members):=fun h=>by
  refine zdl ?_;unfold zL at h;rw [w0e hkd] at h;exact (w0l.1 (w0l.1 (w0l.1 h).2).2).1
 have hO:Y2 a b=if zL a b=[] then yJ a b else Def.zero:=rfl;generalize zL a b=tot at e0 hlen hO hM0⊢;have g1:=z48 H a.implements (by omega);have g2:=WB H a.zi hnl fun x hx=>⟨ha.ok.n x hx,na.ni x hx⟩;have g3:=z9T H a.name a.zg b.zg (ha.d hk1) (hb.d hk1) na.da nb.da [] (by omega) (by simp);rw [show YV a.name []=a.name from rfl] at g3;have hmA:∀x,x∈a.members->MK x:=fun x hx=>⟨ha.ok.m x hx,ha.md hk1 hx,na.ma x hx,na.mN x hx⟩;have hmB:∀x,x∈b.members->MK x:=fun x hx=>⟨hb.ok.m x hx,hb.md hk1 hx,nb.ma x hx,nb.mN x hx⟩;have hiA:∀x,x∈a.zi->x.Ok/\x.name≠[]:=fun x hx=>⟨ha.ok.n x hx,na.nN x hx⟩;have hiB:∀x,x∈b.zi->x.Ok/\x.name≠[]:=fun x hx=>⟨hb.ok.n x hx,nb.nN x hx⟩;have h29:=Wv (zO a.zg b.zg) ⟨29,a.name⟩;generalize hF0:one (zO a.zg b.zg) ⟨29,a.name⟩=F0 at g3 e0 h29;have g4:=z7H H hk1 a.name hnm F0 (by omega) a b ha hb na nb;have hF1l:=zQ (l:=a.fields) (g:=Z1 b.fields a.name) fun x hx=>Ql hb.f _ (ha.f x hx);generalize hF1:a.fields.flatMap (Z1 b.fields a.name)=F1 at g4 e0 hF1l;generalize hFl:a.fields.map (YP b.fields)++Zt a.fields b.fields=FL at g4;refine z5.run H.i16 H.mixed Z Z ?_;refine fR Z ?_;refine Run.z9 Z Z (by simp [hkd]) ?_;refine fR Z ?_;refine Mid.zeR (g1) Z Z Z Z (ob':=[(4,.arr a.implements.length)]) (rfl) Z Z ?_;refine fM Z ?_;refine Mid.call (g2) Z Z Z Z ?_;refine fM Z ?_
 refine Mid.yp [3] (g3) Z Z Z Z (by simp [zZ];simp [zf.bd,V.bds,V.bd]) (by repeat' (first |exact trivial|exact rfl|refine And.intro ?_ ?_|exact (congrArg some (zf.ren_mE _ _ _ _ _ _)).symm|exact (congrArg some (zf.ren_cE _ _ _)).symm|(refine (congrArg some (zf.zY ?_ _ _)).symm;intro _;rfl))) Z Z (ob':=[(3,.cells [.t (.str a.name),.own 6 2 ((F0).map z4.enc)]),(6,.arr (F0).length)]) (rfl) Z Z ?_
 refine fM Z ?_;refine lM Z Z Z ?_;refine fM Z ?_;refine zn b.implements (fun i (B:List Str)=>{env:=[(2,.ptr 0 0),(3,.ptr 1 0),(4,.ptr 2 0),(6,.ptr 3 0),(7,.ptr 5 0),(43,.t (.lst (b.implements.map sE))),(44,.t (.int .i64 b.implements.length)),(45,.t (.int .i64 i))],s:=⟨[(0,(TCo a)),(1,(TCo b)),(2,.cells [.t (.int .i64 0),.t (.str []),.zp,.zp,.zp,.zp,.zp]),(3,.cells [.t (.str a.name),.own 6 2 (F0.map z4.enc)]),(4,.arr B.length),(5,.cells [.t (.int .i64 a.kind),.t (.str a.name),.own 4 1 (B.map sE),.t (.lst ((Zn a.zg b.zg).map Dir.enc)),.zp,.zp,.t (.lst (a.zi.map Input.enc))]),(6,.arr F0.length)],7⟩}) (fun r i B=>B++(r.filter fun x=>!decide (x∈a.implements))=Zq a.implements b.implements) 7 a.implements Z Z Z Z Z ?_ ?_
 ·intro B hB
  have hB2:Zq a.implements b.implements=B:=by simpa using hB.symm
  have hBl:B.length<=2000000:=by have:=qC a.implements b.implements;rw [hB2] at this;omega
  refine fR Z ?_;refine Run.z9 Z Z (by simp) ?_;refine fR Z ?_
  refine Mid.yp [3,6] (g4) Z Z Z Z (by simp [zZ];simp [zf.bd,V.bds,V.bd]) (by repeat' (first |exact trivial|exact rfl|refine And.intro ?_ ?_|exact (congrArg some (zf.ren_mE _ _ _ _ _ _)).symm|exact (congrArg some (zf.ren_cE _ _ _)).symm|(refine (congrArg some (zf.zY ?_ _ _)).symm;intro _;rfl))) Z Z (ob':=[(3,.cells [.t (.str a.name),.own 6 2 ((F0++F1).map z4.enc)]),(6,.arr (F0++F1).length)]) (rfl) Z Z ?_
  refine fM Z ?_;refine Run.z6Z (fun F:List z4=>{env:=[(2,.ptr 0 0),(3,.ptr 1 0),(4,.ptr 2 0),(6,.ptr 3 0),(7,.ptr 5 0)],s:=⟨[(0,(TCo a)),(1,(TCo b)),(2,.cells [.t (.int .i64 0),.t (.str []),.zp,.zp,.zp,.zp,.zp]),(3,.cells [.t (.str a.name),.own 6 2 (F.map z4.enc)]),(5,.cells [.t (.int .i64 a.kind),.t (.str a.name),.t (.lst (B.map sE)),.t (.lst ((Zn a.zg b.zg).map Dir.enc)),.t (.lst (FL.map Field.enc)),.zp,.t (.lst (a.zi.map Input.enc))]),(6,.arr F.length)],7⟩}) (fun F=>F++(ZA a.members b.members a.name++yM a.zi b.zi a.name)=tot) Z Z Z ?_ ?_ ?_
  ·intro F hF
   have hFle:F.length+((ZA a.members b.members a.name).length+(yM a.zi b.zi a.name).length)<=2004*k+4001:=by have:=congrArg List.length hF;simp only [w03] at this;omega
   have g5:=z6t H a.name hnm F (by omega) a.members b.members hml hml2 hmA hmB;have g6:=z7s H a.name hnm (F++ZA a.members b.members a.name) (by simp only [w03];omega) a.zi b.zi hnl hnl2 hiA hiB
   rw [show F++ZA a.members b.members a.name++yM a.zi b.zi a.name=tot by rw [←hF];simp] at g6
   generalize hML:a.members.map (W8 b.members)=ML at g5 hM0;refine fR Z ?_
   refine Mid.yp [3,6] (g5) Z Z Z Z (by simp [zZ];simp [zf.bd,V.bds,V.bd]) (by repeat' (first |exact trivial|exact rfl|refine And.intro ?_ ?_|exact (congrArg some (zf.ren_mE _ _ _ _ _ _)).symm|exact (congrArg some (zf.ren_cE _ _ _)).symm|(refine (congrArg some (zf.zY ?_ _ _)).symm;intro _;rfl))) Z Z (ob':=[(3,.cells [.t (.str a.name),.own 6 2 ((F++ZA a.members b.members a.name).map z4.enc)]),(6,.arr (F++ZA a.members b.members a.name).length)]) (rfl) Z Z ?_
   refine fM Z ?_
   refine Mid.yp [3,6] (g6) Z Z Z Z (by simp [zZ];simp [zf.bd,V.bds,V.bd]) (by repeat' (first |exact trivial|exact rfl|refine And.intro ?_ ?_|exact (congrArg some (zf.ren_mE _ _ _ _ _ _)).symm|exact (congrArg some (zf.ren_cE _ _ _)).symm|(refine (congrArg some (zf.zY ?_ _ _)).symm;intro _;rfl))) Z Z (ob':=[(3,.cells [.t (.str a.name),.own 6 2 ((tot).map z4.enc)]),(6,.arr (tot).length)]) (rfl) Z Z ?_
   refine fM Z ?_;refine lM Z Z Z ?_;refine fM Z ?_;refine Run.cond Z Z (fun hc=>?_) (fun hc=>?_)
   ·have ht:tot≠[]:=by rintro rfl;simp at hc
    rw [w0g ht] at hO;rw [hO];refine fR Z ?_;refine Run.fin Z (z3.go ?_);exact .ZG (.agg (.cons (.t Z) (.cons (.t Z) (.cons (.nil Z) (.cons (.nil Z) (.cons (.nil Z) (.cons (.nil Z) (.cons (.nil Z) .nil)))))))) (.own Z)
   ·have ht:tot=[]:=by
     cases tot with
     |nil=>rfl
     |cons x r=>simp at hc
    rw [w0e ht] at hO
    have e:yJ a b=⟨a.kind,a.name,B,Zn a.zg b.zg,FL,ML,a.zi⟩:=by rw [←hB2,←hFl,hM0 ht];rfl
    rw [hO,e,ht];refine fR Z ?_;refine Run.fin Z (z3.go ?_);exact .ZG (.agg (.cons (.t Z) (.cons (.t Z) (.cons (.t Z) (.cons (.t Z) (.cons (.t Z) (.cons (.t Z) (.cons (.t Z) .nil)))))))) (.nil Z)
  ·intro hc ih
   have hk2:a.kind=2:=by simpa using hc
   rw [w0e hk2] at e0
   have hfl3:(F0++F1).length<=4398000000000:=by
    have:a.fields.length*2002<=1000000*2002:=w0s _ (by omega);simp only [w03];omega
   have g5:=zcS H hk1 a.name hnm (F0++F1) hfl3 a b ha hb na nb;refine fR Z ?_
   refine Mid.yp [3,6] (g5) Z Z Z Z (by simp [zZ];simp [zf.bd,V.bds,V.bd]) (by repeat' (first |exact trivial|exact rfl|refine And.intro ?_ ?_|exact (congrArg some (zf.ren_mE _ _ _ _ _ _)).symm|exact (congrArg some (zf.ren_cE _ _ _)).symm|(refine (congrArg some (zf.zY ?_ _ _)).symm;intro _;rfl))) Z Z (ob':=[(3,.cells [.t (.str a.name),.own 6 2 ((F0++F1++qm a b a.name).map z4.enc)]),(6,.arr (F0++F1++qm a b a.name).length)]) (rfl) Z Z ?_
   refine Mid.WM Z ?_;exact ZD 7 Z (ih (F0++F1++qm a b a.name) (by rw [e0];simp)) Z Z Z
  ·intro hc ih
   have hk2:¬ a.kind=2:=by simpa using hc
   rw [w0g hk2] at e0;exact ZD 7 Z (ih (F0++F1) (by rw [e0];simp)) Z Z Z
 ·intro i x r B h1 hi hdr hB ih
  have hBl:B.length<=2000000:=by have:=congrArg List.length hB;have:=qC a.implements b.implements;simp only [w03] at*;omega
  refine fR Z ?_;refine Run.zb Z Z (by simp;omega) ?_;refine fR Z ?_;refine Mid.z6 Z Z Z h1 Z Z ?_;refine fM Z ?_;refine Mid.call (Qo H.p13.toPr a.implements (by omega) x) Z Z Z Z ?_;refine fM Z ?_;refine Run.cond Z Z (fun hc=>?_) (fun hc=>?_)
  ·have e:¬ x∈a.implements:=by simpa using hc
   refine fR Z ?_;refine apM sE B [x] Z Z Z Z Z ?_ (h1:=by first |omega|(simp;omega)|(simp;done)) (h2:=by first |omega|(simp;omega)|(simp;done));refine fM rfl ?_;refine aL rfl rfl rfl rfl rfl ?_;refine fM rfl ?_;exact zd 7 rfl (ih (B++[x]) (by rw [←hB];simp [e])) rfl rfl rfl
  ·have e:x∈a.implements:=by simpa using hc
   refine fR Z ?_;refine aL Z Z Z Z Z ?_;refine fM Z ?_;exact zd 7 Z (ih B (by rw [←hB];simp [e])) Z Z Z
theorem zbN (H:zG P) {n:Nat} (hn:n<=1000000) (a:Def) (ha:DB n a) (na:NM a):z5 P 29 [a.v] ⟨[],0⟩ {v:=(wK a).v}:=by
 have hfl:=ha.fl;have hml:=ha.ml;have hil:=ha.il;have g1:=(z48 H a.implements (by omega)).toT;have g2:=qu H a.zg (ha.d hn).d na.da (by have:=(ha.d hn).n;omega);have g3:=WB H a.zi ha.nl fun x hx=>⟨ha.ok.n x hx,na.ni x hx⟩;refine z5.run H.i29 H.mixed Z Z ?_;refine fR Z ?_;refine Mid.call (g1) Z Z Z Z ?_;refine fM Z ?_;refine Mid.call (g2) Z Z Z Z ?_;refine fM Z ?_;refine Mid.call (g3) Z Z Z Z ?_;refine fM Z ?_;refine lM Z Z Z ?_;refine fM Z ?_;refine zn a.fields (fun i (B:List Field)=>{env:=[(1,.ptr 0 0),(2,.ptr 1 0),(3,.ptr 2 0),(23,.t (.lst (a.fields.map Field.enc))),(24,.t (.int .i64 a.fields.length)),(25,.t (.int .i64 i))],s:=⟨[(0,(TCo a)),(1,.cells [.t (.int .i64 0),.t (.str []),.zp,.zp,.zp,.zp,.zp]),(2,.cells [.t (.int .i64 a.kind),.t (.str a.name),.t (.lst (a.implements.map sE)),.t (.lst ((zT a.zg).map Dir.enc)),.own 3 5 (B.map Field.enc),.zp,.t (.lst (a.zi.map Input.enc))]),(3,.arr B.length)],4⟩}) (fun r i B=>B++r.map Zg=a.fields.map Zg) 3 [] Z Z Z Z Z ?_ ?_
 ·intro B hB
  have hB2:a.fields.map Zg=B:=by simpa using hB.symm
  have hBl:B.length=a.fields.length:=by rw [←hB2];simp
  refine fR Z ?_;refine Run.z9 Z Z (by simp) ?_;refine fR Z ?_;refine lM Z Z Z ?_;refine fM Z ?_;refine zn a.members (fun i (C:List zh)=>{env:=[(2,.ptr 1 0),(3,.ptr 2 0),(38,.t (.lst (a.members.map zh.enc))),(39,.t (.int .i64 a.members.length)),(40,.t (.int .i64 i))],s:=⟨[(1,.cells [.t (.int .i64 0),.t (.str []),.zp,.zp,.zp,.zp,.zp]),(2,.cells [.t (.int .i64 a.kind),.t (.str a.name),.t (.lst (a.implements.map sE)),.t (.lst ((zT a.zg).map Dir.enc)),.t (.lst (B.map Field.enc)),.own 4 2 (C.map zh.enc),.t (.lst (a.zi.map Input.enc))]),(4,.arr C.length)],5⟩}) (fun r i C=>C++r.map wJ=a.members.map wJ) 4 [] Z Z Z Z Z ?_ ?_
  ·intro C hC
   have hC2:a.members.map wJ=C:=by simpa using hC.symm
   refine fR Z ?_;refine Run.z9 Z Z (by simp) ?_;refine fR Z ?_
   have e:wK a=⟨a.kind,a.name,a.implements,zT a.zg,B,C,a.zi⟩:=by rw [←hB2,←hC2];rfl
   rw [e];refine Run.fin Z (z3.go ?_);exact .agg (.cons (.t Z) (.cons (.t Z) (.cons (.t Z) (.cons (.t Z) (.cons (.t Z) (.cons (.own Z) (.cons (.t Z) .nil)))))))
  ·intro i x r C h1 hi hdr hC ih;have hxm:=zMG h1;have hC:C++(wJ x::r.map wJ)=a.members.map wJ:=hC
   have hCl:C.length<=a.members.length:=by have:=congrArg List.length hC;simp only [w03,w0r] at this;omega
   have g4:=qu H x.zg (ha.md hn hxm).d (na.ma x hxm) (by have:=(ha.md hn hxm).n;omega);refine fR Z ?_;refine Run.zb Z Z (by simp;omega) ?_;refine fR Z ?_;refine Mid.z6 Z Z Z h1 Z Z ?_;refine fM Z ?_;refine Mid.call (g4) Z Z Z Z ?_;refine fM Z ?_;refine apM zh.enc C [wJ x] Z Z Z Z Z ?_ (h1:=by first |omega|(simp;omega)|(simp;done)) (h2:=by first |omega|(simp;omega)|(simp;done));refine fM rfl ?_;refine aL rfl rfl rfl rfl rfl ?_;refine fM rfl ?_;exact zd 5 rfl (ih (C++[wJ x]) (by rw [←hC];simp)) rfl rfl rfl
 ·intro i x r B h1 hi hdr hB ih;have hxm:=zMG h1;have hB:B++(Zg x::r.map Zg)=a.fields.map Zg:=hB
  have hBl:B.length<=a.fields.length:=by have:=congrArg List.length hB;simp only [w03,w0r] at this;omega
  have g4:=qI H hn x (ha.f x hxm) (na.fa x hxm) (na.fi x hxm);refine fR Z ?_;refine Run.zb Z Z (by simp;omega) ?_;refine fR Z ?_;refine Mid.z6 Z Z Z h1 Z Z ?_;refine fM Z ?_;refine Mid.call (g4) Z Z Z Z ?_;refine fM Z ?_;refine apM Field.enc B [Zg x] Z Z Z Z Z ?_ (h1:=by first |omega|(simp;omega)|(simp;done)) (h2:=by first |omega|(simp;omega)|(simp;done));refine fM rfl ?_;refine aL rfl rfl rfl rfl rfl ?_;refine fM rfl ?_;exact zd 4 rfl (ih (B++[Zg x]) (by rw [←hB];simp)) rfl rfl rfl
theorem NM.merged {a b:Def} (na:NM a) (nb:NM b):NM (yJ a b):=by
 have gD:∀(l:List Field) (x:Field),(∀y,y∈l->DA y.zg)->DA ((zu x.name l).getD Field.zero).zg:=fun l x h=>by
  cases hf:zu x.name l with
  |none=>intro y hy;simp [Field.zero] at hy
  |some z=>exact h z (wY hf)
 have gM:∀(l:List zh) (x:zh),(∀y,y∈l->DA y.zg)->DA ((zK x.name l).getD zh.zero).zg:=fun l x h=>by
  cases hf:zK x.name l with
  |none=>intro y hy;simp [zh.zero] at hy
  |some z=>exact h z (Ym hf)
 refine ⟨fun y hy=>?_,fun y hy=>?_,na.nN,na.da.join nb.da,fun y hy=>?_,fun y hy=>?_,fun y hy=>?_,na.ni⟩
 ·rcases w14.1 hy with hy|hy
  ·obtain ⟨x,hx,rfl⟩:=w0m.1 hy;exact na.fN x hx
  ·obtain ⟨x,hx,_,rfl⟩:=wX hy;exact nb.fN x hx
 ·obtain ⟨x,hx,rfl⟩:=w0m.1 hy;exact na.mN x hx
 ·rcases w14.1 hy with hy|hy
  ·obtain ⟨x,hx,rfl⟩:=w0m.1 hy;exact (na.fa x hx).join (gD b.fields x nb.fa)
  ·obtain ⟨x,hx,_,rfl⟩:=wX hy;exact (nb.fa x hx).rest
 ·obtain ⟨x,hx,rfl⟩:=w0m.1 hy;exact (na.ma x hx).join (gM b.members x nb.ma)
 ·rcases w14.1 hy with hy|hy
  ·obtain ⟨x,hx,rfl⟩:=w0m.1 hy;exact na.fi x hx
  ·obtain ⟨x,hx,_,rfl⟩:=wX hy;exact nb.fi x hx
theorem NM.bare {a:Def} (na:NM a):NM (wK a):=by
 refine ⟨fun y hy=>?_,fun y hy=>?_,na.nN,na.da.rest,fun y hy=>?_,fun y hy=>?_,fun y hy=>?_,na.ni⟩
 ·obtain ⟨x,hx,rfl⟩:=w0m.1 hy;exact na.fN x hx
 ·obtain ⟨x,hx,rfl⟩:=w0m.1 hy;exact na.mN x hx
 ·obtain ⟨x,hx,rfl⟩:=w0m.1 hy;exact (na.fa x hx).rest
 ·obtain ⟨x,hx,rfl⟩:=w0m.1 hy;exact (na.ma x hx).rest
 ·obtain ⟨x,hx,rfl⟩:=w0m.1 hy;exact na.fi x hx
end Go.GB.C24
namespace Go.GB.C24
open Go.GB Go.GB.C11
variable {P:Program}
def YO {α:Type} (p:α->Bool):List α->Int->Int
 |[],_=>-1
 |x::r,i=>if p x=true then i else YO p r (i+1)
theorem z0U {α:Type} (p:α->Bool):∀(l:List α) (i:Int),0<=i->decide (YO p l i≥0)=l.any p
 |[],i,_=>by simp [YO]
 |x::r,i,h=>by
  by_cases hx:p x=true
  ·have e:YO p (x::r) i=i:=by simp only [YO];rw [w0e hx]
   rw [e];simp [h,hx]
  ·have e:YO p (x::r) i=YO p r (i+1):=by simp only [YO];rw [w0g hx]
   rw [e,z0U p r (i+1) (by omega)];simp [hx]
theorem zaT (H:zG P) (L:List Str) (hL:L.length<=140737488355328) (s:Str):z5 P 129 [.t (.str s),.ptr 0 0] ⟨[(0,.cells [.t (.lst (L.map sE))])],1⟩ {v:= .t (.bool (!decide (s∈L))),rd:=true}:=by
 refine z5.run H.i129 H.mixed Z Z ?_;refine fR Z ?_;refine Mid.call (Qo H.p13.toPr L hL s) Z Z Z Z ?_;refine fM Z ?_;refine Run.fin Z (z3.YU Z Z Z (by first |exact rfl|exact nSto_bd|exact tSto_bd) (.t (rfl)))
theorem zab (H:zG P) (L:List Str) (hL:L.length<=140737488355328) (l:List Str) (hl:l.length<=140737488355328):z5 P 163 [.t (.lst (l.map sE)),.fn 129 [(0,0)]] ⟨[(0,.cells [.t (.lst (L.map sE))])],1⟩ {v:= .t (.int .i64 (YO (fun s=>!decide (s∈L)) l 0)),rd:=true}:=by
 refine z5.run H.i163 H.mixed Z Z ?_;refine fR Z ?_;refine lM Z Z Z ?_;refine fM Z ?_;refine zn l (fun i (_:Unit)=>{env:=[(0,.t (.lst (l.map sE))),(1,.fn 129 [(0,0)]),(7,.t (.int .i64 l.length)),(8,.t (.int .i64 i))],s:=⟨[(0,.cells [.t (.lst (L.map sE))])],1⟩}) (fun r i _=>YO (fun s=>!decide (s∈L)) l 0=YO (fun s=>!decide (s∈L)) r i) 1 () Z Z Z Z Z ?_ ?_
 ·intro _ hinv;refine fR Z ?_;refine Run.z9 Z Z (by simp) ?_;refine fR Z ?_;refine Run.fin Z (z3.YU Z Z Z (by first |exact rfl|exact nSto_bd|exact tSto_bd) (.t ((by rw [hinv];rfl))))
 ·intro i y r _ h1 hi hd hinv ih;refine fR Z ?_;refine Run.zb Z Z (by simp;omega) ?_;refine fR Z ?_;refine Mid.z6 Z Z Z h1 Z Z ?_;refine fM Z ?_;refine Mid.z56 Z (zaT H L hL y) Z Z Z Z ?_;refine fM Z ?_;refine Run.cond Z Z (fun hc=>?_) (fun hc=>?_)
  ·refine fR Z ?_;refine Run.fin Z (z3.YU Z Z Z (by first |exact rfl|exact nSto_bd|exact tSto_bd) (.t ((by rw [hinv];simp only [YO];rw [w0e hc]))))
  ·refine fR Z ?_;refine aL Z Z Z Z Z ?_;refine fM Z ?_
   have h':¬ (!decide (y∈L))=true:=by rw [hc];simp
   exact zd 1 Z (ih () (by rw [hinv];simp only [YO];rw [w0g h'];rfl)) Z Z Z
theorem z5c (H:zG P) (L:List Str) (hL:L.length<=140737488355328) (l:List Str) (hl:l.length<=140737488355328):z5 P 128 [.t (.lst (l.map sE)),.fn 129 [(0,0)]] ⟨[(0,.cells [.t (.lst (L.map sE))])],1⟩ {v:= .t (.bool (l.any fun s=>!decide (s∈L))),rd:=true}:=by
 refine z5.run H.i128 H.mixed Z Z ?_;refine fR Z ?_;refine Mid.z66 (zab H L hL l hl) Z Z (by first |exact rfl|exact nSto_bd|exact tSto_bd) Z ?_;refine fM Z ?_;refine Run.fin Z (z3.YU Z Z Z (by first |exact rfl|exact nSto_bd|exact tSto_bd) (.t ((by rw [←z0U _ l 0 (by omega)]))))
def z7x (a b:List Str):Bool:=!(a.any fun s=>!decide (s∈b))
theorem zb1 (H:zG P) (a b:List Str) (ha:a.length<=140737488355328) (hb:b.length<=140737488355328):z5 P 127 [.t (.lst (a.map sE)),.t (.lst (b.map sE))] ⟨[],0⟩ {v:= .t (.bool (z7x a b))}:=by
 refine z5.run H.i127 H.mixed Z Z ?_;refine fR Z ?_
 refine Mid.Qt [0] (z5c H b hb a ha) Z Z Z Z (by simp [zZ];simp [zf.bd,V.bds,V.bd]) (by repeat' (first |exact trivial|exact rfl|refine And.intro ?_ ?_|exact (congrArg some (zf.ren_mE _ _ _ _ _ _)).symm|exact (congrArg some (zf.ren_cE _ _ _)).symm|(refine (congrArg some (zf.zY ?_ _ _)).symm;intro _;rfl))) Z ?_
 refine fM Z ?_;refine Run.fin Z (z3.go ?_);exact .t Z
def z6h (a b:List Str):Bool:=z7x a b&&z7x b a
theorem zd5 (H:zG P) (a b:List Str) (ha:a.length<=140737488355328) (hb:b.length<=140737488355328):z5 P 73 [.t (.lst (a.map sE)),.t (.lst (b.map sE))] ⟨[],0⟩ {v:= .t (.bool (z6h a b))}:=by
 have g1:=zb1 H a b ha hb;have g2:=zb1 H b a hb ha;unfold z6h;generalize z7x a b=x at g1⊢;generalize z7x b a=y at g2⊢;refine z5.run H.i73 H.mixed Z Z ?_;refine fR Z ?_;refine Mid.z0g Z g1 Z Z Z Z ?_;refine fM Z ?_
 cases x with
 |true=>
  refine Mid.zeb Z Z Z ?_;refine Mid.z0g Z g2 Z Z Z Z ?_;refine fM Z ?_;refine Run.fin Z (z3.go ?_);exact .t Z
 |false=>
  refine Mid.YQ Z (by first |rfl|(simp;done)) Z Z Z ?_;refine fM Z ?_;refine Run.fin Z (z3.go ?_);exact .t Z
def Gr.v (g:Gr):V:= .agg [.t (.str g.name),.t (.lst (g.doc.map Def.enc))]
def poB (all:List Str) (nm:Str) (g:Gr):Bool:=(ze nm g.doc).isSome&&!z6h (Yg g.doc nm) all
theorem za4 (H:zG P) (t:Def) (all:List Str) (hall:all.length<=140737488355328) (g:Gr) (hg:Z2 g.doc):z5 P 72 [Gr.v g,.ptr 0 0,.ptr 1 0] ⟨[(0,(TCo t)),(1,.cells [.t (.lst (all.map sE))])],2⟩ {v:= .t (.bool (poB all t.name g)),rd:=true}:=by
 have g1:=z1W H.p13.toPr g.doc hg t.name;have hl:=Qr g.doc t.name;have hdl:=hg.l;have g2:=zd5 H (Yg g.doc t.name) all (by omega) hall;refine z5.run H.i72 H.mixed Z Z ?_;refine fR Z ?_;refine Mid.call (z15 H.p13.toPr g.doc hg.l t.name) Z Z Z Z ?_;refine fM Z ?_;refine caG Z Z (fun hg=>⟨_,rfl,g1,rfl⟩) Z Z ?_;refine fM Z ?_;refine caG Z Z (fun hg=>⟨_,rfl,g2,rfl⟩) Z Z ?_;refine fM Z ?_;refine Run.fin Z (z3.YU Z Z Z (by first |exact rfl|exact nSto_bd|exact tSto_bd) (.t (rfl)))
theorem z9y (H:zG P) (t:Def) (all:List Str) (hall:all.length<=140737488355328) (l:List Gr) (hl:l.length<=140737488355328) (hg:∀g,g∈l->Z2 g.doc):z5 P 126 [.t (.lst (l.map Gr.enc)),.fn 72 [(0,0),(1,0)]] ⟨[(0,(TCo t)),(1,.cells [.t (.lst (all.map sE))])],2⟩ {v:= .t (.int .i64 (YO (poB all t.name) l 0)),rd:=true}:=by
 refine z5.run H.i126 H.mixed Z Z ?_;refine fR Z ?_;refine lM Z Z Z ?_;refine fM Z ?_;refine zn l (fun i (_:Unit)=>{env:=[(0,.t (.lst (l.map Gr.enc))),(1,.fn 72 [(0,0),(1,0)]),(7,.t (.int .i64 l.length)),(8,.t (.int .i64 i))],s:=⟨[(0,(TCo t)),(1,.cells [.t (.lst (all.map sE))])],2⟩}) (fun r i _=>YO (poB all t.name) l 0=YO (poB all t.name) r i) 2 () Z Z Z Z Z ?_ ?_
 ·intro _ hinv;refine fR Z ?_;refine Run.z9 Z Z (by simp) ?_;refine fR Z ?_;refine Run.fin Z (z3.YU Z Z Z (by first |exact rfl|exact nSto_bd|exact tSto_bd) (.t ((by rw [hinv];rfl))))
 ·intro i y r _ h1 hi hd hinv ih;refine fR Z ?_;refine Run.zb Z Z (by simp;omega) ?_;refine fR Z ?_;refine Mid.z6 Z Z Z h1 Z Z ?_;refine fM Z ?_;refine Mid.z56 Z (za4 H t all hall y (hg y (zMG h1))) Z Z Z Z ?_;refine fM Z ?_;refine Run.cond Z Z (fun hc=>?_) (fun hc=>?_)
  ·refine fR Z ?_;refine Run.fin Z (z3.YU Z Z Z (by first |exact rfl|exact nSto_bd|exact tSto_bd) (.t ((by rw [hinv];simp only [YO];rw [w0e hc]))))
  ·refine fR Z ?_;refine aL Z Z Z Z Z ?_;refine fM Z ?_
   have h':¬ poB all t.name y=true:=by rw [hc];simp
   exact zd 2 Z (ih () (by rw [hinv];simp only [YO];rw [w0g h'];rfl)) Z Z Z
theorem z5a (H:zG P) (t:Def) (all:List Str) (hall:all.length<=140737488355328) (l:List Gr) (hl:l.length<=140737488355328) (hg:∀g,g∈l->Z2 g.doc):z5 P 71 [.t (.lst (l.map Gr.enc)),.fn 72 [(0,0),(1,0)]] ⟨[(0,(TCo t)),(1,.cells [.t (.lst (all.map sE))])],2⟩ {v:= .t (.bool (l.any (poB all t.name))),rd:=true}:=by
 refine z5.run H.i71 H.mixed Z Z ?_;refine fR Z ?_;refine Mid.z66 (z9y H t all hall l hl hg) Z Z (by first |exact rfl|exact nSto_bd|exact tSto_bd) Z ?_;refine fM Z ?_;refine Run.fin Z (z3.YU Z Z Z (by first |exact rfl|exact nSto_bd|exact tSto_bd) (.t ((by rw [←z0U _ l 0 (by omega)]))))
theorem zb8 {t:Def} {nm x:Str}:∀{r pre:List Def},x∈wq t nm pre r->∀p,p∈pre->p.name≠x:=by
 intro r
 induction r with
 |nil=>intro pre h;simp [wq] at h
 |cons o r ih=>
  intro pre h p hp;simp only [wq] at h;split at h
  ·rename_i hc
   rcases w0t.1 h with h|h
   ·subst h;simp only [w07,ZK,w21,List.any_eq_false] at hc;intro e;exact hc.1.2 p hp (by simp [e])
   ·exact ih h p (by simp [hp])
  ·exact ih h p (by simp [hp])
theorem z7f {t:Def} {nm:Str}:∀(r pre:List Def),(wq t nm pre r).Nodup:=by
 intro r
 induction r with
 |nil=>intro pre;simp [wq]
 |cons o r ih=>
  intro pre;simp only [wq];split
  ·rw [w15];exact ⟨fun h=>zb8 h o (by simp) Z,ih _⟩
  ·exact ih _
theorem z39 (ds:List Def) (nm:Str):(Yg ds nm).Nodup:=by
 unfold Yg;split
 ·simp
 ·exact z7f _ _
theorem zaO {a b:List Str}:z7x a b=true↔∀x,x∈a->x∈b:=by
 simp [z7x]
theorem zaR {a b:List Str} (ha:a.Nodup) (hb:b.Nodup):z6h a b=(decide (a.length=b.length)&&a.all fun s=>decide (s∈b)):=by
 rw [w1n];simp only [z6h,w07,zaO,w0j,w0i];constructor
 ·rintro ⟨h1,h2⟩;exact ⟨Nat.le_antisymm (ha.length_le_of_subset h1) (hb.length_le_of_subset h2),h1⟩
 ·rintro ⟨h1,h2⟩;refine ⟨h2,fun x hx=>Classical.byContradiction fun hn=>?_⟩;have hnd:(x::a).Nodup:=w15.2 ⟨hn,ha⟩
  have:=hnd.length_le_of_subset (l₂:=b) fun y hy=>by
   rcases w0t.1 hy with rfl|hy
   ·exact hx
   ·exact h2 y hy
  simp only [w0d] at this;omega
theorem zd7 (all:List Str) (hall:all.Nodup) (nm:Str) (g:Gr):poB all nm g=!yy all nm g:=by
 unfold poB yy;rw [zaR (z39 g.doc nm) hall]
 cases ze nm g.doc<;>simp
theorem zck (all:List Str) (hall:all.Nodup) (nm:Str) (gs:List Gr):gs.any (poB all nm)=!gs.all (yy all nm):=by
 rw [show gs.any (poB all nm)=gs.any (fun g=>!yy all nm g) by congr 1;funext g;exact zd7 all hall nm g]
 simp [List.all_eq_not_any_not]
theorem zcv (H:zG P) (f:Field):z5 P 131 [f.v] ⟨[],0⟩ {v:= .t (.bool (decide ((f.zg.length:Int)>16)))}:=by
 refine z5.run H.i131 H.mixed Z Z ?_;refine fR Z ?_;refine lM Z Z Z ?_;refine fM Z ?_;refine Run.fin Z (z3.go ?_);exact .t Z
theorem zcA (H:zG P) (f:zh):z5 P 133 [zh.v f] ⟨[],0⟩ {v:= .t (.bool (decide ((f.zg.length:Int)>16)))}:=by
 refine z5.run H.i133 H.mixed Z Z ?_;refine fR Z ?_;refine lM Z Z Z ?_;refine fM Z ?_;refine Run.fin Z (z3.go ?_);exact .t Z
theorem z7C (H:zG P) (l:List Field) (hl:l.length<=140737488355328):z5 P 164 [.t (.lst (l.map Field.enc)),.t (.fn 131)] ⟨[],0⟩ {v:= .t (.int .i64 (YO (fun f=>decide ((f.zg.length:Int)>16)) l 0))}:=by
 refine z5.run H.i164 H.mixed Z Z ?_;refine fR Z ?_;refine lM Z Z Z ?_;refine fM Z ?_;refine zn l (fun i (_:Unit)=>{env:=[(0,.t (.lst (l.map Field.enc))),(1,.t (.fn 131)),(7,.t (.int .i64 l.length)),(8,.t (.int .i64 i))],s:=⟨[],0⟩}) (fun r i _=>YO (fun f:Field=>decide ((f.zg.length:Int)>16)) l 0=YO (fun f:Field=>decide ((f.zg.length:Int)>16)) r i) 0 () Z Z Z Z Z ?_ ?_
 ·intro _ hinv;refine fR Z ?_;refine Run.z9 Z Z (by simp) ?_;refine fR Z ?_;refine Run.fin Z (z3.go ?_);exact .t (by rw [hinv];rfl)
 ·intro i y r _ h1 hi hd hinv ih;refine fR Z ?_;refine Run.zb Z Z (by simp;omega) ?_;refine fR Z ?_;refine Mid.z6 Z Z Z h1 Z Z ?_;refine fM Z ?_;refine Mid.z0g Z (zcv H y) Z Z Z Z ?_;refine fM Z ?_;refine Run.cond Z Z (fun hc=>?_) (fun hc=>?_)
  ·refine fR Z ?_;refine Run.fin Z (z3.go ?_);exact .t (by rw [hinv];simp only [YO];rw [w0e hc])
  ·refine fR Z ?_;refine aL Z Z Z Z Z ?_;refine fM Z ?_
   have h':¬ decide ((y.zg.length:Int)>16)=true:=by rw [hc];simp
   exact zd 0 Z (ih () (by rw [hinv];simp only [YO];rw [w0g h'];rfl)) Z Z Z
theorem z7B (H:zG P) (l:List zh) (hl:l.length<=140737488355328):z5 P 165 [.t (.lst (l.map zh.enc)),.t (.fn 133)] ⟨[],0⟩ {v:= .t (.int .i64 (YO (fun f=>decide ((f.zg.length:Int)>16)) l 0))}:=by
 refine z5.run H.i165 H.mixed Z Z ?_;refine fR Z ?_;refine lM Z Z Z ?_;refine fM Z ?_;refine zn l (fun i (_:Unit)=>{env:=[(0,.t (.lst (l.map zh.enc))),(1,.t (.fn 133)),(7,.t (.int .i64 l.length)),(8,.t (.int .i64 i))],s:=⟨[],0⟩}) (fun r i _=>YO (fun f:zh=>decide ((f.zg.length:Int)>16)) l 0=YO (fun f:zh=>decide ((f.zg.length:Int)>16)) r i) 0 () Z Z Z Z Z ?_ ?_
 ·intro _ hinv;refine fR Z ?_;refine Run.z9 Z Z (by simp) ?_;refine fR Z ?_;refine Run.fin Z (z3.go ?_);exact .t (by rw [hinv];rfl)
 ·intro i y r _ h1 hi hd hinv ih;refine fR Z ?_;refine Run.zb Z Z (by simp;omega) ?_;refine fR Z ?_;refine Mid.z6 Z Z Z h1 Z Z ?_;refine fM Z ?_;refine Mid.z0g Z (zcA H y) Z Z Z Z ?_;refine fM Z ?_;refine Run.cond Z Z (fun hc=>?_) (fun hc=>?_)
  ·refine fR Z ?_;refine Run.fin Z (z3.go ?_);exact .t (by rw [hinv];simp only [YO];rw [w0e hc])
  ·refine fR Z ?_;refine aL Z Z Z Z Z ?_;refine fM Z ?_
   have h':¬ decide ((y.zg.length:Int)>16)=true:=by rw [hc];simp
   exact zd 0 Z (ih () (by rw [hinv];simp only [YO];rw [w0g h'];rfl)) Z Z Z
theorem zbW (H:zG P) (l:List Field) (hl:l.length<=140737488355328):z5 P 130 [.t (.lst (l.map Field.enc)),.t (.fn 131)] ⟨[],0⟩ {v:= .t (.bool (l.any fun f=>decide ((f.zg.length:Int)>16)))}:=by
 refine z5.run H.i130 H.mixed Z Z ?_;refine fR Z ?_;refine Mid.call (z7C H l hl) Z Z Z Z ?_;refine fM Z ?_;refine Run.fin Z (z3.go ?_);exact .t (by rw [←z0U _ l 0 (by omega)])
theorem zaX (H:zG P) (l:List zh) (hl:l.length<=140737488355328):z5 P 132 [.t (.lst (l.map zh.enc)),.t (.fn 133)] ⟨[],0⟩ {v:= .t (.bool (l.any fun f=>decide ((f.zg.length:Int)>16)))}:=by
 refine z5.run H.i132 H.mixed Z Z ?_;refine fR Z ?_;refine Mid.call (z7B H l hl) Z Z Z Z ?_;refine fM Z ?_;refine Run.fin Z (z3.go ?_);exact .t (by rw [←z0U _ l 0 (by omega)])
theorem z94 (H:zG P) (d:Def) (hd:d.Ok):z5 P 74 [d.v] ⟨[],0⟩ {v:= .t (.bool (yI d))}:=by
 have g1:=zbW H d.fields hd.fl;have g2:=zaX H d.members hd.ml;refine z5.run H.i74 H.mixed Z Z ?_;refine fR Z ?_;refine lM Z Z Z ?_;refine fM Z ?_;refine lMG Z Z Z Z ?_;refine fM Z ?_;refine lMG Z Z Z Z ?_;refine fM Z ?_;refine Run.cond Z Z (fun hc=>?_) (fun hc=>?_)
 ·refine fR Z ?_;refine Run.fin Z (z3.go ?_);exact .t (by unfold yI;rw [hc];rfl)
 ·refine fR Z ?_;refine Mid.call (g1) Z Z Z Z ?_;refine fM Z ?_;refine caG Z Z (fun hg=>⟨_,rfl,g2,rfl⟩) Z Z ?_;refine fM Z ?_;refine Run.fin Z (z3.go ?_);exact .t (by unfold yI;rw [hc];rfl)
theorem z9Z (H:zG P) (gs:List Gr) (hG:GL gs) (ds:List Def) (hD:Z2 ds) (hdl:ds.length<=512):z5 P 30 [.t (.lst (gs.map Gr.enc)),yY ds] ⟨[],0⟩ {v:= .t (.lst ((z2L gs ds).map z4.enc))}:=by
 have hn:=hG.n;have hb2:=z0v gs ds;have e0:z2L gs ds=zm (QR gs ds) (fun d=>⟨45,d.name⟩) ds++(one (decide ((ds.length:Int)>64)) ⟨4,[]⟩++zm yI (fun d=>⟨4,d.name⟩) ds):=rfl;generalize z2L gs ds=tot at e0 hb2⊢;refine z5.run H.i30 H.mixed Z Z ?_;refine fR Z ?_;refine lM Z Z Z ?_;refine fM Z ?_;refine zn ds (fun i (B:List z4)=>{env:=[(0,.t (.lst (gs.map Gr.enc))),(3,.ptr 0 0),(5,.own 1 2 (B.map z4.enc)),(12,.t (.lst (ds.map Def.enc))),(13,.t (.int .i64 ds.length)),(14,.t (.int .i64 i))],s:=⟨[(0,.cells [.t (.lst (ds.map Def.enc))]),(1,.arr B.length)],2⟩}) (fun r i B=>B++(zm (QR gs ds) (fun d=>⟨45,d.name⟩) r++(one (decide ((ds.length:Int)>64)) ⟨4,[]⟩++zm yI (fun d=>⟨4,d.name⟩) ds))=tot) 1 [] Z e0.symm Z Z Z ?_ ?_
 ·intro B hB
  have hB:B++(one (decide ((ds.length:Int)>64)) ⟨4,[]⟩++zm yI (fun d=>⟨4,d.name⟩) ds)=tot:=by simpa [zm] using hB
  have hBl:B.length<=2000:=by have:=congrArg List.length hB;simp only [w03] at this;omega
  refine fR Z ?_;refine Run.z9 Z Z (by simp) ?_;refine fR Z ?_;refine lM Z Z Z ?_;refine fM Z ?_;refine Run.z6Z (fun B:List z4=>{env:=[(3,.ptr 0 0),(5,.own 1 2 (B.map z4.enc))],s:=⟨[(0,.cells [.t (.lst (ds.map Def.enc))]),(1,.arr B.length)],2⟩}) (fun B=>B++zm yI (fun d=>⟨4,d.name⟩) ds=tot) Z Z Z ?_ ?_ ?_
  ·intro B hB;refine fR Z ?_;refine lM Z Z Z ?_;refine fM Z ?_;refine zn ds (fun i (B:List z4)=>{env:=[(5,.own 1 2 (B.map z4.enc)),(44,.t (.lst (ds.map Def.enc))),(45,.t (.int .i64 ds.length)),(46,.t (.int .i64 i))],s:=⟨[(1,.arr B.length)],2⟩}) (fun r i B=>B++zm yI (fun d=>⟨4,d.name⟩) r=tot) 2 B Z hB Z Z Z ?_ ?_
   ·intro B hB
    have hB2:B=tot:=by simpa [zm] using hB
    refine fR Z ?_;refine Run.z9 Z Z (by simp) ?_;refine fR Z ?_;refine Run.fin Z (z3.go ?_);exact .own (by rw [hB2])
   ·intro i d r B h1 hi hdr hB ih
    have hB:B++(one (yI d) ⟨4,d.name⟩++zm yI (fun d=>⟨4,d.name⟩) r)=tot:=by rw [←hB];simp [zm]
    have hBl:B.length<=2000:=by have:=congrArg List.length hB;simp only [w03] at this;omega
    have hdd:=hD.d d (zMG h1);refine fR Z ?_;refine Run.zb Z Z (by simp;omega) ?_;refine fR Z ?_;refine Mid.z6 Z Z Z h1 Z Z ?_;refine fM Z ?_;refine Mid.call (z94 H d hdd) Z Z Z Z ?_;refine fM Z ?_;refine Run.cond Z Z (fun hc=>?_) (fun hc=>?_)
    ·rw [hc,Y5] at hB;refine fR Z ?_;refine apM z4.enc B [(⟨4,d.name⟩:z4)] Z Z Z Z Z ?_ (h1:=by first |omega|(simp;omega)|(simp;done)) (h2:=by first |omega|(simp;omega)|(simp;done));refine fM rfl ?_;refine aL rfl rfl rfl rfl rfl ?_;refine fM rfl ?_;exact zd 2 rfl (ih (B++[⟨4,d.name⟩]) (by rw [←hB];simp)) rfl rfl rfl
    ·rw [hc,Yl,w0u] at hB;refine fR Z ?_;refine aL Z Z Z Z Z ?_;refine fM Z ?_;exact zd 2 Z (ih B hB) Z Z Z
  ·intro hc ih;rw [hc,Y5] at hB;refine fR Z ?_;refine apM z4.enc B [(⟨4,[]⟩:z4)] Z Z Z Z Z ?_ (h1:=by first |omega|(simp;omega)|(simp;done)) (h2:=by first |omega|(simp;omega)|(simp;done));refine Mid.Wn (f:=1) rfl trivial ?_;refine Mid.WM rfl ?_;exact ZD 2 rfl (ih (B++[⟨4,[]⟩]) (by rw [←hB];simp)) rfl rfl rfl
  ·intro hc ih;rw [hc,Yl,w0u] at hB;exact ZD 2 Z (ih B hB) Z Z Z
 ·intro i d r B h1 hi hdr hB ih
  have hB:B++(one (QR gs ds d) ⟨45,d.name⟩++(zm (QR gs ds) (fun d=>⟨45,d.name⟩) r++(one (decide ((ds.length:Int)>64)) ⟨4,[]⟩++zm yI (fun d=>⟨4,d.name⟩) ds)))=tot:=by rw [←hB];simp [zm]
  have hBl:B.length<=2000:=by have:=congrArg List.length hB;simp only [w03] at this;omega
  have hpl:=Qr ds d.name;have g1:=z1W H.p13.toPr ds hD d.name;have g2:=z5a H d (Yg ds d.name) (by omega) gs (by omega) fun g hg=>(hG.g g hg).1;have e1:gs.any (poB (Yg ds d.name) d.name)=!z45 gs ds d.name:=zck _ (z39 ds d.name) _ _;rw [e1] at g2;refine fR Z ?_;refine Run.zb Z Z (by simp;omega) ?_;refine fR Z ?_;refine Mid.z6 Z Z Z h1 Z Z ?_;refine fM Z ?_;refine Run.cond Z Z (fun hk=>?_) (fun hk=>?_)
  ·have e:QR gs ds d=false:=by unfold QR;rw [show (d.kind==2)=false by simpa using hk];rfl
   rw [e,Yl,w0u] at hB;refine fR Z ?_;refine aL Z Z Z Z Z ?_;refine fM Z ?_;exact zd 2 Z (ih B hB) Z Z Z
  ·have e:QR gs ds d=!z45 gs ds d.name:=by unfold QR;rw [show (d.kind==2)=true by simpa using hk];rfl
   rw [e] at hB;refine fR Z ?_;refine Mid.call (g1) Z Z Z Z ?_;refine fM Z ?_
   refine Mid.Qt [2,3] (g2) Z Z Z Z (by simp [zZ];simp [zf.bd,V.bds,V.bd]) (by repeat' (first |exact trivial|exact rfl|refine And.intro ?_ ?_|exact (congrArg some (zf.ren_mE _ _ _ _ _ _)).symm|exact (congrArg some (zf.ren_cE _ _ _)).symm|(refine (congrArg some (zf.zY ?_ _ _)).symm;intro _;rfl))) Z ?_
   refine fM Z ?_;refine Run.cond Z Z (fun hc=>?_) (fun hc=>?_)
   ·rw [hc,Y5] at hB;refine fR Z ?_;refine apM z4.enc B [(⟨45,d.name⟩:z4)] Z Z Z Z Z ?_ (h1:=by first |omega|(simp;omega)|(simp;done)) (h2:=by first |omega|(simp;omega)|(simp;done));refine fM rfl ?_;refine aL rfl rfl rfl rfl rfl ?_;refine fM rfl ?_;exact zd 2 rfl (ih (B++[⟨45,d.name⟩]) (by rw [←hB];simp)) rfl rfl rfl
   ·rw [hc,Yl,w0u] at hB;refine fR Z ?_;refine aL Z Z Z Z Z ?_;refine fM Z ?_;exact zd 2 Z (ih B hB) Z Z Z
end Go.GB.C24
namespace Go.GB.C24
open Go.GB Go.GB.C11
variable {P:Program}
structure GN (gs:List Gr):Prop extends GL gs where
 nm:∀g,g∈gs->∀d,d∈g.doc->NM d
theorem z3l {n:Str}:∀{l:List Def} {d:Def},ze n l=some d->d.name=n
 |[],d,h=>by simp [ze] at h
 |x::r,d,h=>by
  simp only [ze] at h;split at h
  ·rename_i e;cases h;simpa using e
  ·exact z3l h
theorem qz {n:Str}:∀{l:List Def},ze n l=none↔∀d,d∈l->d.name≠n
 |[]=>by simp [ze]
 |x::r=>by
  simp only [ze];by_cases h:(x.name==n)=true
  ·rw [w0e h];simp only [reduceCtorEq,false_iff];intro hh;exact hh x (by simp) (by simpa using h)
  ·rw [w0g h,qz];constructor
   ·intro hh d hd
    rcases w0t.1 hd with rfl|hd
    ·simpa using h
    ·exact hh d hd
   ·intro hh d hd;exact hh d (by simp [hd])
theorem z0H {n:Str} {b:List Def}:∀{a:List Def},ze n a=none->ze n (a++b)=ze n b
 |[],_=>rfl
 |x::r,h=>by
  simp only [ze] at h;split at h
  ·cases h
  ·rename_i e;simp only [w1y,ze];rw [w0g e];exact z0H h
theorem zbF {o:List Str} {n x:Str}:x∈z0m o n↔x∈o∨x=n:=by
 unfold z0m;split
 ·rename_i h;constructor
  ·exact .inl
  ·rintro (h2|rfl)
   ·exact h2
   ·exact h
 ·simp
theorem Wj {x:Str}:∀{l:List Def} {o:List Str},x∈ZP o l↔x∈o∨∃d,d∈l/\d.name=x
 |[],o=>by simp [ZP]
 |d::r,o=>by
  simp only [ZP,Wj,zbF,w0t];constructor
  ·rintro ((h|rfl)|⟨e,h1,h2⟩)
   ·exact .inl h
   ·exact .inr ⟨d,.inl Z,rfl⟩
   ·exact .inr ⟨e,.inr h1,h2⟩
  ·rintro (h|⟨e,rfl|h1,h2⟩)
   ·exact .inl (.inl h)
   ·exact .inl (.inr h2.symm)
   ·exact .inr ⟨e,h1,h2⟩
theorem W7 {x:Str}:∀{l:List Gr} {o:List Str},x∈yw o l↔x∈o∨∃g,g∈l/\∃d,d∈g.doc/\d.name=x
 |[],o=>by simp [yw]
 |g::r,o=>by
  simp only [yw,W7,Wj,w0t];constructor
  ·rintro ((h|h)|⟨e,h1,h2⟩)
   ·exact .inl h
   ·exact .inr ⟨g,.inl Z,h⟩
   ·exact .inr ⟨e,.inr h1,h2⟩
  ·rintro (h|⟨e,rfl|h1,h2⟩)
   ·exact .inl (.inl h)
   ·exact .inl (.inr h2)
   ·exact .inr ⟨e,h1,h2⟩
theorem zaj {nm:Str} {g:Gr} {o:Option Def} {B:List z4} (h:∀x,o=some x->x.name=nm):∀x,(Q0 nm g o B).1=some x->x.name=nm:=by
 intro x hx
 cases hf:ze nm g.doc with
 |none=>rw [wP hf] at hx;exact h x hx
 |some d=>
  cases o with
  |none=>rw [Wf hf] at hx;injection hx with hx;subst hx;have:=z3l hf;exact this
  |some y=>
   by_cases hb:zL y d=[]
   ·rw [qp hf hb] at hx;injection hx with hx;subst hx;exact h y Z
   ·rw [W6 hf hb] at hx;injection hx with hx;subst hx;exact h _ Z
theorem z4g {nm:Str}:∀{gs:List Gr} {o:Option Def} {B:List z4},(∀x,o=some x->x.name=nm)->∀x,(Yd nm gs o B).1=some x->x.name=nm
 |[],o,B,h=>h
 |g::r,o,B,h=>z4g (gs:=r) (zaj h)
theorem qe {nm:Str}:∀{gs:List Gr} {x:Def} {B:List z4},∃y,(Yd nm gs (some x) B).1=some y
 |[],x,B=>⟨x,rfl⟩
 |g::r,x,B=>by
  simp only [Yd]
  cases hf:ze nm g.doc with
  |none=>rw [wP hf];exact qe
  |some d=>
   by_cases hb:zL x d=[]
   ·rw [qp hf hb];exact qe
   ·rw [W6 hf hb];exact qe
theorem z3Z {nm:Str} {r:List Gr} {o:Option Def} {B:List z4}:∀{pre:List Gr},(∀g,g∈pre->ze nm g.doc=none)->Yd nm (pre++r) o B=Yd nm r o B
 |[],_=>rfl
 |g::p,h=>by
  simp only [w1y,Yd];rw [wP (h g (by simp))];exact z3Z fun x hx=>h x (by simp [hx])
theorem zaB {nm:Str} {g:Gr} {o:Option Def} {B C:List z4}:Q0 nm g o (B++C)=((Q0 nm g o C).1,B++(Q0 nm g o C).2):=by
 cases hf:ze nm g.doc with
 |none=>rw [wP hf,wP hf]
 |some d=>
  cases o with
  |none=>rw [Wf hf,Wf hf]
  |some y=>
   by_cases hb:zL y d=[]
   ·rw [qp hf hb,qp hf hb]
   ·rw [W6 hf hb,W6 hf hb,w1g]
theorem z32 {nm:Str}:∀{gs:List Gr} {o:Option Def} {B C:List z4},Yd nm gs o (B++C)=((Yd nm gs o C).1,B++(Yd nm gs o C).2)
 |[],o,B,C=>rfl
 |g::r,o,B,C=>by
  simp only [Yd,zaB];exact z32
theorem z9r {nm:Str} {gs:List Gr} {o:Option Def} {B:List z4}:B.length<=(Yd nm gs o B).2.length:=by
 have:=z32 (nm:=nm) (gs:=gs) (o:=o) (B:=B) (C:=[]);rw [w1j] at this;rw [this];simp
theorem zb6 {gs:List Gr} {i k:Nat} {g:Gr} {t:Def} (h1:gs[i]?=some g) (h2:g.doc[k]?=some t) (hn:t.name∉ZP (yw [] (gs.take i)) (g.doc.take k)):
  Yd t.name gs none []=Yd t.name (gs.drop (i+1)) (some (wK t)) []:=by
 have hn1:∀x,x∈gs.take i->ze t.name x.doc=none:=fun x hx=>qz.2 fun d hd e=>hn (Wj.2 (.inl (W7.2 (.inr ⟨x,hx,d,hd,e⟩))));have hn2:ze t.name (g.doc.take k)=none:=qz.2 fun d hd e=>hn (Wj.2 (.inr ⟨d,hd,e⟩))
 have hf:ze t.name g.doc=some t:=by
  rw [show g.doc=g.doc.take k++g.doc.drop k by simp,z0H hn2,C11.y9 h2]
  simp [ze]
 conv=>lhs;rw [show gs=gs.take i++gs.drop i by simp]
 rw [z3Z hn1,C11.y9 h1];simp only [Yd];rw [Wf hf]
theorem zcB {gs:List Gr} {n:Str} (h:n∈yt gs):(tyD gs n).name=n:=by
 have hs:∀(l:List Gr),(∃g,g∈l/\∃d,d∈g.doc/\d.name=n)->∃y,(Yd n l none []).1=some y:=by
  intro l
  induction l with
  |nil=>rintro ⟨g,hg,_⟩;simp at hg
  |cons g r ih=>
   intro hh;simp only [Yd]
   cases hf:ze n g.doc with
   |none=>
    rw [wP hf];obtain ⟨x,hx,d,hd,e⟩:=hh
    rcases w0t.1 hx with rfl|hx
    ·exact absurd e (qz.1 hf d hd)
    ·exact ih ⟨x,hx,d,hd,e⟩
   |some d=>rw [Wf hf];exact qe
 obtain ⟨y,hy⟩:=hs gs (by simpa using W7.1 h);unfold tyD;rw [hy];exact z4g (gs:=gs) (o:=none) (B:=[]) (by simp) y hy
theorem z7n {gs:List Gr} {i k:Nat} {g:Gr} (h1:gs[i]?=some g):∀x,x∈ZP (yw [] (gs.take i)) (g.doc.take k)->x∈yt gs:=fun x hx=>by
 refine W7.2 (.inr ?_)
 rcases Wj.1 hx with h|⟨d,hd,e⟩
 ·rcases W7.1 h with h|⟨y,hy,h⟩
  ·simp at h
  ·exact ⟨y,List.mem_of_mem_take hy,h⟩
 ·exact ⟨g,zMG h1,d,List.mem_of_mem_take hd,e⟩
theorem z40 {gs:List Gr} {n:Str}:∀{l:List Str},(∀x,x∈l->x∈yt gs)->(ze n (l.map (tyD gs))).isSome=decide (n∈l)
 |[],_=>by simp [ze]
 |x::r,h=>by
  simp only [w0n,ze];rw [zcB (h x (by simp))];by_cases e:x=n
  ·simp [e]
  ·rw [w0g (by simpa using e),z40 fun y hy=>h y (by simp [hy])];simp [Ne.symm e]
theorem zcp {gs:List Gr} (hG:GL gs) {i k:Nat} {g:Gr} (h1:gs[i]?=some g):(ZP (yw [] (gs.take i)) (g.doc.take k)).length<=512:=by
 have hi:i<gs.length:=(w02.1 h1).1;have hn:=hG.n;have h2:=z08 (g.doc.take k) (yw [] (gs.take i));have h3:=z0p (gs.take i) [] fun x hx=>(hG.g x (List.mem_of_mem_take hx)).2.1;have h4:=(hG.g g (zMG h1)).2.1;simp only [w26,w16] at h2 h3
 have:min i gs.length<=7:=by omega
 have:min i gs.length*64<=7*64:=w0s _ this;omega
theorem zcq {gs:List Gr} (hG:GL gs) {l:List Str} (hl:l.length<=512):(l.flatMap (tyB gs)).length<=12288000000:=by
 have h1:=zQ (l:=l) (g:=tyB gs) (k:=24000000) fun x _=>(zcl hG x).2;have:l.length*24000000<=512*24000000:=w0s _ hl;omega
theorem take_succ {α:Type} {l:List α} {i:Nat} {x:α} (h:l[i]?=some x):l.take (i+1)=l.take i++[x]:=by
 rw [w1f,h];rfl
theorem z5Q (o:List Str) (d:Def):∀l:List Def,ZP o (l++[d])=z0m (ZP o l) d.name:=by
 intro l
 induction l generalizing o with
 |nil=>rfl
 |cons x r ih=>simp only [w1y,ZP];exact ih _
theorem z6k (o:List Str) (g:Gr):∀l:List Gr,yw o (l++[g])=ZP (yw o l) g.doc:=by
 intro l
 induction l generalizing o with
 |nil=>rfl
 |cons x r ih=>simp only [w1y,yw];exact ih _
theorem z1z (H:zG P) (gs:List Gr) (hN:GN gs):z5 P 10 [.t (.lst (gs.map Gr.enc))] ⟨[],0⟩ {v:= .tup [yY (z3r gs),.t (.lst ((Q5 gs).map z4.enc))]}:=by
 have hG:=hN.toGL;have hn:=hG.n;have hdl:=z0w hG;have hdk:=z5j hG;have hb1:=z3k hG;have hb2:=z0v gs (WK gs);have g0:=z9Z H gs hG (WK gs) hdk hdl;have hT:Q5 gs=if z0G gs=[] then z2L gs (WK gs) else z0G gs:=rfl;have hU:z3r gs=if Q5 gs=[] then WK gs else []:=rfl;have eD:(yt gs).map (tyD gs)=WK gs:=rfl;have eB:(yt gs).flatMap (tyB gs)=z0G gs:=rfl;refine z5.run H.i10 H.mixed Z Z ?_;refine fR Z ?_;refine lM Z Z Z ?_;refine fM Z ?_;refine zn gs (fun i (N:List Str)=>{env:=[(0,.t (.lst (gs.map Gr.enc))),(2,.ptr 0 0),(4,.ptr 1 0),(5,.own 3 2 ((N.flatMap (tyB gs)).map z4.enc)),(19,.t (.lst (gs.map Gr.enc))),(20,.t (.int .i64 gs.length)),(21,.t (.int .i64 i))],s:=⟨[(0,.cells [.zp]),(1,.cells [.own 2 7 ((N.map (tyD gs)).map Def.enc)]),(2,.arr (N.map (tyD gs)).length),(3,.arr (N.flatMap (tyB gs)).length)],4⟩}) (fun r i N=>N=yw [] (gs.take i)) 2 [] Z Z Z Z Z ?_ ?_
 ·intro N hN0
  have hN2:N=yt gs:=by rw [hN0,List.take_length];rfl
  rw [hN2,eD,eB];generalize Q5 gs=T0 at hT hU⊢;generalize z3r gs=U0 at hU⊢;generalize z0G gs=B at hT hb1;refine fR Z ?_;refine Run.z9 Z Z (by simp) ?_;refine fR Z ?_;refine lM Z Z Z ?_;refine fM Z ?_;refine Run.cond Z Z (fun hc=>?_) (fun hc=>?_)
  ·have hne:B=[]:=by
    cases B with
    |nil=>rfl
    |cons a b=>simp at hc;omega
   rw [w0e hne] at hT;subst hne;subst hT;generalize z2L gs (WK gs)=tot at hb2 g0 hU⊢;generalize WK gs=D at*;refine fR Z ?_;refine Mid.call (g0) Z Z Z Z ?_;refine fM Z ?_;refine lM Z Z Z ?_;refine fM Z ?_;refine Run.cond Z Z (fun hc=>?_) (fun hc=>?_)
   ·have hne:tot≠[]:=by rintro rfl;simp at hc
    rw [w0g hne] at hU;rw [hU];refine fR Z ?_;refine Run.fin Z (z3.go ?_);exact .ZG (.agg (.cons (.nil Z) .nil)) (.t Z)
   ·have hne:tot=[]:=by
     cases tot with
     |nil=>rfl
     |cons a b=>simp at hc
    rw [w0e hne] at hU;rw [hU,hne];refine fR Z ?_;refine Run.fin Z (z3.go ?_);exact .ZG (.agg (.cons (.own Z) .nil)) (.nil Z)
  ·have hne:B≠[]:=by rintro rfl;simp at hc
   rw [w0g hne] at hT;subst hT;rw [w0g hne] at hU;rw [hU];refine fR Z ?_;refine lM Z Z Z ?_;refine fM Z ?_
   refine Run.zb Z Z (by
    cases T0 with
    |nil=>exact absurd rfl hne
    |cons a b=>simp) ?_
   refine fR Z ?_;refine Run.fin Z (z3.go ?_);exact .ZG (.agg (.cons (.nil Z) .nil)) (.own Z)
 ·intro i g r N h1 hi hdr hN0 ih;have hgm:=hG.g g (zMG h1);have hgn:=hN.nm g (zMG h1);refine fR Z ?_;refine Run.zb Z Z (by simp;omega) ?_;refine fR Z ?_;refine Mid.z6 Z Z Z h1 Z Z ?_;refine fM Z ?_;refine lM Z Z Z ?_;refine fM Z ?_;refine zn g.doc (fun k (M:List Str)=>{env:=[(0,.t (.lst (gs.map Gr.enc))),(2,.ptr 0 0),(4,.ptr 1 0),(5,.own 3 2 ((M.flatMap (tyB gs)).map z4.enc)),(6,.t (.int .i64 i)),(19,.t (.lst (gs.map Gr.enc))),(20,.t (.int .i64 gs.length)),(21,.t (.int .i64 i)),(28,.t (.lst (g.doc.map Def.enc))),(29,.t (.int .i64 g.doc.length)),(30,.t (.int .i64 k))],s:=⟨[(0,.cells [.zp]),(1,.cells [.own 2 7 ((M.map (tyD gs)).map Def.enc)]),(2,.arr (M.map (tyD gs)).length),(3,.arr (M.flatMap (tyB gs)).length)],4⟩}) (fun q k M=>M=ZP (yw [] (gs.take i)) (g.doc.take k)) 4 N Z (by rw [hN0];rfl) Z Z Z ?_ ?_
  ·intro M hM;refine fR Z ?_;refine Run.z9 Z Z (by simp) ?_;refine fR Z ?_;refine aL Z Z Z Z Z ?_;refine fM Z ?_;exact zd 4 Z (ih M (by rw [hM,List.take_length,take_succ h1,z6k])) Z Z Z
  ·intro k t q M h2 hk hdq hM ih2;have htm:=zMG h2;have htb:=hgm.2.2 t htm;have htn:=hgn t htm
   have hMl:M.length<=512:=by rw [hM];exact zcp hG h1
   have hMs:∀x,x∈M->x∈yt gs:=by rw [hM];exact z7n h1
   have hFl:=zcq hG hMl;have hfd:(ze t.name (M.map (tyD gs))).isSome=decide (t.name∈M):=z40 hMs
   have hMk:∀M',M'=z0m M t.name->M'=ZP (yw [] (gs.take i)) (g.doc.take (k+1)):=by
    intro M' e;rw [e,take_succ h2,z5Q,←hM]
   refine fR Z ?_;refine Run.zb Z Z (by simp;omega) ?_;refine fR Z ?_;refine Mid.z6 Z Z Z h2 Z Z ?_;refine fM Z ?_;refine Mid.call (z15 H.p13.toPr (M.map (tyD gs)) (by simp;omega) t.name) Z Z Z Z ?_;refine fM Z ?_;rw [hfd];refine Run.cond Z Z (fun hc=>?_) (fun hc=>?_)
   ·have hin:t.name∈M:=by simpa using hc
    refine fR Z ?_;refine aL Z Z Z Z Z ?_;refine fM Z ?_;exact zd 4 Z (ih2 M (hMk M (by unfold z0m;rw [w0e hin]))) Z Z Z
   ·have hout:t.name∉M:=by simpa using hc
    have hM2:=hMk (M++[t.name]) (by unfold z0m;rw [w0g hout]);have eO:=zb6 h1 h2 (by rw [←hM];exact hout);obtain ⟨z,hz⟩:=qe (nm:=t.name) (gs:=gs.drop (i+1)) (x:=wK t) (B:=[])
    have eD1:tyD gs t.name=z:=by unfold tyD;rw [eO,hz];rfl
    have eB1:tyB gs t.name=(Yd t.name (gs.drop (i+1)) (some (wK t)) []).2:=by unfold tyB;rw [eO]
    have e3:Yd t.name (gs.drop (i+1)) (some (wK t)) (M.flatMap (tyB gs))=(some z,(M++[t.name]).flatMap (tyB gs)):=by
     have:=z32 (nm:=t.name) (gs:=gs.drop (i+1)) (o:=some (wK t)) (B:=M.flatMap (tyB gs)) (C:=[]);rw [w1j] at this;rw [this,hz,←eB1];simp
    have hGl:((M++[t.name]).flatMap (tyB gs)).length<=12312000000:=by
     have:=(zcl hG t.name).2;simp only [List.flatMap_append,w03,List.flatMap_cons,List.flatMap_nil,w1j];omega
    have hDe:(M++[t.name]).map (tyD gs)=M.map (tyD gs)++[z]:=by simp [eD1]
    have hDl:(M.map (tyD gs)).length<=512:=by simpa using hMl
    have ih3:=ih2 (M++[t.name]) hM2;rw [hDe] at ih3;generalize (M++[t.name]).flatMap (tyB gs)=Bz at e3 hGl ih3;generalize M.flatMap (tyB gs)=B0 at e3 hFl;generalize M.map (tyD gs)=D0 at hDl ih3;have gb:=zbN H (by omega) t htb htn
    have hdrl:(gs.drop (i+1)).length<=8:=by simp;omega
    have hdrm:∀h,h∈gs.drop (i+1)->h∈gs:=fun h hh=>List.mem_of_mem_drop hh;generalize hR:gs.drop (i+1)=R at e3 hdrl hdrm;refine fR Z ?_;refine Mid.call (gb) Z Z Z Z ?_;refine fM Z ?_;refine aL Z Z Z Z Z ?_;refine zfh Z Z Z Z ?_;refine lM Z Z Z ?_;refine fM Z ?_;rw [hR];skip;refine zn R (fun j (s:Def×List z4)=>{env:=[(0,.t (.lst (gs.map Gr.enc))),(2,.ptr 0 0),(4,.ptr 1 0),(5,.own 3 2 (s.2.map z4.enc)),(6,.t (.int .i64 i)),(9,.ptr 4 0),(12,.ptr 6 0),(19,.t (.lst (gs.map Gr.enc))),(20,.t (.int .i64 gs.length)),(21,.t (.int .i64 i)),(28,.t (.lst (g.doc.map Def.enc))),(29,.t (.int .i64 g.doc.length)),(30,.t (.int .i64 k)),(47,.t (.lst (R.map Gr.enc))),(48,.t (.int .i64 R.length)),(49,.t (.int .i64 j))],s:=⟨[(0,.cells [.zp]),(1,.cells [.own 2 7 (D0.map Def.enc)]),(2,.arr D0.length),(3,.arr s.2.length),(4,(TCo t)),(6,(TCo s.1))],7⟩}) (fun p j s=>Yd t.name p (some s.1) s.2=(some z,Bz)/\DB (100*(j+1)) s.1/\NM s.1) 7 (wK t,B0) Z ⟨e3,(z5p htb).mono (by omega),htn.bare⟩ Z Z Z ?_ ?_
    ·rintro ⟨x,C⟩ ⟨hx,_,_⟩;have hx:(some x,C)=(some z,Bz):=hx;obtain ⟨hx1,hx2⟩:=Prod.mk.inj hx;obtain rfl:z=x:=(Option.some.inj hx1).symm;obtain rfl:Bz=C:=hx2.symm;dsimp only;refine fR Z ?_;refine Run.z9 Z Z (by simp) ?_;refine fR Z ?_;refine apM Def.enc D0 [z] Z Z Z Z Z ?_ (h1:=by first |omega|(simp;omega)|(simp;done)) (h2:=by first |omega|(simp;omega)|(simp;done));refine fM rfl ?_;refine aL rfl rfl rfl rfl rfl ?_;refine fM rfl ?_;exact zd 4 rfl (ih3) rfl rfl rfl
    ·rintro j h p ⟨x,C⟩ h3 hj hdp ⟨hx,hxb,hxn⟩ ih4;dsimp only at hx hxb hxn⊢;have hhm:=hdrm h (zMG h3);have hhg:=hG.g h hhm
     have hCl:C.length<=12312000000:=by
      have:=z9r (nm:=t.name) (gs:=h::p) (o:=some x) (B:=C);rw [hx] at this;have this:C.length<=Bz.length:=this;omega
     have hx:Yd t.name p (Q0 t.name h (some x) C).1 (Q0 t.name h (some x) C).2=(some z,Bz):=hx;refine fR Z ?_;refine Run.zb Z Z (by simp;omega) ?_;refine fR Z ?_;refine Mid.z6 Z Z Z h3 Z Z ?_;refine fM Z ?_;refine Mid.call (z15 H.p13.toPr h.doc hhg.1.l t.name) Z Z Z Z ?_;refine fM Z ?_
     cases hf:ze t.name h.doc with
     |none=>
      rw [wP hf] at hx;refine Run.z9 Z Z Z ?_;refine fR Z ?_;refine aL Z Z Z Z Z ?_;refine fM Z ?_;exact zd 7 Z (ih4 (x,C) ⟨hx,hxb.mono (by omega),hxn⟩) Z Z Z
     |some y=>
      have hyb:=hhg.2.2 y (q8 hf);have hyn:=hN.nm h hhm y (q8 hf);have hyb2:DB (100*(j+1)) y:=hyb.mono (by omega);have gd:=z59 H (by omega) x y hxb hyb2 hxn hyn;have hl:=w9 hxb hyb2;by_cases hb:zL x y=[]
      ·rw [qp hf hb] at hx
       rw [show Y2 x y=yJ x y by unfold Y2;rw [w0e hb],hb] at gd
       have hm:=(QJ (by omega) hxb hyb).mono (show 100*(j+1)+100<=100*(j+1+1) by omega);refine Run.zb rfl rfl rfl ?_;refine fR rfl ?_;refine Mid.call (gd) rfl rfl rfl rfl ?_;refine fM rfl ?_;refine apM z4.enc C ([]:List z4) rfl rfl rfl rfl rfl ?_ (h1:=by first |omega|(simp;omega)|(simp;done)) (h2:=by first |omega|(simp;omega)|(simp;done));refine fM rfl ?_;refine lM rfl rfl rfl ?_;refine fM rfl ?_;refine Run.zb rfl rfl rfl ?_;refine fR rfl ?_;refine aL rfl rfl rfl rfl rfl ?_;refine fM rfl ?_;exact zd 7 rfl (ih4 (yJ x y,C) ⟨hx,hm,hxn.merged hyn⟩) rfl rfl rfl
      ·rw [W6 hf hb] at hx;refine Run.zb Z Z Z ?_;refine fR Z ?_;refine Mid.call (gd) Z Z Z Z ?_;refine fM Z ?_;refine apM z4.enc C (zL x y) Z Z Z Z Z ?_ (h1:=by first |omega|(simp;omega)|(simp;done)) (h2:=by first |omega|(simp;omega)|(simp;done));refine fM rfl ?_;refine lM rfl rfl rfl ?_;refine fM rfl ?_
       refine Run.z9 Z Z (by
        cases hq:zL x y with
        |nil=>exact absurd hq hb
        |cons a b=>simp;omega) ?_
       refine fR Z ?_;refine aL Z Z Z Z Z ?_;refine fM Z ?_;exact zd 7 Z (ih4 (x,C++zL x y) ⟨hx,hxb.mono (by omega),hxn⟩) Z Z Z
end Go.GB.C24
namespace Go.GB.C11
open Go.GB
def wFd:List Field->Nat
 |[]=>0
 |f::r=>f.args.length+f.zg.length+wFd r
def wD (d:Def):Nat:=1+d.fields.length+d.members.length+d.zi.length+d.zg.length+d.implements.length+wFd d.fields
def wDs:List Def->Nat
 |[]=>0
 |d::r=>wD d+wDs r
theorem zdu (x:Int) (h1:0<=x) (h2:x<=9000000000000):IntKind.i64.wrap x=x:=wrap64 (by omega) (by omega)
theorem z5L:∀(l:List Field) (n:Nat),n+wFd l<=1000000000->l.foldl z3c (n:Int)=((n+wFd l:Nat):Int)
 |[],n,_=>by simp [wFd]
 |f::r,n,h=>by
  simp only [wFd] at h
  have e:z3c (n:Int) f=((n+(f.args.length+f.zg.length):Nat):Int):=by
   unfold z3c;simp (disch:=omega) only [zdu];omega
  rw [List.foldl_cons,e,z5L r _ (by omega)];simp only [wFd];congr 1;omega
theorem zbJ (d:Def) (n:Nat) (h:n+wD d<=1000000000):qn (n:Int) d=((n+wD d:Nat):Int):=by
 simp only [wD] at h;unfold qn;simp (disch:=omega) only [zdu]
 rw [show ((n:Int)+(1+(d.fields.length:Nat)+(d.members.length:Nat)+(d.zi.length:Nat)+(d.zg.length:Nat)+(d.implements.length:Nat)))=((n+(1+d.fields.length+d.members.length+d.zi.length+d.zg.length+d.implements.length):Nat):Int) by omega]
 rw [z5L _ _ (by omega)];simp only [wD];congr 1;omega
theorem z8U:∀(l:List Def) (n:Nat),n+wDs l<=1000000000->l.foldl qn (n:Int)=((n+wDs l:Nat):Int)
 |[],n,_=>by simp [wDs]
 |d::r,n,h=>by
  simp only [wDs] at h;rw [List.foldl_cons,zbJ d n (by omega),z8U r _ (by omega)];simp only [wDs];congr 1;omega
structure Small (ds:List Def):Prop where
 l:ds.length<=70
 w:wDs ds<=1000
theorem z8A:∀{ds:List Def} {d:Def},d∈ds->wD d<=wDs ds
 |[],d,h=>by cases h
 |x::r,d,h=>by
  simp only [wDs]
  rcases w0t.1 h with rfl|h
  ·omega
  ·have:=z8A h;omega
theorem zbR:∀{l:List Field} {f:Field},f∈l->f.args.length<=wFd l
 |[],d,h=>by cases h
 |x::r,d,h=>by
  simp only [wFd]
  rcases w0t.1 h with rfl|h
  ·omega
  ·have:=zbR h;omega
theorem Small.d {ds:List Def} (h:Small ds) {d:Def} (hd:d∈ds):wD d<=1000:=w0o (z8A hd) h.w
theorem z54 (ds:List Def) (a b:Str):∀(l p:List Input),(inF ds a b p l).length<=3*l.length
 |[],p=>by simp [inF]
 |x::r,p=>by
  have h1:=z54 ds a b r (p++[x]);have h2:=Wk x.name false (zw x.name p).isSome (a++x.name++b);simp only [inF,zc2,w03,w0d];split
  ·simp only [w0d,w16];omega
  ·split
   ·simp only [w0d,w16];omega
   ·simp only [w16];omega
theorem z6R (ds:List Def) (n:Str):∀(l p:List Field),(z0x ds n p l).length<=3*(l.length+wFd l)
 |[],p=>by simp [z0x]
 |x::r,p=>by
  have h1:=z6R ds n r (p++[x]);have h2:=Wk x.name false (zu x.name p).isSome (n++[46]++x.name);have h3:=z54 ds (n++[46]++x.name++[40]) [41] x.args [];simp only [z0x,z7g,w03,w0d,wFd];split
  ·simp only [w0d,w16];omega
  ·split
   ·simp only [w0d,w16];omega
   ·simp only [w16];omega
theorem z72 (n:Str):∀(l p:List zh),(z2b n p l).length<=2*l.length
 |[],p=>by simp [z2b]
 |x::r,p=>by
  have h1:=z72 n r (p++[x]);have h2:=Wk x.name (z5m x.name) (Wl p x.name) (n++[46]++x.name);simp only [z2b,w03,w0d];omega
theorem z84 (ds:List Def) (i:Nat) (d:Def):(YX ds i d).length<=5:=by
 have:=Wk d.name false (z1u ds i d.name) d.name;unfold YX;simp only [w03]
 split<;>split<;>split<;>simp<;>omega
theorem z6u (ds:List Def):∀(l:List Def) (i:Nat),(z58 ds i l).length<=5*l.length+3*wDs l
 |[],i=>by simp [z58]
 |d::r,i=>by
  have h1:=z6u ds r (i+1);have h2:=z84 ds i d
  have h3:(zcG ds d).length<=3*wD d:=by
   have a1:=z6R ds d.name d.fields [];have a2:=z72 d.name d.members [];have a3:=z54 ds (d.name++[46]) [] d.zi [];unfold zcG wD;split
   ·omega
   ·split
    ·omega
    ·split
     ·omega
     ·split
      ·omega
      ·simp
  simp only [z58,w03,w0d,wDs];omega
theorem z9o {ds:List Def} (h:Small ds) (q:Bool):(wI ds q).length<=4398046511104:=by
 have h1:=z6u ds ds 0;have h2:=h.l;have h3:=h.w;unfold wI z6G;rw [w03]
 split<;>simp<;>omega
theorem z4t (y:Field) (a:Str):∀l:List Input,(Qb y a l).length<=l.length
 |[]=>by simp [Qb]
 |x::r=>by
  have:=z4t y a r
  simp only [Qb];split<;>simp<;>omega
theorem z49 (y:Field) (a:Str):∀l:List Input,(qW y a l).length<=l.length
 |[]=>by simp [qW]
 |x::r=>by
  have:=z49 y a r
  simp only [qW];split<;>simp<;>omega
theorem z3W (ds:List Def) (t:Def) (ht:∀y,y∈t.fields->y.args.length<=1000):∀l:List Field,(∀x,x∈l->x.args.length<=1000)->(qT ds t l).length<=2001*l.length
 |[],_=>by simp [qT]
 |x::r,h=>by
  have h1:=z3W ds t ht r (fun y hy=>h y (w0k _ hy));have h2:=h x (by simp)
  have h3:(z6X ds t x).length<=2001:=by
   unfold z6X
   cases hf:zu x.name t.fields with
   |none=>simp
   |some y=>
    have a1:=z4t y (atF t x) x.args;have a2:=z49 x (atF t x) y.args;have a3:=ht y (WI hf);simp only [w03]
    split<;>simp<;>omega
  simp only [qT,w03,w0d];omega
theorem z4x {d:Def} (h:wD d<=1000):d.fields.length<=1000/\∀y,y∈d.fields->y.args.length<=1000:=by
 unfold wD at h
 exact ⟨by omega,fun y hy=>by have:=zbR hy;omega⟩
theorem z82 {ds:List Def} (h:Small ds) (n:Str):wD ((ze n ds).getD Def.zero)<=1000:=by
 cases hf:ze n ds with
 |none=>simp [wD,Def.zero,wFd]
 |some o=>exact h.d (wu hf)
theorem z5N {ds:List Def} (h:Small ds) {t:Def} (ht:t∈ds):∀(l p:List Str),(z5B ds t p l).length<=2001001*l.length
 |[],p=>by simp [z5B]
 |n::r,p=>by
  have h1:=z5N h ht r (p++[n]);have h2:=z4x (z82 h n);have h3:=z3W ds t (z4x (h.d ht)).2 ((ze n ds).getD Def.zero).fields h2.2;simp only [z5B,w03,w0d];split
  ·omega
  ·simp only [w0d,w16];omega
theorem z8w (ds:List Def) (t:Def):∀(l p:List zh),(unL ds t p l).length<=l.length
 |[],p=>by simp [unL]
 |m::r,p=>by
  have h1:=z8w ds t r (p++[m]);simp only [unL,w03,w0d]
  split<;>simp<;>omega
theorem z2J {ds:List Def} (h:Small ds):∀l:List Def,(∀d,d∈l->d∈ds)->(WA ds l).length<=2001001000*l.length
 |[],_=>by simp [WA]
 |t::r,hl=>by
  have h1:=z2J h r (fun d hd=>hl d (w0k _ hd));have ht:=hl t (by simp);have h2:=z5N h ht t.implements [];have h3:=z8w ds t t.members [];have h4:=h.d ht;unfold wD at h4;simp only [WA,w03,w0d,za5];split
  ·omega
  ·split
   ·omega
   ·simp only [w16];omega
theorem z9B {ds:List Def} (h:Small ds):(Zq ds).length<=4398046511104:=by
 have h1:=z2J h ds (fun _ hd=>hd);have h2:=h.l;unfold Zq;omega
end Go.GB.C11
