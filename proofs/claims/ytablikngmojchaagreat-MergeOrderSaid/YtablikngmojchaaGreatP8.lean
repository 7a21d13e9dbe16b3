/-
  YtablikngmojchaaGreatP8: lemmas. No conditions.
-/
import Derived.Test.YtablikngmojchaaGreatP7
import Derived.Test.YtablikngmojchaaGreatP5
import Derived.Handed
set_option linter.all false
set_option maxRecDepth 100000
set_option maxHeartbeats 16000000
namespace Go.GB.C24
open Go.GB Go.GB.C11
theorem QX {α:Type} {a b:List α} (ha:a.Nodup) (hb:b.Nodup) (h:∀x,x∈a↔x∈b):a.length=b.length:=by
 have h1:=ha.length_le_of_subset (l₂:=b) fun x hx=>(h x).1 hx;have h2:=hb.length_le_of_subset (l₂:=a) fun x hx=>(h x).2 hx;omega
theorem z7y {n:Str} {l:List Field}:n∈l.map (·.name)↔(z5 n l).isSome=true:=by
 constructor
 ·intro h
  cases e:z5 n l with
  |none=>exact absurd h (qK.1 e)
  |some x=>rfl
 ·intro h;by_cases m:n∈l.map (·.name)
  ·exact m
  ·rw [qK.2 m] at h;cases h
theorem z8d {n:Str} {l:List zh}:n∈l.map (·.name)↔(zo n l).isSome=true:=by
 constructor
 ·intro h
  cases e:zo n l with
  |none=>exact absurd h (z0K.1 e)
  |some x=>rfl
 ·intro h;by_cases m:n∈l.map (·.name)
  ·exact m
  ·rw [z0K.2 m] at h;cases h
theorem z8j {n:Str} {l:List Input}:n∈l.map (·.name)↔(zn n l).isSome=true:=by
 constructor
 ·intro h
  cases e:zn n l with
  |none=>exact absurd h (Q9.1 e)
  |some x=>rfl
 ·intro h;by_cases m:n∈l.map (·.name)
  ·exact m
  ·rw [Q9.2 m] at h;cases h
section
variable {L M:List Def} {x y:Def} (h:yG L x) (k:yG M y) (hm:∀d,d∈L↔d∈M)
include h k hm
theorem yG.zec:x.kind=y.kind:=by
 obtain ⟨d,hd⟩:=List.exists_mem_of_ne_nil L h.ne;rw [←h.kd d hd,k.kd d ((hm d).1 hd)]
theorem yG.zgX (s:Str):s∈x.implements↔s∈y.implements:=by
 rw [h.im,k.im];exact ⟨fun ⟨d,a,b⟩=>⟨d,(hm d).1 a,b⟩,fun ⟨d,a,b⟩=>⟨d,(hm d).2 a,b⟩⟩
theorem yG.zhz:x.implements.length=y.implements.length:=QX h.ip k.ip (h.zgX k hm)
theorem yG.zhx:x.zg.length=y.zg.length:=h.dd.length k.dd fun m=>by
 simp only [w0m];exact ⟨fun ⟨d,a,b⟩=>⟨d,(hm d).1 a,b⟩,fun ⟨d,a,b⟩=>⟨d,(hm d).2 a,b⟩⟩
theorem yG.zgH (nm:Str) (f:Field):f∈z1V nm L↔f∈z1V nm M:=by
 rw [qA,qA];exact ⟨fun ⟨d,a,b⟩=>⟨d,(hm d).1 a,b⟩,fun ⟨d,a,b⟩=>⟨d,(hm d).2 a,b⟩⟩
theorem yG.zh4 (nm:Str) (f:zh):f∈z67 nm L↔f∈z67 nm M:=by
 rw [z1B,z1B];exact ⟨fun ⟨d,a,b⟩=>⟨d,(hm d).1 a,b⟩,fun ⟨d,a,b⟩=>⟨d,(hm d).2 a,b⟩⟩
theorem yG.zf6 {nm:Str} {f:Field} (hf:z5 nm x.fields=some f):∃g,z5 nm y.fields=some g/\g.ty=f.ty/\f.zg.length=g.zg.length:=by
 have ho:=h.fo nm f hf;obtain ⟨a,ha⟩:=List.exists_mem_of_ne_nil _ ho.ne
 cases hg:z5 nm y.fields with
 |none=>
  have:=(h.zgH k hm nm a).1 ha;rw [k.f0 nm hg] at this;cases this
 |some g=>
  obtain ⟨e1,e2⟩:=ho.same (k.fo nm g hg) (h.zgH k hm nm);exact ⟨g,rfl,e1.symm,e2⟩
theorem yG.zfI (nm:Str):(zo nm x.members).isSome=(zo nm y.members).isSome:=by
 obtain ⟨d,hd⟩:=List.exists_mem_of_ne_nil L h.ne;rw [h.mi nm d hd,k.mi nm d ((hm d).1 hd)]
theorem yG.zhq {nm:Str} {f:zh} (hf:zo nm x.members=some f):∃g,zo nm y.members=some g/\f.zg.length=g.zg.length:=by
 have e:=h.zfI k hm nm;rw [hf] at e
 cases hg:zo nm y.members with
 |none=>rw [hg] at e;cases e
 |some g=>
  refine ⟨g,rfl,(h.mo nm f hf).length (k.mo nm g hg) fun m=>?_⟩;simp only [w0m];exact ⟨fun ⟨d,a,b⟩=>⟨d,(h.zh4 k hm nm d).1 a,b⟩,fun ⟨d,a,b⟩=>⟨d,(h.zh4 k hm nm d).2 a,b⟩⟩
theorem yG.zh6:Yg x.zi y.zi:=by
 obtain ⟨d,hd⟩:=List.exists_mem_of_ne_nil L h.ne;exact (h.ia d hd).trans (k.ia d ((hm d).1 hd)).symm
theorem yG.zhv:x.members.length=y.members.length:=by
 have:=QX h.mn k.mn fun n=>by rw [z8d,z8d,h.zfI k hm]
 simpa using this
theorem yG.zhs:x.zi.length=y.zi.length:=by
 have:=QX h.ii k.ii fun n=>by
  rw [z8j,z8j];have:=congrArg Option.isSome (h.zh6 k hm n);simp only [Option.isSome_map] at this;rw [this]
 simpa using this
end
theorem yG.zgV {L M:List Def} {x y:Def} (h:yG L x) (k:yG M y) (hm:∀d,d∈L↔d∈M):x.fields.length=y.fields.length:=by
 have:=QX h.fn k.fn fun n=>by
  rw [z7y,z7y];constructor
  ·intro a;obtain ⟨f,hf⟩:=Option.isSome_iff_exists.1 a;obtain ⟨g,hg,_⟩:=h.zf6 k hm hf;rw [hg];rfl
  ·intro a;obtain ⟨f,hf⟩:=Option.isSome_iff_exists.1 a;obtain ⟨g,hg,_⟩:=k.zf6 h (fun d=>(hm d).symm) hf;rw [hg];rfl
 simpa using this
theorem yG.zgk {L M:List Def} {x y:Def} (h:yG L x) (k:yG M y) (hm:∀d,d∈L↔d∈M) (hl:wg x=false):wg y=false:=by
 have e1:=h.zhz k hm;have e2:=h.zgV k hm;have e3:=h.zhx k hm;have hm':=fun d=>(hm d).symm;unfold wg at hl⊢;simp only [w1k,w1u,List.any_eq_false,w0j] at hl⊢;obtain ⟨⟨⟨h1,h2⟩,h3⟩,h4,h5⟩:=hl
 refine ⟨⟨⟨by omega,by omega⟩,by omega⟩,fun f hf=>?_,fun f hf=>?_⟩
 ·obtain ⟨g,hg,_,e⟩:=k.zf6 h hm' (ZB k.fn hf);have:=h4 g (Z0 hg);omega
 ·obtain ⟨g,hg,e⟩:=k.zhq h hm' (yx k.mn hf);have:=h5 g (ZS hg);omega
structure WD (t u:Def):Prop where
 k:t.kind=u.kind
 fl:t.fields.length=u.fields.length
 ml:t.members.length=u.members.length
 nl:t.zi.length=u.zi.length
 f:∀x,x∈t.fields->∃y,z5 x.name u.fields=some y/\y.ty=x.ty
 n:∀x,x∈t.zi->∃y,zn x.name u.zi=some y/\y.ty=x.ty
 m:∀x,x∈t.members->YE u.members x.name=true
structure WI (a b:List Def):Prop where
 l:a.length=b.length
 t:∀t,t∈a->∃u,z7 t.name b=some u/\WD t u
theorem yG.within {L M:List Def} {x y:Def} (h:yG L x) (k:yG M y) (hm:∀d,d∈L↔d∈M):WD x y:=by
 refine ⟨h.zec k hm,h.zgV k hm,h.zhv k hm,h.zhs k hm,fun f hf=>?_,fun f hf=>?_,fun f hf=>?_⟩
 ·obtain ⟨g,hg,e,_⟩:=h.zf6 k hm (ZB h.fn hf);exact ⟨g,hg,e⟩
 ·have:=h.zh6 k hm f.name;rw [Y0 h.ii hf] at this
  cases hg:zn f.name y.zi with
  |none=>rw [hg] at this;cases this
  |some g=>
   rw [hg] at this;simp only [Option.map_some,w00,cnL,w05] at this;exact ⟨g,rfl,this.1.symm⟩
 ·have:=h.zfI k hm f.name;rw [yx h.mn hf] at this;obtain ⟨g,hg⟩:=Option.isSome_iff_exists.1 this.symm;unfold YE
  exact w1v.2 ⟨g,ZS hg,by simp [wv hg]⟩
section
variable {gs hs:List Gr} (h:MG gs) (k:WE hs) (hm:∀g,g∈gs↔g∈hs)
theorem z22 (hm:∀g,g∈gs↔g∈hs) (nm:Str) (d:Def):d∈Z8 nm gs↔d∈Z8 nm hs:=by
 rw [Wp,Wp];exact ⟨fun ⟨d,a,b⟩=>⟨d,(hm d).1 a,b⟩,fun ⟨d,a,b⟩=>⟨d,(hm d).2 a,b⟩⟩
theorem yU (hm:∀g,g∈gs↔g∈hs) (nm:Str):nm∈Zo gs↔nm∈Zo hs:=by
 rw [z0H,z0H];exact ⟨fun ⟨d,a,b⟩=>⟨d,(hm d).1 a,b⟩,fun ⟨d,a,b⟩=>⟨d,(hm d).2 a,b⟩⟩
include h k hm
theorem MG.other:MG hs:=by
 refine ⟨k,?_⟩;unfold z1J;rw [w2e];intro nm hn;have hn':=(yU hm nm).2 hn
 have hb:tyB gs nm=[]:=by
  have:=h.b1;unfold z1J at this;exact w2e.1 this nm hn'
 have h1:=(z6P h.few (qM.1 hn')).1.1 hb;exact (z6P k (qM.1 hn)).1.2 fun d hd e he=>h1 d ((z22 hm nm d).2 hd) e ((z22 hm nm e).2 he)
theorem MG.both {nm:Str} (hn:nm∈Zo gs):∃L M,yG L (tyD gs nm)/\yG M (tyD hs nm)/\(∀d,d∈L↔d∈M)/\(tyD gs nm).name=nm/\(tyD hs nm).name=nm:=by
 have k':=h.other k hm;obtain ⟨L,h1,h2,h3⟩:=h.ty hn;obtain ⟨M,k1,k2,k3⟩:=k'.ty ((yU hm nm).1 hn)
 exact ⟨L,M,h1,k1,fun d=>by rw [h3,k3,z22 hm],h2,k2⟩
theorem MG.len:(yv gs).length=(yv hs).length:=by
 unfold yv;simp only [w0r];exact QX (z20 gs) (z20 hs) (yU hm)
theorem MG.within:WI (yv gs) (yv hs):=by
 refine ⟨h.len k hm,fun t ht=>?_⟩;unfold yv at ht;obtain ⟨nm,hn,rfl⟩:=w0m.1 ht;obtain ⟨L,M,h1,k1,hd,e1,e2⟩:=h.both k hm hn;refine ⟨tyD hs nm,?_,h1.within k1 hd⟩;rw [e1,(h.other k hm).find,w0e ((yU hm nm).1 hn)]
end
theorem z7r {t:Def} {nm s:Str}:∀(r pre:List Def),((pre++r).map (·.name)).Nodup->(s∈Yk t nm pre r↔∃o,o∈r/\o.kind=1/\isP t nm o=true/\o.name=s)
 |[],pre,_=>by simp [Yk]
 |o::r,pre,hn=>by
  have hf:Zh pre o.name=true:=by
   unfold Zh;rw [w21,List.any_eq_false];intro x hx he;simp only [w24,w0n,List.nodup_append] at hn;exact hn.2.2 x.name (List.mem_map_of_mem hx) o.name (by simp) (by simpa using he)
  have ih:=z7r (t:=t) (nm:=nm) (s:=s) r (pre++[o]) (by simpa using hn);simp only [Yk];by_cases hc:o.kind=1/\isP t nm o=true
  ·rw [w0e (by rw [hf];simp [hc.1,hc.2])];simp only [w0t,ih];constructor
   ·rintro (rfl|⟨a,h1,h2⟩)
    ·exact ⟨o,.inl Z,hc.1,hc.2,rfl⟩
    ·exact ⟨a,.inr h1,h2⟩
   ·rintro ⟨a,rfl|h1,h2,h3,h4⟩
    ·exact .inl h4.symm
    ·exact .inr ⟨a,h1,h2,h3,h4⟩
  ·rw [w0g (by rw [hf];simpa using fun a=>by simpa [a] using hc)]
   simp only [w0t,ih];constructor
   ·rintro ⟨a,h1,h2⟩;exact ⟨a,.inr h1,h2⟩
   ·rintro ⟨a,rfl|h1,h2,h3,h4⟩
    ·exact absurd ⟨h2,h3⟩ hc
    ·exact ⟨a,h1,h2,h3,h4⟩
theorem zbj {gs:List Gr} (h:MG gs):((yv gs).map (·.name)).Nodup:=by
 have e:(yv gs).map (·.name)=(Zo gs).map id:=by
  unfold yv;rw [List.map_map];refine w2d fun nm hn=>?_;obtain ⟨_,_,e,_⟩:=h.ty hn;exact e
 rw [e,List.map_id];exact z20 gs
theorem za8 {gs:List Gr} (h:MG gs) {nm s:Str} (hn:nm∈Zo gs) (hk:(tyD gs nm).kind=2):s∈Y7 (yv gs) nm↔s∈Zo gs/\(tyD gs s).kind=1/\nm∈(tyD gs s).implements:=by
 unfold Y7;rw [h.find,w0e hn];simp only;rw [z7r _ _ (by simpa using zbj h)]
 have hi:∀o:Def,isP (tyD gs nm) nm o=true↔nm∈o.implements:=fun o=>by
  unfold isP;rw [hk];simp
 constructor
 ·rintro ⟨o,h1,h2,h3,rfl⟩;unfold yv at h1;obtain ⟨a,ha,rfl⟩:=w0m.1 h1;obtain ⟨_,_,e,_⟩:=h.ty ha;rw [e];exact ⟨ha,h2,(hi _).1 h3⟩
 ·rintro ⟨h1,h2,h3⟩;obtain ⟨_,_,e,_⟩:=h.ty h1
  exact ⟨tyD gs s,by unfold yv;exact List.mem_map_of_mem h1,h2,(hi _).2 h3,e⟩
theorem zd3 {a b:List Str} (ha:a.Nodup) (hb:b.Nodup) (h:∀x,x∈a↔x∈b) (nm:Str) (g:Gr):wJ a nm g=wJ b nm g:=by
 have e:=QX ha hb h;unfold wJ
 cases z7 nm g.doc with
 |none=>rfl
 |some t=>simp only [e,h]
theorem MG.z0i {gs hs:List Gr} (h:MG gs) (k:WE hs) (hm:∀g,g∈gs↔g∈hs) (hb:z0i gs (yv gs)=[]):z0i hs (yv hs)=[]:=by
 have k':=h.other k hm;unfold C24.z0i at hb⊢;simp only [w0l,yW,wM] at hb⊢;obtain ⟨h1,h2,h3⟩:=hb;refine ⟨fun d hd=>?_,?_,fun d hd=>?_⟩
 ·unfold yv at hd;obtain ⟨nm,hn',rfl⟩:=w0m.1 hd;have hn:=(yU hm nm).2 hn';obtain ⟨L,M,d1,d2,hd,e1,e2⟩:=h.both k hm hn;have hf:=h1 (tyD gs nm) (by unfold yv;exact List.mem_map_of_mem hn);unfold z2Z at hf⊢;rw [e1] at hf;rw [e2,←d1.zec d2 hd];by_cases hk:(tyD gs nm).kind=2
  ·have hk2:(tyD hs nm).kind=2:=by rw [←d1.zec d2 hd];exact hk
   rw [hk] at hf⊢;simp only [beq_self_eq_true,w1b,Bool.not_eq_false'] at hf⊢
   have hs_:∀s,s∈Y7 (yv gs) nm↔s∈Y7 (yv hs) nm:=fun s=>by
    rw [za8 h hn hk,za8 k' hn' hk2]
    have hone:∀s,s∈Zo gs->((tyD gs s).kind=(tyD hs s).kind/\(nm∈(tyD gs s).implements↔nm∈(tyD hs s).implements)):=fun s hs=>by
     obtain ⟨L,M,d1,d2,hd,_,_⟩:=h.both k hm hs;exact ⟨d1.zec d2 hd,d1.zgX d2 hd nm⟩
    constructor
    ·rintro ⟨a,b,c⟩;obtain ⟨p,q⟩:=hone s a;exact ⟨(yU hm s).1 a,p▸b,q.1 c⟩
    ·rintro ⟨a,b,c⟩;have a:=(yU hm s).2 a;obtain ⟨p,q⟩:=hone s a;exact ⟨a,p▸b,q.2 c⟩
   unfold z6Y at hf⊢;rw [w0i] at hf⊢;intro g hg;rw [←zd3 (qN _ _) (qN _ _) hs_];exact hf g ((hm g).2 hg)
  ·simp [hk]
 ·rw [←h.len k hm];exact h2
 ·unfold yv at hd;obtain ⟨nm,hn',rfl⟩:=w0m.1 hd;have hn:=(yU hm nm).2 hn';obtain ⟨L,M,d1,d2,hd,e1,e2⟩:=h.both k hm hn;exact d1.zgk d2 hd (h3 (tyD gs nm) (by unfold yv;exact List.mem_map_of_mem hn))
theorem QQ {gs hs:List Gr} (h:WE gs) (k:WE hs) (hm:∀g,g∈gs↔g∈hs) (hb:Yt gs=[]):Yt hs=[]/\WI (wm gs) (wm hs):=by
 obtain ⟨hM,hb2,e⟩:=MG.of h hb;have k':=hM.other k hm;have hb3:=hM.z0i k hm hb2
 have hb4:Yt hs=[]:=by unfold Yt;rw [w0e k'.b1,hb3]
 refine ⟨hb4,?_⟩;rw [e,(MG.of k hb4).2.2];exact hM.within k hm
theorem zaZ {gs hs:List Gr} (h:WE gs) (k:WE hs) (hm:∀g,g∈gs↔g∈hs):(Yt gs=[]↔Yt hs=[])/\WI (wm gs) (wm hs)/\WI (wm hs) (wm gs):=by
 have hm':=fun g=>(hm g).symm;have e:Yt gs=[]↔Yt hs=[]:=⟨fun a=>(QQ h k hm a).1,fun a=>(QQ k h hm' a).1⟩;refine ⟨e,?_⟩;by_cases hb:Yt gs=[]
 ·exact ⟨(QQ h k hm hb).2,(QQ k h hm' (e.1 hb)).2⟩
 ·have e1:wm gs=[]:=by unfold wm;rw [w0g hb]
  have e2:wm hs=[]:=by unfold wm;rw [w0g fun a=>hb (e.2 a)]
  rw [e1,e2]
  exact ⟨⟨rfl,by simp⟩,⟨rfl,by simp⟩⟩
end Go.GB.C24
namespace Go.GB.C24
open Go.GB Go.GB.C11
variable {P:Program}
theorem z5p (H:zX P) (a b:List Def) (ha:zV a) (hb:zV b) (hw:WI a b):z6 P 21 [Y8 a,Y8 b] ⟨[],0⟩ {v:= .t (.bool true)}:=by
 have hal:=ha.l;have hbl:=hb.l;have hwl:=hw.l;have hs:=fun x (hx:x.Ok)=>z5w H x hx;refine z6.run H.i21 H.mixed Z Z ?_;refine fR Z ?_;refine zu a (fun i (_:Unit)=>{env:=[(2,.ptr 0 0),(3,.ptr 1 0),(5,.t (.int .i64 i))],s:=⟨[(0,.cells [.t (.lst (a.map Def.enc))]),(1,.cells [.t (.lst (b.map Def.enc))])],2⟩}) (fun r i _=>True) 2 () Z trivial Z Z Z ?_ ?_
 ·intro _ _;refine fR Z ?_;refine lM Z Z Z ?_;refine fM Z ?_;refine Run.ze Z Z (by simp) ?_;refine fR Z ?_;refine lM Z Z Z ?_;refine fM Z ?_;refine lM Z Z Z ?_;refine fM Z ?_;refine Run.fin Z (z3.go ?_);exact .t (by simp [hwl])
 ·intro i t r _ h1 hi hdi _ ih;have htm:=zMG h1;have hto:=ha.d t htm;have htl:=hto.fl;have htl2:=hto.ml;have htl3:=hto.nl;obtain ⟨u,hu,wd⟩:=hw.t t htm;have huo:=hb.d u (YC hu);have hul2:=huo.ml;have hcall:=yl H.p13.toPr b hbl t.name;rw [hu] at hcall;refine fR Z ?_;refine lM Z Z Z ?_;refine fM Z ?_;refine Run.zf Z Z (by simp;omega) ?_;refine fR Z ?_;refine Mid.zb Z Z Z h1 Z Z ?_;refine fM Z ?_;refine Mid.call (hcall) Z Z Z Z ?_;refine fM Z ?_;refine lMG Z Z Z Z ?_;refine fM Z ?_;refine lMG Z Z Z Z ?_;refine fM Z ?_;refine lMG Z Z Z Z ?_;refine fM Z ?_;refine lMG Z Z Z Z ?_;refine fM Z ?_;refine lMG Z Z Z Z ?_;refine fM Z ?_;refine lMG Z Z Z Z ?_;refine fM Z ?_;refine Run.ze Z Z (by simp [wd.k,wd.fl,wd.ml,wd.nl]) ?_;refine fR Z ?_;refine zu t.fields (fun k (_:Unit)=>{env:=[(2,.ptr 0 0),(3,.ptr 1 0),(5,.t (.int .i64 i)),(6,.ptr 2 0),(7,.ptr 3 0),(9,.t (.int .i64 k))],s:=⟨[(0,.cells [.t (.lst (a.map Def.enc))]),(1,.cells [.t (.lst (b.map Def.enc))]),(2,(TCo t)),(3,(TCo u))],4⟩}) (fun r i _=>True) 4 () Z trivial Z Z Z ?_ ?_
  ·intro _ _;refine fR Z ?_;refine lM Z Z Z ?_;refine fM Z ?_;refine Run.ze Z Z (by simp) ?_;refine fR Z ?_;refine zu t.zi (fun k (_:Unit)=>{env:=[(2,.ptr 0 0),(3,.ptr 1 0),(5,.t (.int .i64 i)),(6,.ptr 2 0),(7,.ptr 3 0),(12,.t (.int .i64 k))],s:=⟨[(0,.cells [.t (.lst (a.map Def.enc))]),(1,.cells [.t (.lst (b.map Def.enc))]),(2,(TCo t)),(3,(TCo u))],4⟩}) (fun r i _=>True) 4 () Z trivial Z Z Z ?_ ?_
   ·intro _ _;refine fR Z ?_;refine lM Z Z Z ?_;refine fM Z ?_;refine Run.ze Z Z (by simp) ?_;refine fR Z ?_;refine zu t.members (fun k (_:Unit)=>{env:=[(2,.ptr 0 0),(3,.ptr 1 0),(5,.t (.int .i64 i)),(6,.ptr 2 0),(7,.ptr 3 0),(15,.t (.int .i64 k))],s:=⟨[(0,.cells [.t (.lst (a.map Def.enc))]),(1,.cells [.t (.lst (b.map Def.enc))]),(2,(TCo t)),(3,(TCo u))],4⟩}) (fun r i _=>True) 4 () Z trivial Z Z Z ?_ ?_
    ·intro _ _;refine fR Z ?_;refine lM Z Z Z ?_;refine fM Z ?_;refine Run.ze Z Z (by simp) ?_;refine fR Z ?_;refine aL Z Z Z Z Z ?_;refine fM Z ?_;exact zl 2 Z (ih () trivial) Z Z Z
    ·intro k x r2 _ h2 hk hdk _ ih2;have hme:=wd.m x (zMG h2);have hme:u.members.any (fun y=>y.name==x.name)=true:=hme;refine fR Z ?_;refine lM Z Z Z ?_;refine fM Z ?_;refine Run.zf Z Z (by simp;omega) ?_;refine fR Z ?_;refine zu u.members (fun j (F:Bool)=>{env:=[(2,.ptr 0 0),(3,.ptr 1 0),(5,.t (.int .i64 i)),(6,.ptr 2 0),(7,.ptr 3 0),(15,.t (.int .i64 k)),(16,.t (.bool F)),(17,.t (.int .i64 j))],s:=⟨[(0,.cells [.t (.lst (a.map Def.enc))]),(1,.cells [.t (.lst (b.map Def.enc))]),(2,(TCo t)),(3,(TCo u))],4⟩}) (fun q i F=>(F||q.any (fun y=>y.name==x.name))=true) 4 false Z (by simpa using hme) Z Z Z ?_ ?_
     ·intro F hF
      have hF':F=true:=by simpa using hF
      subst hF';refine fR Z ?_;refine lM Z Z Z ?_;refine fM Z ?_;refine Run.ze Z Z (by simp) ?_;refine fR Z ?_;refine Run.ze Z Z Z ?_;refine fR Z ?_;refine aL Z Z Z Z Z ?_;refine fM Z ?_;exact zl 4 Z (ih2 () trivial) Z Z Z
     ·intro j y q F h3 hj hdj hF ih3;refine fR Z ?_;refine lM Z Z Z ?_;refine fM Z ?_;refine Run.zf Z Z (by simp;omega) ?_;refine fR Z ?_;refine elG Z Z Z Z h3 Z Z ?_;refine fM Z ?_;refine elG Z Z Z Z h2 Z Z ?_;refine fM Z ?_;refine aL Z Z Z Z Z ?_;refine fM Z ?_;exact zl 4 Z (ih3 (F||y.name==x.name) (by rw [←hF,w1d];simp [Bool.or_assoc])) Z Z Z
   ·intro k x r2 _ h2 hk hdk _ ih2;have hxm:=zMG h2;have hxo:=hto.n x hxm;obtain ⟨y,hy1,hy2⟩:=wd.n x hxm;have hc2:=q5 H.p13.toPr u.zi huo.nl x.name;rw [hy1] at hc2
    have hc3:z6 P 53 [y.ty.v,x.ty.v] ⟨[],0⟩ {v:= .t (.bool true)}:=by rw [hy2];exact hs x.ty hxo.t
    refine fR Z ?_;refine lM Z Z Z ?_;refine fM Z ?_;refine Run.zf Z Z (by simp;omega) ?_;refine fR Z ?_;refine Mid.zb Z Z Z h2 Z Z ?_;refine fM Z ?_;refine Mid.call (hc2) Z Z Z Z ?_;refine fM Z ?_;refine elG Z Z Z Z h2 Z Z ?_;refine fM Z ?_;refine caG Z Z (fun hg=>⟨_,rfl,hc3,rfl⟩) Z Z ?_;refine fM Z ?_;refine Run.ze Z Z Z ?_;refine fR Z ?_;refine aL Z Z Z Z Z ?_;refine fM Z ?_;exact zl 4 Z (ih2 () trivial) Z Z Z
  ·intro k x r2 _ h2 hk hdk _ ih2;have hxm:=zMG h2;have hxo:=hto.f x hxm;obtain ⟨y,hy1,hy2⟩:=wd.f x hxm;have hc2:=WQ H.p13.toPr u huo.fl x.name;rw [hy1] at hc2
   have hc3:z6 P 53 [y.ty.v,x.ty.v] ⟨[],0⟩ {v:= .t (.bool true)}:=by rw [hy2];exact hs x.ty hxo.t
   refine fR Z ?_;refine lM Z Z Z ?_;refine fM Z ?_;refine Run.zf Z Z (by simp;omega) ?_;refine fR Z ?_;refine Mid.zb Z Z Z h2 Z Z ?_;refine fM Z ?_;refine Mid.call (hc2) Z Z Z Z ?_;refine fM Z ?_;refine elG Z Z Z Z h2 Z Z ?_;refine fM Z ?_;refine caG Z Z (fun hg=>⟨_,rfl,hc3,rfl⟩) Z Z ?_;refine fM Z ?_;refine Run.ze Z Z Z ?_;refine fR Z ?_;refine aL Z Z Z Z Z ?_;refine fM Z ?_;exact zl 4 Z (ih2 () trivial) Z Z Z
end Go.GB.C24
namespace Go.GB.C24
open Go.GB Go.GB.C11
variable {P:Program}
theorem zd1 (H:zX P) (gs:List Gr) (hl:gs.length<=140737488355328) (hg:∀g,g∈gs->zV g.doc):z6 P 7 [.t (.lst (gs.map Gr.enc))] ⟨[],0⟩ {v:= .t (.bool true)}:=by
 have f1:=z9y H gs hl hg;have hk:=z3P H
 cases hf:z4F gs with
 |false=>
  rw [hf] at f1;refine z6.run H.i7 H.mixed Z Z ?_;refine fR Z ?_;refine Mid.call (f1) Z Z Z Z ?_;refine fM Z ?_;refine Run.zf Z Z Z ?_;refine fR Z ?_;refine Mid.call (hk) Z Z Z Z ?_;refine fM Z ?_;refine Run.fin Z (z3.go ?_);exact .t Z
 |true=>
  rw [hf] at f1;have hF:=z3s hf;have hN:=hF.gn hg;have hm:∀g,g∈gs↔g∈gs.reverse:=fun g=>(List.mem_reverse (as:=gs)).symm
  have hR:WE gs.reverse:=⟨by simpa using hF.n,fun x hx=>hF.sm x ((hm x).2 hx),fun x hx=>hF.r x ((hm x).2 hx),fun x hx=>hF.c x ((hm x).2 hx),fun x hx=>hF.f x ((hm x).2 hx),fun x hx=>hF.l x ((hm x).2 hx)⟩
  have hNR:=hR.gn fun x hx=>hg x ((hm x).2 hx);have g1:=wz H gs hN;have g2:=wz H gs.reverse hNR;have d1:=z33 hN.toGL;have d2:=z33 hNR.toGL;have l1:=z3O hN.toGL;have l2:=z3O hNR.toGL;obtain ⟨e1,w1,w2⟩:=zaZ hF hR hm;have g3:=z5p H _ _ d1 d2 w1;have g4:=z5p H _ _ d2 d1 w2;have hn8:=hF.n
  clear w1 w2 hNR hN hR hF d1 d2
  generalize wm gs=D1 at*;generalize Yt gs=E1 at*;generalize wm gs.reverse=D2 at*;generalize Yt gs.reverse=E2 at*;refine z6.run H.i7 H.mixed Z Z ?_;refine fR Z ?_;refine Mid.call (f1) Z Z Z Z ?_;refine fM Z ?_;refine Run.ze Z Z Z ?_;refine fR Z ?_;refine lM Z Z Z ?_;refine s64 Z Z Z ?_;refine fM Z ?_;refine zu gs.reverse (fun i (B:List Gr)=>{env:=[(0,.t (.lst (gs.map Gr.enc))),(3,.own 0 2 (B.map Gr.enc)),(4,.t (.int .i64 ((gs.length:Int) - 1 - (i:Int))))],s:=⟨[(0,.arr B.length)],1⟩}) (fun r i B=>B.length=i/\B++r=gs.reverse) 0 [] Z ⟨rfl,rfl⟩ Z Z Z ?_ ?_ (he:=leEA) (hs:=leSA)
  ·rintro B ⟨_,hB⟩
   obtain rfl:B=gs.reverse:=by rw [←hB];simp
   refine yM 0 Z (st':={env:=[(0,.t (.lst (gs.map Gr.enc))),(3,.t (.lst (gs.reverse.map Gr.enc))),(4,.t (.int .i64 ((gs.length:Int) - 1 - ((gs.reverse.length:Nat):Int))))],s:=⟨[],0⟩}) ?_ Z Z Z;refine fR Z ?_;refine Run.ze Z Z (by simp;omega) ?_;refine fR Z ?_;refine Mid.call (g1) Z Z Z Z ?_;refine fM Z ?_;refine Mid.call (g2) Z Z Z Z ?_;refine fM Z ?_;refine lM Z Z Z ?_;refine fM Z ?_;refine lM Z Z Z ?_;refine fM Z ?_
   have e0:((E1.length:Int)==0)=((E2.length:Int)==0):=by
    rw [w1n];simpa using e1
   refine caG Z Z (fun hg=>⟨_,rfl,g3,rfl⟩) Z Z ?_;refine fM Z ?_;refine caG Z Z (fun hg=>⟨_,rfl,g4,rfl⟩) Z Z ?_;refine fM Z ?_;refine caG Z Z (fun hg=>⟨_,rfl,hk,rfl⟩) Z Z ?_;refine fM Z ?_;refine Run.fin Z (z3.go ?_);exact .t (by simp [e0])
  ·rintro i g r B g1 hi hdr ⟨hBl,hB⟩ ih
   have hi':i<gs.length:=by rwa [List.length_reverse] at hi
   have hBl':B.length=i:=hBl
   have g2:gs[gs.length - 1 - i]?=some g:=by rw [←g1,List.getElem?_reverse hi']
   rw [show ((gs.length:Int) - 1 - (i:Int))=((gs.length - 1 - i:Nat):Int) by omega]
   refine fR Z ?_;refine Run.zf Z Z (by simp) ?_;refine fR Z ?_;refine Mid.zb Z Z Z g2 Z Z ?_;refine fM Z ?_;refine apM Gr.enc B [g] Z Z Z Z Z ?_ (h1:=by first |omega|(simp;omega)|(simp;done)) (h2:=by first |omega|(simp;omega)|(simp;done));refine fM rfl ?_;refine s64 rfl rfl rfl ?_;refine fM rfl ?_
   have e0:((gs.length - 1 - i:Nat):Int) - 1=(gs.length:Int) - 1 - ((i:Int)+1):=by omega
   exact zl 1 Z (ih (B++[g]) ⟨by simp;omega,by rw [←hB];simp⟩) rfl rfl rfl (he:=(by repeat' (first |exact trivial|exact LeX.t|exact LeX.top|exact LeX.Z6 (w11 rfl) (w11 rfl)|exact LeX.yR|exact LeX.yS|exact LeX.same rfl|exact LeX.tEq (by simp[e0])|exact LeX.ZT (by simp[e0]) (w11 rfl)|exact LeX.tEq (by congr 1<;>omega)|exact Or.inr ⟨w11 rfl,w11 rfl,rfl⟩|refine Or.inl ⟨w11 rfl,_,rfl,?_⟩|refine LeO.cells ?_|exact LeO.arr rfl|exact LeO.arr (by simp[e0])|exact LeX.ownTE (by simp [e0])|exact LeO.mE (by first |rfl|simp[e0]) (by first |exact Or.inl rfl|exact Or.inr rfl)|exact LeO.cE (by first |rfl|simp[e0])|exact zA.cE (by first |rfl|simp[e0])|refine LeO.map (by first |rfl|simp) ?_ (by first |exact Or.inl rfl|exact Or.inr rfl)|exact LeO.iter (by first |rfl|simp) (w11 rfl)|refine zA.cons ?_ ?_|exact zA.nil|refine And.intro ?_ ?_))) (hs:=(by repeat' (first |exact trivial|exact LeX.t|exact LeX.top|exact LeX.Z6 (w11 rfl) (w11 rfl)|exact LeX.yR|exact LeX.yS|exact LeX.same rfl|exact LeX.tEq (by simp[e0])|exact LeX.ZT (by simp[e0]) (w11 rfl)|exact LeX.tEq (by congr 1<;>omega)|exact Or.inr ⟨w11 rfl,w11 rfl,rfl⟩|refine Or.inl ⟨w11 rfl,_,rfl,?_⟩|refine LeO.cells ?_|exact LeO.arr rfl|exact LeO.arr (by simp[e0])|exact LeX.ownTE (by simp [e0])|exact LeO.mE (by first |rfl|simp[e0]) (by first |exact Or.inl rfl|exact Or.inr rfl)|exact LeO.cE (by first |rfl|simp[e0])|exact zA.cE (by first |rfl|simp[e0])|refine LeO.map (by first |rfl|simp) ?_ (by first |exact Or.inl rfl|exact Or.inr rfl)|exact LeO.iter (by first |rfl|simp) (w11 rfl)|refine zA.cons ?_ ?_|exact zA.nil|refine And.intro ?_ ?_)))
end Go.GB.C24
namespace Go.GB
open Go.RowKit Go.WideShapes Go.ChangeShapes
theorem yO {H:Type} {enc:TypeId×Value->H} {a:Assume} {C:Checked} {os:Os} {f:FuncId} {fn:Func} {s:ChangeSpec} {conds:List PathCond} {apart fresh handsOn again:Bool}
  (own:ownKnob C.prog.godebug=none) (started:os.Started) (noInit:C.prog.inits.idxOf? f=none) (hfn:C.prog.funcs[f]?=some fn)
  (witness:∃(w:World) (tape:Tape) (i:Go.Input),w.os=os/\(w.forCall tape i).Shaped C.prog/\i.vars=[]/\Go.Input.okWide C.prog (w.forCall tape i) .any w.heap.size f i/\
   s.pre6 enc C.prog fn conds apart (w.forCall tape i).memory i.args/\a.holds C.prog (lone (Frame.enter C.prog f i.args .normal) [] (w.forCall tape i)))
  (contract:∀(W:World) (base:Nat) (args:Array Value) (ds gs:List (DataW H)) (before:List MemPlace),
   (∀(j:Nat) t v,fn.params[j]?=some t->args[j]?=some v->Value.okWide C.prog W .any base t v)->
   DataW.Whole enc C.prog fn.params.toList s.vars apart W args.toList ds gs before->
   (DataW.weightsEach C.prog (fn.params.toList++s.plain.varTypes C.prog) (ds++gs)).all (· <=reachBytes)=true->
   Calls C.prog f args W fun e W'=>∃v,e= .returned v/\s.post enc C.prog fn apart fresh handsOn again W args v W'):
  ReturnsInHanded a C os f .any (s.pre6 enc C.prog fn conds apart) (s.post enc C.prog fn apart fresh handsOn again):=by
 have e:(fun (w:World) (args:Array Value)=>(s.pre enc C.prog fn conds apart w args/\True)/\sizedMet enc C.prog fn (OpenSpec.ofChange s) apart w args)=s.pre6 enc C.prog fn conds apart:=by
  funext w args;simp only [and_true];rfl
 rw [←e];obtain ⟨w,tape,i,h1,h2,h3,h4,h5,h6⟩:=witness;exact returnsInHanded_of_change_and (X:=fun _ _=>True) (fun _ _ _ _ _=>trivial) own started noInit hfn ⟨w,tape,i,h1,h2,h3,h4,⟨⟨h5.1,trivial⟩,h5.2⟩,h6⟩ (fun W base args ds gs before a1 a2 _ a4 _ _=>contract W base args ds gs before a1 a2 a4)
end Go.GB
