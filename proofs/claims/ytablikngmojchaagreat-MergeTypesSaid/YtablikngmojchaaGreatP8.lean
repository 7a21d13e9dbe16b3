/-
  YtablikngmojchaaGreatP8: lemmas. No conditions.
-/
import Derived.Test.YtablikngmojchaaGreatP7
import Derived.Test.YtablikngmojchaaGreatP5
import Derived.Handed
set_option linter.all false
set_option maxRecDepth 100000
set_option maxHeartbeats 16000000
namespace Go.GB.C24
open Go.GB Go.GB.C11
variable {P:Program}
theorem zbH (H:Pr P) (s:Str):z5 P 106 [.t (.str s)] ⟨[],0⟩ {v:= .t (.bool (zo s))}:=by
 by_cases h':s.length<=140737488355328
 ·exact QH H s h'
 ·have e:zo s=false:=by unfold zo;rw [show decide (1<=s.length/\s.length<=64)=false from by simp;omega];rfl
  rw [e];refine z5.run H.i106 H.mixed Z Z ?_;refine fR Z ?_;refine Run.zb Z Z (by simp;omega) ?_;refine fR Z ?_;refine Run.fin Z (z3.go ?_);exact .t Z
theorem zbA (H:zG P):C29.R6 P zo C11.z1m Wz:=⟨zbH H.p13.toPr,z7w H.p13,C11.z0C H.p13.toPr⟩
abbrev zbY (d:Def):Bool:=C29.z3J zo C11.z1m Wz d
abbrev Wb (ds:List Def):Bool:=C29.z83 zo C11.z1m Wz ds
theorem Wo {s:Str} (h:zo s=true):s≠[]/\s.length<=64:=by
 unfold zo at h;simp only [w07,w0j] at h
 exact ⟨by rintro rfl;simp at h,h.1.2⟩
theorem z2n {l:List Dir} (h:C29.wM zo C11.z1m l=true):l.length<=16/\DA l:=by
 unfold C29.wM at h;simp only [w07,w0j,w0i] at h;refine ⟨h.1,fun y hy=>?_⟩;have:=h.2 y hy;unfold C29.z7e at this;simp only [w07,w0j] at this;omega
theorem z4H {l:List Input} (h:C29.Yt zo C11.z1m Wz l=true):l.length<=16/\∀x,x∈l->x.name≠[]/\x.zg.length<=16:=by
 unfold C29.Yt at h;simp only [w07,w0j,w0i] at h;refine ⟨h.1,fun y hy=>?_⟩;have:=h.2 y hy;unfold C29.inR at this;simp only [w07] at this;exact ⟨(Wo this.1.1.1).1,(z2n this.1.2).1⟩
structure FR (f:Field):Prop where
 nn:f.name≠[]
 al:f.args.length<=16
 ai:∀x,x∈f.args->x.name≠[]/\x.zg.length<=16
 dl:f.zg.length<=16
 da:DA f.zg
 ty:Wz f.ty=true
theorem z41 {l:List Field} (h:C29.wo zo C11.z1m Wz l=true):l.length<=64/\∀x,x∈l->FR x:=by
 unfold C29.wo at h;simp only [w07,w0j,w0i] at h;refine ⟨h.1.2,fun y hy=>?_⟩;have:=h.2 y hy;unfold C29.z1D at this;simp only [w07] at this;have h1:=z4H this.1.1.2;have h2:=z2n this.2;exact ⟨(Wo this.1.1.1).1,h1.1,h1.2,h2.1,h2.2,this.1.2⟩
theorem z2R {l:List zh} {pl:Bool} (h:C29.yO zo C11.z1m l pl=true):l.length<=64/\∀x,x∈l->x.name≠[]/\x.zg.length<=16/\DA x.zg:=by
 unfold C29.yO at h;simp only [w07,w0j,w0i] at h;refine ⟨h.1.2,fun y hy=>?_⟩;have:=h.2 y hy;unfold C29.za8 at this;simp only [w07] at this;have h2:=z2n this.1.2;exact ⟨(Wo this.1.1).1,h2.1,h2.2⟩
structure DR (d:Def):Prop where
 nm:d.name≠[]
 dl:d.zg.length<=16
 da:DA d.zg
 il:d.implements.length<=64
 fl:d.fields.length<=64
 f:∀x,x∈d.fields->FR x
 ml:d.members.length<=64
 m:∀x,x∈d.members->x.name≠[]/\x.zg.length<=16/\DA x.zg
 nl:d.zi.length<=16
 n:∀x,x∈d.zi->x.name≠[]/\x.zg.length<=16
 kd:(d.kind=1/\d.members=[]/\d.zi=[])∨(d.kind=2/\d.implements=[]/\d.members=[]/\d.zi=[])∨(d.kind=3/\d.implements=[]/\d.fields=[]/\d.zi=[])∨(d.kind=4/\d.implements=[]/\d.fields=[]/\d.zi=[])∨(d.kind=5/\d.implements=[]/\d.fields=[]/\d.members=[])
theorem zdD {d:Def} (h:zbY d=true):DR d:=by
 unfold zbY C29.z3J at h;simp only [w07,w0j] at h;obtain ⟨⟨⟨⟨h1,h2⟩,h3⟩,h4⟩,h5⟩:=h;have hd:=z2n h2;unfold C29.z8h at h5;split at h5
 ·rename_i hk;simp only [w07,w0j,w0q] at h5;have hf:=z41 h5.1.1
  refine ⟨(Wo h1).1,hd.1,hd.2,h3,hf.1,hf.2,?_,?_,?_,?_,.inl ⟨hk,h5.1.2,h5.2⟩⟩<;>simp [h5.1.2,h5.2]
 ·split at h5
  ·rename_i hk;simp only [w07,w0j,w0q] at h5;have hf:=z41 h5.1.1.2
   refine ⟨(Wo h1).1,hd.1,hd.2,h3,hf.1,hf.2,?_,?_,?_,?_,.inr (.inl ⟨hk,h5.1.1.1,h5.1.2,h5.2⟩)⟩<;>simp [h5.1.2,h5.2]
  ·split at h5
   ·rename_i hk;simp only [w07,w0j,w0q] at h5;have hm:=z2R h5.1.2
    refine ⟨(Wo h1).1,hd.1,hd.2,h3,?_,?_,hm.1,hm.2,?_,?_,.inr (.inr (.inl ⟨hk,h5.1.1.1,h5.1.1.2,h5.2⟩))⟩<;>simp [h5.1.1.2,h5.2]
   ·split at h5
    ·rename_i hk;simp only [w07,w0j,w0q] at h5;have hm:=z2R h5.1.2
     refine ⟨(Wo h1).1,hd.1,hd.2,h3,?_,?_,hm.1,hm.2,?_,?_,.inr (.inr (.inr (.inl ⟨hk,h5.1.1.1,h5.1.1.2,h5.2⟩)))⟩<;>simp [h5.1.1.2,h5.2]
    ·split at h5
     ·rename_i hk;simp only [w07,w0j,w0q] at h5;have hn:=z4H h5.2
      refine ⟨(Wo h1).1,hd.1,hd.2,h3,?_,?_,?_,?_,hn.1,hn.2,.inr (.inr (.inr (.inr ⟨hk,h5.1.1.1.1,h5.1.1.1.2,h5.1.1.2⟩)))⟩<;>simp [h5.1.1.1.2,h5.1.1.2]
     ·cases h5
theorem DR.db {d:Def} (h:DR d) (hd:d.Ok):DB 100 d:=
 ⟨hd,w0o h.il (by decide),w0o h.dl (by decide),w0o h.fl (by decide),fun y hy=>⟨hd.f y hy,w0o (h.f y hy).al (by decide),w0o (h.f y hy).dl (by decide)⟩,w0o h.ml (by decide),fun y hy=>w0o (h.m y hy).2.1 (by decide),w0o h.nl (by decide)⟩
theorem DR.nmd {d:Def} (h:DR d):NM d:=
 ⟨fun y hy=>(h.f y hy).nn,fun y hy=>(h.m y hy).1,fun y hy=>(h.n y hy).1,h.da,fun y hy=>(h.f y hy).da,fun y hy=>(h.m y hy).2.2,fun y hy x hx=>w0o ((h.f y hy).ai x hx).2 (by decide),fun x hx=>w0o (h.n x hx).2 (by decide)⟩
theorem zbb:∀{l:List Field},(∀x,x∈l->FR x)->wFd l<=32*l.length
 |[],_=>by simp [wFd]
 |f::r,h=>by
  have h1:=h f (by simp);have h2:=h1.al;have h3:=h1.dl;have h4:=zbb (l:=r) fun x hx=>h x (by simp [hx]);simp only [wFd,w0d];omega
theorem DR.wD {d:Def} (h:DR d):wD d<=3000:=by
 have h1:=zbb h.f;have:=h.fl;have:=h.ml;have:=h.nl;have:=h.dl;have:=h.il;unfold C11.wD;omega
theorem zbE:∀{l:List Def},(∀x,x∈l->DR x)->wDs l<=3000*l.length
 |[],_=>by simp [wDs]
 |f::r,h=>by
  have h1:=(h f (by simp)).wD;have h4:=zbE (l:=r) fun x hx=>h x (by simp [hx]);simp only [wDs,w0d];omega
theorem z2z {ds:List Def} (h:Wb ds=true):ds.length<=64/\∀d,d∈ds->DR d:=by
 unfold Wb C29.z83 at h;simp only [w07,w0j,w0i] at h;exact ⟨h.1.2,fun d hd=>zdD (h.2 d hd)⟩
theorem z5x {ds:List Def} (hr:Wb ds=true) (h:wG ds=false):Small ds:=by
 have h1:=z2z hr;have hw:=zbE h1.2;unfold wG at h
 have e:ds.foldl qn 0=((wDs ds:Nat):Int):=by
  have:=z8U ds 0 (by omega);simpa using this
 rw [e] at h;simp only [w1k,w1u] at h
 exact ⟨by omega,by omega⟩
def Yu (d:Def):Bool:=!wG [d]&&Wb [d]
theorem Z2.one {d:Def} (h:d.Ok):Z2 [d]:=⟨by simp,fun y hy=>by rw [w1i.1 hy];exact h,by simp⟩
theorem z1Q (H:zG P) (d:Def) (hd:d.Ok):z5 P 15 [d.v] ⟨[],0⟩ {v:= .t (.bool (Yu d))}:=by
 have g1:=z6Q H.p13.toPr [d] (Z2.one hd);have g2:=C29.z0C H.pR (zbA H) [d] (Z2.one hd);refine z5.run H.i15 H.mixed Z Z ?_;refine fR Z ?_;refine Mid.call (g1) Z Z Z Z ?_;refine fM Z ?_;refine caG Z Z (fun hg=>⟨_,rfl,g2,rfl⟩) Z Z ?_;refine fM Z ?_;refine Run.fin Z (z3.go ?_);exact .t Z
theorem W0 {d:Def} (h:Yu d=true):DR d:=by
 unfold Yu at h;simp only [w07] at h;exact (z2z h.2).2 d (by simp)
def z1P (g:Gr):Bool:=(((wG g.doc||!Wb g.doc)||decide (((wI g.doc false).length:Int)>0))||decide (((C11.Zq g.doc).length:Int)>0))
def z5O (gs:List Gr):Bool:=!((gs.take 9).any z1P)&&decide ((gs.length:Int)<=8)
theorem zdN (H:zG P) (gs:List Gr) (hl:gs.length<=140737488355328) (hg:∀g,g∈gs->Z2 g.doc):z5 P 8 [.t (.lst (gs.map Gr.enc))] ⟨[],0⟩ {v:= .t (.bool (z5O gs))}:=by
 refine z5.run H.i8 H.mixed Z Z ?_;refine fR Z ?_;refine zn (gs.take 9) (fun i (_:Unit)=>{env:=[(0,.t (.lst (gs.map Gr.enc))),(3,.t (.int .i64 i))],s:=⟨[],0⟩}) (fun r i _=>z5O gs=(!(r.any z1P)&&decide ((gs.length:Int)<=8))) 0 () Z Z Z Z Z ?_ ?_
 ·intro _ hT;refine fR Z ?_;refine lM Z Z Z ?_;refine fM Z ?_;refine Run.z9 Z Z (by simp;omega) ?_;refine fR Z ?_;refine lM Z Z Z ?_;refine fM Z ?_;refine Run.fin Z (z3.go ?_);exact .t (by rw [hT];rfl)
 ·intro i g r _ h1 hi hdr hT ih
  have hi9:i<9/\i<gs.length:=by simp at hi;omega
  have h1':gs[i]?=some g:=by rw [w0p,w0e hi9.1] at h1;exact h1
  have hgo:=hg g (zMG h1')
  have hT:z5O gs=(!(z1P g||r.any z1P)&&decide ((gs.length:Int)<=8)):=by rw [hT,w1d]
  have g1:=z6Q H.p13.toPr g.doc hgo;have g2:z5 P 23 [yY g.doc] ⟨[],0⟩ {v:= .t (.bool (Wb g.doc))}:=C29.z0C H.pR (zbA H) g.doc hgo
  have g3:(wG g.doc||!Wb g.doc)=false->z5 P 24 [yY g.doc,.t (.bool false)] ⟨[],0⟩ {v:= .t (.lst ((wI g.doc false).map z4.enc))}:=fun h=>by
   simp only [w1k,Bool.not_eq_false'] at h;exact zbO H.p13.toPr g.doc hgo (fun o ho=>w0o ((z2z h.2).2 o ho).nl (by decide)) false (z9o (z5x h.2 h.1) false)
  have g4:(wG g.doc||!Wb g.doc)=false->z5 P 25 [yY g.doc] ⟨[],0⟩ {v:= .t (.lst ((C11.Zq g.doc).map z4.enc))}:=fun h=>by
   simp only [w1k,Bool.not_eq_false'] at h;exact z9M H.p13 g.doc hgo (z9B (z5x h.2 h.1))
  have e:z1P g=(((wG g.doc||!Wb g.doc)||decide (((wI g.doc false).length:Int)>0))||decide (((C11.Zq g.doc).length:Int)>0)):=rfl;refine fR Z ?_;refine lM Z Z Z ?_;refine fM Z ?_;refine Run.zb Z Z (by simp;omega) ?_;refine fR Z ?_;refine Mid.z6 Z Z Z h1' Z Z ?_;refine fM Z ?_;refine Mid.call (g1) Z Z Z Z ?_;refine fM Z ?_;refine elG Z Z Z Z h1' Z Z ?_;refine fM Z ?_;refine caG Z Z (fun hg=>⟨_,rfl,g2,rfl⟩) Z Z ?_;refine fM Z ?_;refine elG Z Z Z Z h1' Z Z ?_;refine fM Z ?_;refine caG Z Z (fun hg=>⟨_,rfl,g3 (by simpa using hg),rfl⟩) Z Z ?_;refine lMG Z Z Z Z ?_;refine fM Z ?_;refine elG Z Z Z Z h1' Z Z ?_;refine fM Z ?_
  refine caG Z Z (fun hg=>⟨_,rfl,g4 (by revert hg;cases wG g.doc<;>cases Wb g.doc<;>simp),rfl⟩) Z Z ?_
  refine lMG Z Z Z Z ?_;refine fM Z ?_;refine Run.cond Z Z (fun hc=>?_) (fun hc=>?_)
  ·rw [show z1P g=true from hc] at hT;refine fR Z ?_;refine Run.fin Z (z3.go ?_);exact .t (by rw [hT];rfl)
  ·rw [show z1P g=false from hc,w1z] at hT;refine fR Z ?_;refine aL Z Z Z Z Z ?_;refine fM Z ?_;exact zd 0 Z (ih () hT) Z Z Z
structure zeD (gs:List Gr):Prop where
 n:gs.length<=8
 sm:∀g,g∈gs->Small g.doc
 r:∀g,g∈gs->∀d,d∈g.doc->DR d
 c:∀g,g∈gs->wI g.doc false=[]
 f:∀g,g∈gs->C11.Zq g.doc=[]
 l:∀g,g∈gs->g.doc.length<=64
theorem z7u {gs:List Gr} (h:z5O gs=true):zeD gs:=by
 unfold z5O at h;simp only [w07,w21,w0j] at h
 have hn:gs.length<=8:=by omega
 rw [w1l (by omega)] at h
 have hb:∀g,g∈gs->wG g.doc=false/\Wb g.doc=true/\wI g.doc false=[]/\C11.Zq g.doc=[]:=fun g hg=>by
  have:=List.any_eq_false.1 h.1 g hg;unfold z1P at this;simp only [Bool.not_eq_true,w1k,Bool.not_eq_false',w1u] at this;refine ⟨this.1.1.1,this.1.1.2,?_,?_⟩
  ·cases hc:wI g.doc false with
   |nil=>rfl
   |cons a b=>rw [hc] at this;simp at this
  ·cases hc:C11.Zq g.doc with
   |nil=>rfl
   |cons a b=>rw [hc] at this;simp at this
 exact ⟨hn,fun g hg=>z5x (hb g hg).2.1 (hb g hg).1,fun g hg=>(z2z (hb g hg).2.1).2,fun g hg=>(hb g hg).2.2.1,fun g hg=>(hb g hg).2.2.2,fun g hg=>(z2z (hb g hg).2.1).1⟩
theorem zeD.gn {gs:List Gr} (h:zeD gs) (hg:∀g,g∈gs->Z2 g.doc):GN gs:=
 {n:=h.n,g:=fun g hgm=>⟨hg g hgm,h.l g hgm,fun d hd=>(h.r g hgm d hd).db ((hg g hgm).d d hd)⟩,nm:=fun g hgm d hd=>(h.r g hgm d hd).nmd}
end Go.GB.C24
namespace Go.GB.C24
open Go.GB Go.GB.C11
variable {P:Program}
def wQ (n:Str) (w:List Int):Field:=⟨n,[],⟨[73,110,116],w⟩,[]⟩
def QX (n:Str) (fs:List Field):Def:=⟨1,n,[],[],fs,[],[]⟩
theorem yR (H:zG P) (n:Str) (w:List Int):z5 P 27 [.t (.str n),.t (.lst (w.map nE))] ⟨[],0⟩ {v:=(wQ n w).v}:=by
 refine z5.run H.i27 H.mixed Z Z ?_;refine fR Z ?_;refine Run.fin Z (z3.go ?_);exact .agg (.cons (.t Z) (.cons (.nil Z) (.cons (.t Z) (.cons (.t Z) (.cons (.nil Z) .nil)))))
theorem wW (H:zG P) (n:Str) (fs:List Field):z5 P 26 [.t (.str n),.t (.lst (fs.map Field.enc))] ⟨[],0⟩ {v:=(QX n fs).v}:=by
 refine z5.run H.i26 H.mixed Z Z ?_;refine fR Z ?_;refine Run.fin Z (z3.go ?_);exact .agg (.cons (.t Z) (.cons (.t Z) (.cons (.nil Z) (.cons (.nil Z) (.cons (.t Z) (.cons (.nil Z) (.cons (.nil Z) .nil)))))))
def kT1:Def:=QX [84] [wQ [120] [1]]
def kT2:Def:=QX [84] [wQ [120] [],wQ [121] []]
def kE (l:List zh):Def:=⟨4,[69],[],[],[],l,[]⟩
def kA:Gr:=⟨[97],[QX [85,115,101,114] [wQ [105,100] []],kE [⟨[65],[]⟩]]⟩
def kB:Gr:=⟨[98],[QX [85,115,101,114] [wQ [110,97,109,101] []]]⟩
def kC:Gr:=⟨[99],[kE [⟨[65],[]⟩,⟨[66],[]⟩]]⟩
def kU:Def:=QX [85,115,101,114] [wQ [105,100] [],wQ [110,97,109,101] []]
theorem kk1:zL kT1 kT2=[]:=by rfl
theorem kk2:Y2 kT1 kT2=kT2:=by rfl
theorem kk3:Q5 [kA,kB]=[]:=by rfl
theorem kk4:z3r [kA,kB]=[kU,kE [⟨[65],[]⟩]]:=by rfl
theorem kk5:Q5 [kA,kC]=[⟨45,[69,46,66]⟩]:=by rfl
theorem kk6:z3r [kA,kC]=[]:=by rfl
theorem kn1:Yu kT1=true:=by rfl
theorem kn2:Yu kT2=true:=by rfl
theorem kn3:z5O [kA,kB]=true:=by rfl
theorem kn4:z5O [kA,kC]=true:=by rfl
theorem z2r (n:Str) (w:List Int) (hn:n.length<=100) (hw:w.length<=100):(wQ n w).Ok:=⟨by simp [wQ],by simp [wQ],⟨by show w.length*8<=_;omega,by simp [wQ]⟩,by simp [wQ],by simp [wQ],by show n.length<=_;omega⟩
theorem z2t (n:Str) (fs:List Field) (hn:n.length<=100) (hl:fs.length<=100) (hf:∀f,f∈fs->f.Ok):(QX n fs).Ok:=⟨by simp [QX],by simp [QX],by simp [QX],by show fs.length<=_;omega,hf,by simp [QX],by simp [QX],by simp [QX],by simp [QX],by show n.length<=_;omega,by simp [QX]⟩
theorem ze7:kT1.Ok:=z2t _ _ (by decide) (by decide) (by intro f hf;simp at hf;subst hf;exact z2r _ _ (by decide) (by decide))
theorem zc4:kT2.Ok:=z2t _ _ (by decide) (by decide) (by intro f hf;simp at hf;rcases hf with rfl|rfl<;>exact z2r _ _ (by decide) (by decide))
theorem zeZ:kU.Ok:=z2t _ _ (by decide) (by decide) (by intro f hf;simp at hf;rcases hf with rfl|rfl<;>exact z2r _ _ (by decide) (by decide))
theorem zdp (l:List zh) (hl:l.length<=100) (hm:∀m,m∈l->m.Ok):(kE l).Ok:=⟨by simp [kE],by simp [kE],by simp [kE],by simp [kE],by simp [kE],by show l.length<=_;omega,hm,by simp [kE],by simp [kE],by simp [kE],by simp [kE]⟩
theorem zdI:(kE [⟨[65],[]⟩]).Ok:=zdp _ (by decide) (by intro m hm;simp at hm;subst hm;exact ⟨by decide,by simp,by decide⟩)
theorem zdO:(kE [⟨[65],[]⟩,⟨[66],[]⟩]).Ok:=zdp _ (by decide) (by intro m hm;simp at hm;rcases hm with rfl|rfl<;>exact ⟨by decide,by simp,by decide⟩)
theorem zbk (n:Str) (hn:n.length<=100):(QX [85,115,101,114] [wQ n []]).Ok:=z2t _ _ (by decide) (by simp) (by intro f hf;simp at hf;subst hf;exact z2r _ _ hn (by decide))
theorem zek {a b:Def} (ha:a.Ok) (hb:b.Ok):Z2 [a,b]:=⟨by simp,fun y hy=>by simp at hy;rcases hy with rfl|rfl;exact ha;exact hb,by simp⟩
theorem zdr:Z2 kA.doc:=zek (zbk _ (by decide)) zdI
theorem zeW:Z2 kB.doc:=Z2.one (zbk _ (by decide))
theorem zfc:Z2 kC.doc:=Z2.one zdO
theorem kN1:GN [kA,kB]:=(z7u kn3).gn (by intro g hg;simp at hg;rcases hg with rfl|rfl;exact zdr;exact zeW)
theorem kN2:GN [kA,kC]:=(z7u kn4).gn (by intro g hg;simp at hg;rcases hg with rfl|rfl;exact zdr;exact zfc)
theorem z5V (H:zG P):z5 P 9 [] ⟨[],0⟩ {v:= .t (.bool true)}:=by
 have g1:=z59 H (k:=100) (by decide) kT1 kT2 ((W0 kn1).db ze7) ((W0 kn2).db zc4) (W0 kn1).nmd (W0 kn2).nmd;rw [kk1,kk2] at g1;have g2:=z1z H [kA,kB] kN1;rw [kk3,kk4] at g2;have g3:=z1z H [kA,kC] kN2;rw [kk5,kk6] at g3;have g4:=QO H kT2 zc4;have g5:=QO H kU zeZ;have g6:=z1B H.p13.toPr [⟨45,[69,46,66]⟩] [⟨45,[69,46,66]⟩] (by decide) (by decide);refine z5.run H.i9 H.mixed Z Z ?_;refine fR Z ?_;refine Mid.call (yR H [120] [1]) Z Z Z Z ?_;refine fM Z ?_;refine Mid.call (wW H [84] [wQ [120] [1]]) Z Z Z Z ?_;skip;refine Mid.call (yR H [120] []) Z Z Z Z ?_;skip;refine Mid.call (yR H [121] []) Z Z Z Z ?_;refine fM Z ?_;refine Mid.call (wW H [84] [wQ [120] [],wQ [121] []]) Z Z Z Z ?_;skip;refine Mid.call (g1) Z Z Z Z ?_;refine fM Z ?_;refine Mid.call (yR H [105,100] []) Z Z Z Z ?_;refine fM Z ?_;refine Mid.call (wW H [85,115,101,114] [wQ [105,100] []]) Z Z Z Z ?_;refine fM Z ?_;refine Mid.call (yR H [110,97,109,101] []) Z Z Z Z ?_;refine fM Z ?_;refine Mid.call (wW H [85,115,101,114] [wQ [110,97,109,101] []]) Z Z Z Z ?_;refine fM Z ?_;refine Mid.call (g2) Z Z Z Z ?_;refine fM Z ?_;refine Mid.call (g3) Z Z Z Z ?_;refine fM Z ?_;refine lM Z Z Z ?_;refine fM Z ?_;refine caG Z Z (fun hg=>⟨_,rfl,yR H [120] [],rfl⟩) Z Z ?_;skip;refine caG Z Z (fun hg=>⟨_,rfl,yR H [121] [],rfl⟩) Z Z ?_;skip;refine Mid.zeb Z Z Z ?_;refine Mid.ze1 Z Z Z ?_;skip;refine caG Z Z (fun hg=>⟨_,rfl,wW H [84] [wQ [120] [],wQ [121] []],rfl⟩) Z Z ?_;skip;refine caG Z Z (fun hg=>⟨_,rfl,g4,rfl⟩) Z Z ?_;refine fM Z ?_;refine lMG Z Z Z Z ?_;refine fM Z ?_;refine lMG Z Z Z Z ?_;refine fM Z ?_;refine Run.z9 Z Z Z ?_;refine fR Z ?_;refine pu Z ?_;refine fM Z ?_;refine Mid.call (yR H [105,100] []) Z Z Z Z ?_;skip;refine Mid.call (yR H [110,97,109,101] []) Z Z Z Z ?_;refine fM Z ?_;refine Mid.call (wW H [85,115,101,114] [wQ [105,100] [],wQ [110,97,109,101] []]) Z Z Z Z ?_;skip;refine Mid.call (g5) Z Z Z Z ?_;refine fM Z ?_;refine Mid.zeb Z Z Z ?_;refine Mid.ze1 Z Z Z ?_;skip;refine caG Z Z (fun hg=>⟨_,rfl,g6,rfl⟩) Z Z ?_;refine fM Z ?_;refine Run.fin Z (z3.go ?_);exact .t Z
end Go.GB.C24
namespace Go.GB.C24
open Go.GB Go.GB.C11
variable {P:Program}
theorem zcR (H:zG P) (a b:Def) (ha:a.Ok) (hb:b.Ok):z5 P 5 [a.v,b.v] ⟨[],0⟩ {v:= .t (.bool true)}:=by
 have r1:=z1Q H a ha;have r2:=z1Q H b hb;have hk:=z5V H;by_cases hr:Yu a=true/\Yu b=true
 rotate_left
 ·have hc:(!Yu a||!Yu b)=true:=by
   revert hr;cases Yu a<;>cases Yu b<;>simp
  refine z5.run H.i5 H.mixed Z Z ?_;refine fR Z ?_;refine Mid.call (r1) Z Z Z Z ?_;refine fM Z ?_;refine caG Z Z (fun hg=>⟨_,rfl,r2,rfl⟩) Z Z ?_;refine fM Z ?_;refine Run.zb Z Z hc ?_;refine fR Z ?_;refine Mid.call (hk) Z Z Z Z ?_;refine fM Z ?_;refine Run.fin Z (z3.go ?_);exact .t Z
 ·obtain ⟨h1,h2⟩:=hr;rw [h1] at r1;rw [h2] at r2;have d1:=W0 h1;have d2:=W0 h2;have db1:=d1.db ha;have db2:=d2.db hb;have g1:=z59 H (by decide) a b db1 db2 d1.nmd d2.nmd;have g2:=z8P H (by decide) a b db1 db2;have hl:=w9 db1 db2;have g3:=z1B H.p13.toPr (zL a b) (zL a b) (by omega) (by omega)
  rw [show decide (zL a b=zL a b)=true by simp] at g3
  have g4:=QO H (Y2 a b) (zaL (by decide) db1 db2).ok;refine z5.run H.i5 H.mixed Z Z ?_;refine fR Z ?_;refine Mid.call (r1) Z Z Z Z ?_;refine fM Z ?_;refine caG Z Z (fun hg=>⟨_,rfl,r2,rfl⟩) Z Z ?_;refine fM Z ?_;refine Run.z9 Z Z Z ?_;refine fR Z ?_;refine Mid.call (g1) Z Z Z Z ?_;refine fM Z ?_;refine Mid.call (g2) Z Z Z Z ?_;refine fM Z ?_;refine Mid.call (g3) Z Z Z Z ?_;refine fM Z ?_;refine caG Z Z (fun hg=>⟨_,rfl,g4,rfl⟩) Z Z ?_;refine fM Z ?_;refine caG Z Z (fun hg=>⟨_,rfl,hk,rfl⟩) Z Z ?_;refine fM Z ?_;refine Run.fin Z (z3.go ?_);exact .t Z
theorem zaI {gs:List Gr} (hG:GL gs):(Q5 gs).length<=12288000000:=by
 have h1:=z3k hG;have h2:=z0v gs (WK gs);have h3:=z0w hG
 unfold Q5;split<;>omega
theorem zcm {gs:List Gr} (hG:GL gs):Z2 (z3r gs):=by
 unfold z3r;split
 ·exact z5j hG
 ·exact ⟨by simp,by simp,by simp⟩
theorem zar (H:zG P) (gs:List Gr) (hl:gs.length<=140737488355328) (hg:∀g,g∈gs->Z2 g.doc):z5 P 6 [.t (.lst (gs.map Gr.enc))] ⟨[],0⟩ {v:= .t (.bool true)}:=by
 have f1:=zdN H gs hl hg;have hk:=z5V H
 cases hf:z5O gs with
 |false=>
  rw [hf] at f1;refine z5.run H.i6 H.mixed Z Z ?_;refine fR Z ?_;refine Mid.call (f1) Z Z Z Z ?_;refine fM Z ?_;refine Run.zb Z Z Z ?_;refine fR Z ?_;refine Mid.call (hk) Z Z Z Z ?_;refine fM Z ?_;refine Run.fin Z (z3.go ?_);exact .t Z
 |true=>
  rw [hf] at f1;have hN:=(z7u hf).gn hg;have g1:=z1z H gs hN;have g2:=z9q H gs hN.toGL;have htl:=zaI hN.toGL;have g3:=z1B H.p13.toPr (Q5 gs) (Q5 gs) (by omega) (by omega)
  rw [show decide (Q5 gs=Q5 gs)=true by simp] at g3
  have g4:=zdT H (z3r gs) (zcm hN.toGL);refine z5.run H.i6 H.mixed Z Z ?_;refine fR Z ?_;refine Mid.call (f1) Z Z Z Z ?_;refine fM Z ?_;refine Run.z9 Z Z Z ?_;refine fR Z ?_;refine Mid.call (g1) Z Z Z Z ?_;refine fM Z ?_;refine Mid.call (g2) Z Z Z Z ?_;refine fM Z ?_;refine Mid.call (g3) Z Z Z Z ?_;refine fM Z ?_;refine caG Z Z (fun hg=>⟨_,rfl,g4,rfl⟩) Z Z ?_;refine fM Z ?_;refine caG Z Z (fun hg=>⟨_,rfl,hk,rfl⟩) Z Z ?_;refine fM Z ?_;refine Run.fin Z (z3.go ?_);exact .t Z
end Go.GB.C24
namespace Go.GB.C24
open Go.GB Go.GB.C11
theorem zfE {P:Program} {vt:TypeId} (hb:P.bytesOf vt=80) (hs:z2W P (spV vt) 6 vt=some z36):
  ∀e i n xs,spV vt e=some i->xs.length*P.bytesOf e<=reachBytes->xs.length<=maxLen->(∀c∈xs,WT P n e c)->YA i (.lst xs):=by
 have hv:=zdQ hb hs;intro e i k xs he hr hl hc;have:=yj;unfold spV at he;split at he
 ·rename_i e1;subst e1;simp only [w00] at he;subst he;obtain ⟨l,rfl,h3⟩:=wg (f:=Val.enc) (Q:=Val.Ok) xs fun c hcm=>hv k c (hc c hcm);rw [hb] at hr
  exact ⟨l,rfl,by unfold B47;simp at hr;omega,h3⟩
 ·cases he
def z8s:List Sh:=[.str,.lst 144 zbl]
theorem zaM {c:List T} (h:Sh.oks YA z8s c):∃g:Gr,c=g.enc/\Z2 g.doc:=by
 obtain ⟨x,c,rfl,⟨n,rfl,hn⟩,g1⟩:=Sh.zI h;obtain ⟨l,c',rfl,h1,h2⟩:=zeK (r:=[]) g1;obtain rfl:=Sh.YK h2;exact ⟨⟨n,l⟩,rfl,h1⟩
theorem ze8 {c:List T} (h:Sh.oks YA [.lst 40 z8s] c):∃l:List Gr,c=[.lst (l.map Gr.enc)]/\l.length<=140737488355328/\∀g,g∈l->Z2 g.doc:=by
 have:=yj;obtain ⟨x,c,rfl,hx,g⟩:=Sh.zI h;obtain rfl:=Sh.YK g;obtain ⟨l,rfl,h1,_,h2⟩:=qM (fun c hc=>zaM hc) hx
 exact ⟨l,rfl,by omega,h2⟩
end Go.GB.C24
namespace Go.GB
open Go.RowKit Go.WideShapes Go.ChangeShapes
theorem yG {H:Type} {enc:TypeId×Value->H} {a:Assume} {C:Checked} {os:Os} {f:FuncId} {fn:Func} {s:ChangeSpec} {conds:List PathCond} {apart fresh handsOn again:Bool}
  (own:ownKnob C.prog.godebug=none) (started:os.Started) (noInit:C.prog.inits.idxOf? f=none) (hfn:C.prog.funcs[f]?=some fn)
  (witness:∃(w:World) (tape:Tape) (i:Go.Input),w.os=os/\(w.forCall tape i).Shaped C.prog/\i.vars=[]/\Go.Input.okWide C.prog (w.forCall tape i) .any w.heap.size f i/\
   s.pre6 enc C.prog fn conds apart (w.forCall tape i).memory i.args/\a.holds C.prog (lone (Frame.enter C.prog f i.args .normal) [] (w.forCall tape i)))
  (contract:∀(W:World) (base:Nat) (args:Array Value) (ds gs:List (DataW H)) (before:List MemPlace),
   (∀(j:Nat) t v,fn.params[j]?=some t->args[j]?=some v->Value.okWide C.prog W .any base t v)->
   DataW.Whole enc C.prog fn.params.toList s.vars apart W args.toList ds gs before->
   (DataW.weightsEach C.prog (fn.params.toList++s.plain.varTypes C.prog) (ds++gs)).all (· <=reachBytes)=true->
   Calls C.prog f args W fun e W'=>∃v,e= .returned v/\s.post enc C.prog fn apart fresh handsOn again W args v W'):
  ReturnsInHanded a C os f .any (s.pre6 enc C.prog fn conds apart) (s.post enc C.prog fn apart fresh handsOn again):=by
 have e:(fun (w:World) (args:Array Value)=>(s.pre enc C.prog fn conds apart w args/\True)/\sizedMet enc C.prog fn (OpenSpec.ofChange s) apart w args)=s.pre6 enc C.prog fn conds apart:=by
  funext w args;simp only [and_true];rfl
 rw [←e];obtain ⟨w,tape,i,h1,h2,h3,h4,h5,h6⟩:=witness;exact returnsInHanded_of_change_and (X:=fun _ _=>True) (fun _ _ _ _ _=>trivial) own started noInit hfn ⟨w,tape,i,h1,h2,h3,h4,⟨⟨h5.1,trivial⟩,h5.2⟩,h6⟩ (fun W base args ds gs before a1 a2 _ a4 _ _=>contract W base args ds gs before a1 a2 a4)
end Go.GB
