/-
  YtpakhiccblfcmaaGreatP8: lemmas of this proof (part 8). No conditions.
-/
import Derived.Test.YtpakhiccblfcmaaGreatP7
import Derived.Test.YtpakhiccblfcmaaGreatP6
set_option linter.all false
set_option maxRecDepth 100000
set_option maxHeartbeats 16000000
namespace Go.GB.C29
open Go.GB Go.GB.C26
theorem zg5 {l:List Input} (h:YD C11.zq C11.Qy C11.YR l=true):l.length<=16:=by
 unfold YD at h;simp only [Bool.and_eq_true,decide_eq_true_eq] at h;exact h.1
structure zdH (d:Def):Prop where
 i:d.implements.length<=64
 f:d.fields.length<=64
 a:∀x,x∈d.fields->x.args.length<=16
 m:d.members.length<=64
theorem QZ {l:List Field} (h:w6 C11.zq C11.Qy C11.YR l=true):l.length<=64/\∀x,x∈l->x.args.length<=16:=by
 unfold w6 at h;simp only [Bool.and_eq_true,decide_eq_true_eq,List.all_eq_true] at h;refine ⟨h.1.2,fun x hx=>?_⟩;have:=h.2 x hx;unfold z0S at this;simp only [Bool.and_eq_true] at this;exact zg5 this.1.1.2
theorem zgh {d:Def} (h:z3m C11.zq C11.Qy C11.YR d=true):zdH d:=by
 unfold z3m at h;simp only [Bool.and_eq_true,decide_eq_true_eq] at h;obtain ⟨⟨⟨⟨_,_⟩,hi⟩,_⟩,hk⟩:=h;unfold z89 at hk;split at hk
 ·simp only [Bool.and_eq_true,decide_eq_true_eq] at hk;obtain ⟨⟨h1,h2⟩,h3⟩:=hk
  exact ⟨hi,(QZ h1).1,(QZ h1).2,by omega⟩
 ·split at hk
  ·simp only [Bool.and_eq_true,decide_eq_true_eq] at hk;obtain ⟨⟨⟨h0,h1⟩,h2⟩,h3⟩:=hk
   exact ⟨hi,(QZ h1).1,(QZ h1).2,by omega⟩
  ·split at hk
   ·simp only [Bool.and_eq_true,decide_eq_true_eq] at hk;obtain ⟨⟨⟨h0,h1⟩,h2⟩,h3⟩:=hk;have hf:=List.length_eq_zero_iff.1 h1;unfold yZ at h2;simp only [Bool.and_eq_true,decide_eq_true_eq] at h2
    exact ⟨hi,by omega,(by rw [hf];intro x hx;cases hx),h2.1.2⟩
   ·split at hk
    ·simp only [Bool.and_eq_true,decide_eq_true_eq] at hk;obtain ⟨⟨⟨h0,h1⟩,h2⟩,h3⟩:=hk;have hf:=List.length_eq_zero_iff.1 h1;unfold yZ at h2;simp only [Bool.and_eq_true,decide_eq_true_eq] at h2
     exact ⟨hi,by omega,(by rw [hf];intro x hx;cases hx),h2.1.2⟩
    ·split at hk
     ·simp only [Bool.and_eq_true,decide_eq_true_eq] at hk;obtain ⟨⟨⟨⟨h0,h1⟩,h2⟩,h3⟩,h4⟩:=hk;have hf:=List.length_eq_zero_iff.1 h1
      exact ⟨hi,by omega,(by rw [hf];intro x hx;cases hx),by omega⟩
     ·cases hk
theorem zfw {ds:List Def} (h:z2e C11.zq C11.Qy C11.YR ds=true):ds.length<=64/\∀d,d∈ds->zdH d:=by
 unfold z2e at h;simp only [Bool.and_eq_true,decide_eq_true_eq,List.all_eq_true] at h;exact ⟨h.1.2,fun d hd=>zgh (h.2 d hd)⟩
theorem z29 (y:Field) (a:Str):∀l:List Input,(C11.qA y a l).length<=l.length
 |[]=>by simp [C11.qA]
 |x::r=>by
  have:=z29 y a r
  simp only [C11.qA];split<;>simp<;>omega
theorem z1V (y:Field) (a:Str):∀l:List Input,(C11.WV y a l).length<=l.length
 |[]=>by simp [C11.WV]
 |x::r=>by
  have:=z1V y a r
  simp only [C11.WV];split<;>simp<;>omega
theorem z34 (ds:List Def) (t:Def) (ht:∀y,y∈t.fields->y.args.length<=16):∀l:List Field,(∀x,x∈l->x.args.length<=16)->(C11.q6 ds t l).length<=40*l.length
 |[],_=>by simp [C11.q6]
 |x::r,h=>by
  have h1:=z34 ds t ht r (fun y hy=>h y (List.mem_cons_of_mem _ hy));have h2:=h x (List.mem_cons_self ..)
  have h3:(C11.z6v ds t x).length<=40:=by
   unfold C11.z6v
   cases hf:C11.Zb x.name t.fields with
   |none=>simp
   |some y=>
    have a1:=z29 y (C11.atF t x) x.args;have a2:=z1V x (C11.atF t x) y.args;have a3:=ht y (C11.w7 hf);simp only [List.length_append]
    split<;>simp<;>omega
  simp only [C11.q6,List.length_append,List.length_cons];omega
theorem z48 {ds:List Def} (h:∀d,d∈ds->zdH d) {t:Def} (ht:t∈ds):∀(l p:List Str),(C11.Y6 ds t p l).length<=3000*l.length
 |[],p=>by simp [C11.Y6]
 |n::r,p=>by
  have h1:=z48 h ht r (p++[n])
  have h2:((C11.zf n ds).getD Def.zero).fields.length<=64/\∀x,x∈((C11.zf n ds).getD Def.zero).fields->x.args.length<=16:=by
   cases hf:C11.zf n ds with
   |none=>simp [Def.zero]
   |some o=>have:=h o (C11.ZG hf);exact ⟨this.f,this.a⟩
  have h3:=z34 ds t (h t ht).a ((C11.zf n ds).getD Def.zero).fields h2.2;simp only [C11.Y6,List.length_append,List.length_cons];split
  ·omega
  ·simp only [List.length_cons,List.length_nil];omega
theorem z6x (ds:List Def) (t:Def):∀(l p:List zN),(C11.unL ds t p l).length<=l.length
 |[],p=>by simp [C11.unL]
 |m::r,p=>by
  have h1:=z6x ds t r (p++[m]);simp only [C11.unL,List.length_append,List.length_cons]
  split<;>simp<;>omega
theorem z1t {ds:List Def} (h:∀d,d∈ds->zdH d):∀l:List Def,(∀d,d∈l->d∈ds)->(C11.W9 ds l).length<=300000*l.length
 |[],_=>by simp [C11.W9]
 |t::r,hl=>by
  have h1:=z1t h r (fun d hd=>hl d (List.mem_cons_of_mem _ hd));have ht:=hl t (List.mem_cons_self ..);have h2:=z48 h ht t.implements [];have h3:=z6x ds t t.members [];have h4:=h t ht;have h5:=h4.i;have h6:=h4.m;simp only [C11.W9,List.length_append,List.length_cons,C11.z9p];split
  ·omega
  ·split
   ·omega
   ·simp only [List.length_nil];omega
theorem z3M (ds:List Def) (t:Str):∀l:List Field,(z0q ds t l).length<=C11.wFd l
 |[]=>by simp [z0q]
 |f::r=>by
  have h1:=z3M ds t r;have h2:=z1X ds (t++[46]++f.name) [40] [41] f.args;simp only [z0q,List.length_append,C11.wFd];omega
theorem z3W (ds:List Def):∀l:List Def,(wQ ds l).length<=C11.wDs l
 |[]=>by simp [wQ]
 |d::r=>by
  have h1:=z3W ds r;have h2:=z3M ds d.name d.fields;have h3:=z1X ds d.name [46] [] d.ze;simp only [wQ,List.length_append,C11.wDs,C11.wD];omega
theorem QE {α:Type} {f:α->List T}:∀{l:List α} {x:α},x∈l->ZL (f x)<=yv (l.map f)
 |y::r,x,h=>by
  simp only [List.map_cons,yv]
  rcases List.mem_cons.1 h with rfl|h
  ·omega
  ·have:=QE (f:=f) h;omega
theorem zeM {x:Field} (hb:ZL x.enc<=1048576):SzF x:=by
 have h1:=C11.Zo Input.enc (fun x=>C11.Zt _ _) x.args;have h2:=C11.Zo Dir.enc (fun x=>C11.Zt _ _) x.zX;simp only [Field.enc,ZL,T.bulk] at hb
 exact ⟨by omega,by omega⟩
theorem zeE {t:Def} (hb:ZL t.enc<=1048576):SzD t:=by
 have h1:=C11.z4H t.fields;have h2:=C11.Zo zN.enc (fun x=>C11.Zt _ _) t.members;have h3:=C11.Zo Input.enc (fun x=>C11.Zt _ _) t.ze;have h4:=C11.Zo Dir.enc (fun x=>C11.Zt _ _) t.zX;have h5:=C11.Zo Go.GB.sE (fun x=>C11.Zt _ _) t.implements;simp only [Def.enc,ZL,T.bulk] at hb
 exact ⟨by omega,by omega,by omega,by omega,by omega,fun x hx=>zeM (by have:=QE (f:=Field.enc) hx;omega)⟩
theorem zdi {ds:List Def} (hD:Z8 ds) (hb:yv (ds.map Def.enc)<=1048576):zdh ds:=by
 have hsz:∀t,t∈ds->SzD t:=fun t ht=>zeE (by have:=QE (f:=Def.enc) ht;omega);have hw:=C11.z39 ds;refine ⟨hD,fun d hd=>?_,fun d hd f hf=>?_,C11.z70 hb true,fun h=>?_,?_,?_,hsz⟩
 ·have:=(hsz d hd).n;omega
 ·have:=((hsz d hd).x f hf).a;omega
 ·obtain ⟨h1,h2⟩:=zfw h;have:=z1t h2 ds (fun d hd=>hd);unfold C11.WS;omega
 ·have:=z3W ds ds;omega
 ·exact Nat.le_trans (C11.Zo Def.enc (fun x=>C11.Zt _ _) ds) hb
theorem z0Q:∀(k:Nat) (l:List za),SizeOf.sizeOf l<=k->za.zQ l<=yv (l.map za.enc)
 |0,l,h=>by cases l<;>simp at h
 |k+1,l,h=>by
  cases l with
  |nil=>simp [za.zQ]
  |cons p r=>
   simp only [List.cons.sizeOf_spec] at h;have h1:=z0Q k r (by omega)
   have h2:=z0Q k p.z5 (by cases p with|mk a b c d e f g i=>simp only [za.z5,za.mk.sizeOf_spec] at h⊢;omega)
   have h3:=za.WD p
   have h4:ZL p.enc=ZL p.cs:=by rw [za.zw]
   simp only [za.zQ,List.map_cons,yv,h4,za.cs,ZL,T.bulk];omega
structure zfz (s:zH):Prop where
 g:s.z4.length<=140737488355328
 k:s.keys.length<=140737488355328
 j:s.zE.length<=140737488355328
 kf:∀k,k∈s.keys->k.fields.length<=140737488355328
 jf:∀j,j∈s.zE->j.req.length<=140737488355328/\j.yc.length<=140737488355328
def z8l:List Sh:=[.str,.int .i64,.lst 16 [.str]]
def z6k:List Sh:=[.str,.str,.int .i64,.bool,.lst 16 [.str],.lst 16 [.str]]
def z9t:List Sh:= .lst 16 [.str]::(zdX++[.lst 48 z8l,.lst 96 z6k])
theorem zfk {c:List T} (h:Sh.oks YA z8l c):∃x:zJ,c=x.enc/\x.fields.length<=140737488355328:=by
 have:=ZN;obtain ⟨x1,c,rfl,⟨t,rfl,_⟩,h1⟩:=Sh.zC h;obtain ⟨x2,c,rfl,⟨g,rfl,_⟩,h2⟩:=Sh.zC h1;obtain ⟨x3,c,rfl,h3,h4⟩:=Sh.zC h2;obtain ⟨l,rfl,hl,_⟩:=Q8 h3;obtain rfl:=Sh.yY h4
 exact ⟨⟨t,g,l⟩,rfl,by show l.length<=_;omega⟩
theorem zcK {c:List T} (h:Sh.oks YA z6k c):∃x:zx,c=x.enc/\(x.req.length<=140737488355328/\x.yc.length<=140737488355328):=by
 have:=ZN;obtain ⟨x1,c,rfl,⟨t,rfl,_⟩,h1⟩:=Sh.zC h;obtain ⟨x2,c,rfl,⟨f,rfl,_⟩,h2⟩:=Sh.zC h1;obtain ⟨x3,c,rfl,⟨g,rfl,_⟩,h3⟩:=Sh.zC h2;obtain ⟨x4,c,rfl,⟨e,rfl⟩,h4⟩:=Sh.zC h3;obtain ⟨x5,c,rfl,h5,h6⟩:=Sh.zC h4;obtain ⟨l,rfl,hl,_⟩:=Q8 h5;obtain ⟨x6,c,rfl,h7,h8⟩:=Sh.zC h6;obtain ⟨m,rfl,hm,_⟩:=Q8 h7;obtain rfl:=Sh.yY h8
 exact ⟨⟨t,f,g,e,l,m⟩,rfl,by show l.length<=_/\m.length<=_;omega⟩
theorem zfa {c:List T} (h:Sh.oks YA z9t c):∃(gs:List Str) (ds:List Def) (ks:List zJ) (js:List zx),c=[.lst (gs.map Go.GB.sE),.lst (ds.map Def.enc),.lst (ks.map zJ.enc),.lst (js.map zx.enc)]/\Z8 ds/\zfz ⟨gs,.lst (ds.map Def.enc),ks,js⟩:=by
 have:=ZN;obtain ⟨x1,c,rfl,h0,h1⟩:=Sh.zC h;obtain ⟨gs,rfl,hg,_⟩:=Q8 h0;obtain ⟨ds,c,rfl,hD,h2⟩:=zfc h1;obtain ⟨x2,c,rfl,h3,h4⟩:=Sh.zC h2;obtain ⟨ks,rfl,hk,_,hk2⟩:=wy (fun c hc=>zfk hc) h3;obtain ⟨x3,c,rfl,h5,h6⟩:=Sh.zC h4;obtain ⟨js,rfl,hj,_,hj2⟩:=wy (fun c hc=>zcK hc) h5;obtain rfl:=Sh.yY h6
 exact ⟨gs,ds,ks,js,rfl,hD,⟨by show gs.length<=_;omega,by show ks.length<=_;omega,by show js.length<=_;omega,hk2,hj2⟩⟩
def z9C:List Sh:=[.int .i64,.num 1]
theorem zfl {c:List T} (h:Sh.oks YA z9C c):∃(k:Int) (l:List za),c=[.int .i64 k,.lst (l.map za.enc)]/\l.length*160<=140737488355328/\∀p,p∈l->p.Ok:=by
 obtain ⟨x1,c,rfl,⟨k,rfl,_⟩,h1⟩:=Sh.zC h;obtain ⟨x2,c,rfl,⟨l,rfl,h2,h3⟩,h4⟩:=Sh.zC h1;obtain rfl:=Sh.yY h4;exact ⟨k,l,rfl,h2,fun p hp=>(h3 p hp).1⟩
theorem zgx {gs:List Str} {ds:List Def} {ks:List zJ} {js:List zx} {l:List za} (hD:Z8 ds) (hS:zfz ⟨gs,.lst (ds.map Def.enc),ks,js⟩) (hl:l.length*160<=140737488355328) (ho:∀p,p∈l->p.Ok) (hb:yv (ds.map Def.enc)<=1048576) (hb2:yv (l.map za.enc)<=1048576):zci ⟨gs,.lst (ds.map Def.enc),ks,js⟩ ds l:=
 ⟨zdi hD hb,rfl,hS.g,hS.k,hS.j,hS.kf,hS.jf,hl,ho,by have:=z0Q _ l (Nat.le_refl _);omega⟩
end Go.GB.C29
