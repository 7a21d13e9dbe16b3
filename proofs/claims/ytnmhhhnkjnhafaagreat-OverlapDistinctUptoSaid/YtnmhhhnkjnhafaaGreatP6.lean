/-
  YtnmhhhnkjnhafaaGreatP6: lemmas. No conditions.
-/
import Derived.Test.YtnmhhhnkjnhafaaGreatP5
import Derived.Test.YtnmhhhnkjnhafaaGreatP4
import Derived.Handed
set_option linter.all false
set_option maxRecDepth 100000
set_option maxHeartbeats 16000000
namespace Go.GB.C18
open Go.GB Go.GB.C11
structure z5b (P:Program):Prop where
 mixed:P.follows .mixedOrders=true
 i23:zb P 23=some (n23,c23.bare,r23)
 i44:zb P 44=some (n44,c44.bare,r44)
 i78:zb P 78=some (n78,c78.bare,r78)
variable {P:Program}
mutual
def szV:Val->Int
 | .mk _ _ _ its _=>szL 1 its
def szL:Int->List Val->Int
 |n,[]=>n
 |n,x::r=>szL (IntKind.i64.wrap (n+szV x)) r
end
theorem z6x (v:Val):szV v=szL 1 v.items:=by cases v;rfl
def z4z (P:Program) (v:Val):Prop:=z9 P 78 [v.v] ⟨[],0⟩ {v:= .t (.int .i64 (szV v))}
theorem z8J (H:z5b P) (v:Val) (hv:v.Ok) (hrec:∀x,x∈v.items->z4z P x):z4z P v:=by
 have hil:=hv.il;unfold z4z;rw [z6x];refine z9.run H.i78 H.mixed Z Z ?_;refine fR Z ?_;refine zx v.items (fun i (n:Int)=>{env:=[(1,.ptr 0 0),(3,.t (.int .i64 n)),(4,.t (.int .i64 i))],s:=⟨[(0,((VCo v)))],1⟩}) (fun r i n=>szL 1 v.items=szL n r) 1 (1:Int) Z Z Z Z Z ?_ ?_
 ·rintro n hinv;rw [hinv];refine fR Z ?_;refine lM Z Z Z ?_;refine fM Z ?_;refine Run.zj Z Z (by simp) ?_;refine fR Z ?_;refine Run.fin Z (z5.go ?_);exact .t Z
 ·rintro i x r n h1 hi hd hinv ih;have hc:=hrec x (zMG h1);unfold z4z at hc;refine fR Z ?_;refine lM Z Z Z ?_;refine fM Z ?_;refine Run.zm Z Z (by simp;omega) ?_;refine fR Z ?_;refine Mid.Ze (Val.Zf x) Z Z Z h1 Z Z ?_;refine fM Z ?_;refine Mid.call (hc) Z Z Z Z ?_;refine p0 Z ?_;refine fM Z ?_;refine aL Z Z Z Z Z ?_;refine fM Z ?_;exact zk 1 Z (ih (IntKind.i64.wrap (n+szV x)) (by rw [hinv];simp only [szL])) Z Z Z
theorem z4r (H:z5b P):∀(k:Nat) (v:Val),SizeOf.sizeOf v<=k->v.Ok->z4z P v
 |0,v,h,_=>by cases v;simp at h
 |k+1,v,h,hv=>z8J H v hv fun x hx=>z4r H k x (by have:=Val.ZQ v hx;omega) (hv.it x hx)
theorem zbv (H:z5b P) (v:Val) (hv:v.Ok):z9 P 78 [v.v] ⟨[],0⟩ {v:= .t (.int .i64 (szV v))}:=z4r H _ v (Nat.le_refl _) hv
def z1n (most:Int):Int->List Arg->Int
 |n,[]=>n
 |n,a::r=>if n<=most then z1n most (IntKind.i64.wrap (n+szV a.val)) r else n
mutual
def zb1 (most n:Int):Sel->Int
 | .mk _ _ _ _ ar ds ss=>IntKind.i64.wrap (z1n most (IntKind.i64.wrap (IntKind.i64.wrap (IntKind.i64.wrap (n+1)+ar.length)+ds.length)) ar+wq (IntKind.i64.wrap (most - z1n most (IntKind.i64.wrap (IntKind.i64.wrap (IntKind.i64.wrap (n+1)+ar.length)+ds.length)) ar)) 0 ss)
def wq (most n:Int):List Sel->Int
 |[]=>n
 |x::r=>if n<=most then wq most (zb1 most n x) r else n
end
theorem zbq (most n:Int) (s:Sel):zb1 most n s=IntKind.i64.wrap (z1n most (IntKind.i64.wrap (IntKind.i64.wrap (IntKind.i64.wrap (n+1)+s.args.length)+s.zS.length)) s.args+wq (IntKind.i64.wrap (most - z1n most (IntKind.i64.wrap (IntKind.i64.wrap (IntKind.i64.wrap (n+1)+s.args.length)+s.zS.length)) s.args)) 0 s.z7):=by cases s;rfl
def z6r (P:Program) (l:List Sel):Prop:=∀most:Int,z9 P 44 [.t (.lst (l.map Sel.enc)),.t (.int .i64 most)] ⟨[],0⟩ {v:= .t (.int .i64 (wq most 0 l))}
theorem z5W (H:z5b P) (l:List Sel) (hll:l.length<=140737488355328) (hok:∀x,x∈l->x.Ok) (hrec:∀x,x∈l->z6r P x.z7):z6r P l:=by
 intro most;refine z9.run H.i44 H.mixed Z Z ?_;refine fR Z ?_;refine zx l (fun i (n:Int)=>{env:=[(0,.t (.lst (l.map Sel.enc))),(1,.t (.int .i64 most)),(5,.t (.int .i64 n)),(6,.t (.int .i64 i))],s:=⟨[],0⟩}) (fun r i n=>wq most 0 l=wq most n r) 0 (0:Int) Z Z Z Z Z ?_ ?_
 ·rintro n hinv;rw [hinv];refine fR Z ?_;refine lM Z Z Z ?_;refine fM Z ?_;refine Run.zj Z Z (by simp) ?_;refine fR Z ?_;refine Run.fin Z (z5.go ?_);exact .t Z
 ·rintro i x r n h1 hi hd hinv ih;have hx:=hok x (zMG h1);have hw:=hrec x (zMG h1);have hal:=hx.arl;have hdl:=hx.dl;refine fR Z ?_;refine lM Z Z Z ?_;refine fM Z ?_;by_cases hm:n<=most
  ·refine Run.zm Z Z (by simp [hm];omega) ?_;refine fR Z ?_;refine p0 Z ?_;refine fM Z ?_;refine Mid.Ze (Sel.Zf x) Z Z Z h1 Z Z ?_;refine fM Z ?_;refine lM Z Z Z ?_;refine p0 Z ?_;refine fM Z ?_;refine Mid.Ze (Sel.Zf x) Z Z Z h1 Z Z ?_;refine fM Z ?_;refine lM Z Z Z ?_;refine p0 Z ?_;refine fM Z ?_;have hsw:=zbq most n x;generalize hn1:IntKind.i64.wrap (IntKind.i64.wrap (IntKind.i64.wrap (n+1)+(x.args.length:Int))+(x.zS.length:Int))=n1 at hsw;refine zx x.args (fun j (q:Int)=>{env:=[(0,.t (.lst (l.map Sel.enc))),(1,.t (.int .i64 most)),(5,.t (.int .i64 q)),(6,.t (.int .i64 i)),(7,.t (.int .i64 j))],s:=⟨[],0⟩}) (fun ra j q=>z1n most n1 x.args=z1n most q ra) 0 n1 Z Z Z Z Z ?_ ?_
   ·rintro q hq;have hq':z1n most n1 x.args=q:=hq;rw [hq'] at hsw;refine fR Z ?_;refine Mid.Ze (Sel.Zf x) Z Z Z h1 Z Z ?_;refine fM Z ?_;refine lM Z Z Z ?_;refine fM Z ?_;refine Run.zj Z Z (by simp) ?_;refine fR Z ?_;refine Mid.Ze (Sel.Zf x) Z Z Z h1 Z Z ?_;refine fM Z ?_;refine p0 Z ?_;refine Mid.call (hw (IntKind.i64.wrap (most - q))) Z Z Z Z ?_;refine p0 Z ?_;refine fM Z ?_;refine aL Z Z Z Z Z ?_;refine fM Z ?_
    exact zk 0 Z (ih (zb1 most n x) (by rw [hinv];simp only [wq,if_pos hm])) Z Z Z (he:=(by repeat' (first |exact trivial|exact LeX.t|exact LeX.top|exact LeX.zp (zLB rfl) (zLB rfl)|exact LeX.Z2|exact LeX.Z3|exact LeX.same rfl|exact LeX.tEq (by simp[hsw])|exact LeX.ownEq (by simp[hsw]) (zLB rfl)|exact LeX.tEq (by congr 1<;>omega)|exact Or.inr ⟨zLB rfl,zLB rfl,rfl⟩|refine Or.inl ⟨zLB rfl,_,rfl,?_⟩|refine LeO.cells ?_|exact LeO.arr rfl|exact LeO.arr (by simp[hsw])|exact LeO.mE (by first |rfl|simp[hsw]) (by first |exact Or.inl rfl|exact Or.inr rfl)|exact LeO.cE (by first |rfl|simp[hsw])|exact za.cE (by first |rfl|simp[hsw])|refine LeO.map (by first |rfl|simp) ?_ (by first |exact Or.inl rfl|exact Or.inr rfl)|exact LeO.iter (by first |rfl|simp) (zLB rfl)|refine za.cons ?_ ?_|exact za.nil|refine And.intro ?_ ?_))) (hs:=(by repeat' (first |exact trivial|exact LeX.t|exact LeX.top|exact LeX.zp (zLB rfl) (zLB rfl)|exact LeX.Z2|exact LeX.Z3|exact LeX.same rfl|exact LeX.tEq (by simp[hsw])|exact LeX.ownEq (by simp[hsw]) (zLB rfl)|exact LeX.tEq (by congr 1<;>omega)|exact Or.inr ⟨zLB rfl,zLB rfl,rfl⟩|refine Or.inl ⟨zLB rfl,_,rfl,?_⟩|refine LeO.cells ?_|exact LeO.arr rfl|exact LeO.arr (by simp[hsw])|exact LeO.mE (by first |rfl|simp[hsw]) (by first |exact Or.inl rfl|exact Or.inr rfl)|exact LeO.cE (by first |rfl|simp[hsw])|exact za.cE (by first |rfl|simp[hsw])|refine LeO.map (by first |rfl|simp) ?_ (by first |exact Or.inl rfl|exact Or.inr rfl)|exact LeO.iter (by first |rfl|simp) (zLB rfl)|refine za.cons ?_ ?_|exact za.nil|refine And.intro ?_ ?_)))
   ·rintro j a ra q g1 gi gd gq ihq;have ha:=(hx.ar a (zMG g1)).1;refine fR Z ?_;refine Mid.Ze (Sel.Zf x) Z Z Z h1 Z Z ?_;refine fM Z ?_;refine lM Z Z Z ?_;refine fM Z ?_;by_cases hqm:q<=most
    ·refine Run.zm Z Z (by simp [hqm];omega) ?_;refine fR Z ?_;refine Mid.Ze (Sel.Zf x) Z Z Z h1 Z Z ?_;refine fM Z ?_;refine Mid.ze Z Z Z g1 Z Z ?_;refine fM Z ?_;refine Mid.call (zbv H a.val ha) Z Z Z Z ?_;refine p0 Z ?_;refine fM Z ?_;refine aL Z Z Z Z Z ?_;refine fM Z ?_;exact zk 0 Z (ihq (IntKind.i64.wrap (q+szV a.val)) (by rw [gq];simp only [z1n,if_pos hqm])) Z Z Z
    ·have hq':z1n most n1 x.args=q:=by rw [gq];simp only [z1n,if_neg hqm]
     rw [hq'] at hsw;refine Run.zj Z Z (by simp;omega) ?_;refine fR Z ?_;refine Mid.Ze (Sel.Zf x) Z Z Z h1 Z Z ?_;refine fM Z ?_;refine p0 Z ?_;refine Mid.call (hw (IntKind.i64.wrap (most - q))) Z Z Z Z ?_;refine p0 Z ?_;refine fM Z ?_;refine aL Z Z Z Z Z ?_;refine fM Z ?_
     exact zk 0 Z (ih (zb1 most n x) (by rw [hinv];simp only [wq,if_pos hm])) Z Z Z (he:=(by repeat' (first |exact trivial|exact LeX.t|exact LeX.top|exact LeX.zp (zLB rfl) (zLB rfl)|exact LeX.Z2|exact LeX.Z3|exact LeX.same rfl|exact LeX.tEq (by simp[hsw])|exact LeX.ownEq (by simp[hsw]) (zLB rfl)|exact LeX.tEq (by congr 1<;>omega)|exact Or.inr ⟨zLB rfl,zLB rfl,rfl⟩|refine Or.inl ⟨zLB rfl,_,rfl,?_⟩|refine LeO.cells ?_|exact LeO.arr rfl|exact LeO.arr (by simp[hsw])|exact LeO.mE (by first |rfl|simp[hsw]) (by first |exact Or.inl rfl|exact Or.inr rfl)|exact LeO.cE (by first |rfl|simp[hsw])|exact za.cE (by first |rfl|simp[hsw])|refine LeO.map (by first |rfl|simp) ?_ (by first |exact Or.inl rfl|exact Or.inr rfl)|exact LeO.iter (by first |rfl|simp) (zLB rfl)|refine za.cons ?_ ?_|exact za.nil|refine And.intro ?_ ?_))) (hs:=(by repeat' (first |exact trivial|exact LeX.t|exact LeX.top|exact LeX.zp (zLB rfl) (zLB rfl)|exact LeX.Z2|exact LeX.Z3|exact LeX.same rfl|exact LeX.tEq (by simp[hsw])|exact LeX.ownEq (by simp[hsw]) (zLB rfl)|exact LeX.tEq (by congr 1<;>omega)|exact Or.inr ⟨zLB rfl,zLB rfl,rfl⟩|refine Or.inl ⟨zLB rfl,_,rfl,?_⟩|refine LeO.cells ?_|exact LeO.arr rfl|exact LeO.arr (by simp[hsw])|exact LeO.mE (by first |rfl|simp[hsw]) (by first |exact Or.inl rfl|exact Or.inr rfl)|exact LeO.cE (by first |rfl|simp[hsw])|exact za.cE (by first |rfl|simp[hsw])|refine LeO.map (by first |rfl|simp) ?_ (by first |exact Or.inl rfl|exact Or.inr rfl)|exact LeO.iter (by first |rfl|simp) (zLB rfl)|refine za.cons ?_ ?_|exact za.nil|refine And.intro ?_ ?_)))
  ·refine Run.zj Z Z (by simp;omega) ?_;refine fR Z ?_;refine Run.fin Z (z5.go ?_);exact .t (by rw [hinv];simp only [wq,if_neg hm])
theorem z2x (H:z5b P):∀(k:Nat) (l:List Sel),SizeOf.sizeOf l<=k->l.length<=140737488355328->(∀x,x∈l->x.Ok)->z6r P l
 |0,l,h,_,_=>by cases l<;>simp at h
 |k+1,l,h,hl,ho=>z5W H l hl ho fun x hx=>z2x H k x.z7 (by have h1:=List.sizeOf_lt_of_mem hx;have h2:=Sel.zB x;omega) (by have:=(ho x hx).sl;omega) (ho x hx).s
theorem z1L (H:z5b P) (l:List Sel) (hl:l.length<=140737488355328) (ho:∀x,x∈l->x.Ok) (most:Int):z9 P 44 [.t (.lst (l.map Sel.enc)),.t (.int .i64 most)] ⟨[],0⟩ {v:= .t (.int .i64 (wq most 0 l))}:=z2x H _ l (Nat.le_refl _) hl ho most
def yN:Int->List Op->Int
 |n,[]=>n
 |n,x::r=>if n<=600 then yN (IntKind.i64.wrap (IntKind.i64.wrap (n+x.vars.length)+wq 600 0 x.z7)) r else n
def Qi:Int->List zA->Int
 |n,[]=>n
 |n,x::r=>if n<=600 then Qi (IntKind.i64.wrap (n+wq 600 0 x.z7)) r else n
def zdk (q:Query):Bool:=decide (Qi (yN ((q.ops.length+q.z8.length:Nat):Int) q.ops) q.z8>600)
theorem zcJ (H:z5b P) (q:Query) (hq:q.Ok):z9 P 23 [q.v] ⟨[],0⟩ {v:= .t (.bool (zdk q))}:=by
 have hol:=hq.ol;have hfl:=hq.fl;unfold zdk;refine z9.run H.i23 H.mixed Z Z ?_;refine fR Z ?_;refine lM Z Z Z ?_;refine fM Z ?_;refine lM Z Z Z ?_;refine aN Z Z Z ?_;refine fM Z ?_;refine zx q.ops (fun i (n:Int)=>{env:=[(1,.ptr 0 0),(3,.t (.int .i64 n)),(4,.t (.int .i64 i))],s:=⟨[(0,.cells [.t (.lst (q.ops.map Op.enc)),.t (.lst (q.z8.map zA.enc))])],1⟩}) (fun r i n=>yN ((q.ops.length+q.z8.length:Nat):Int) q.ops=yN n r) 1 ((q.ops.length+q.z8.length:Nat):Int) Z Z Z Z Z ?_ ?_
 ·rintro n hn0;have hn0:yN ((q.ops.length+q.z8.length:Nat):Int) q.ops=n:=hn0;refine fR Z ?_;refine lM Z Z Z ?_;refine fM Z ?_;refine Run.zj Z Z (by simp) ?_;refine fR Z ?_;refine zx q.z8 (fun i (n:Int)=>{env:=[(1,.ptr 0 0),(3,.t (.int .i64 n)),(5,.t (.int .i64 i))],s:=⟨[(0,.cells [.t (.lst (q.ops.map Op.enc)),.t (.lst (q.z8.map zA.enc))])],1⟩}) (fun r i n=>Qi (yN ((q.ops.length+q.z8.length:Nat):Int) q.ops) q.z8=Qi n r) 1 n Z (by rw [hn0]) Z Z Z ?_ ?_
  ·rintro n hinv;have e:Qi (yN ((q.ops.length+q.z8.length:Nat):Int) q.ops) q.z8=n:=hinv;rw [e];refine fR Z ?_;refine lM Z Z Z ?_;refine fM Z ?_;refine Run.zj Z Z (by simp) ?_;refine fR Z ?_;refine Run.fin Z (z5.go ?_);exact .t Z
  ·rintro i x r n h1 hi hd hinv ih;have hx:=hq.f x (zMG h1);have hxs:=hx.s.1;refine fR Z ?_;refine lM Z Z Z ?_;refine fM Z ?_;by_cases hm:n<=600
   ·refine Run.zm Z Z (by simp [hm];omega) ?_;refine fR Z ?_;refine Mid.ze Z Z Z h1 Z Z ?_;refine fM Z ?_;refine Mid.call (z1L H x.z7 (by omega) hx.s.2 600) Z Z Z Z ?_;refine p0 Z ?_;refine fM Z ?_;refine aL Z Z Z Z Z ?_;refine fM Z ?_;exact zk 1 Z (ih (IntKind.i64.wrap (n+wq 600 0 x.z7)) (by rw [hinv];simp only [Qi,if_pos hm])) Z Z Z
   ·have e:Qi (yN ((q.ops.length+q.z8.length:Nat):Int) q.ops) q.z8=n:=by rw [hinv];simp only [Qi,if_neg hm]
    rw [e];refine Run.zj Z Z (by simp;omega) ?_;refine fR Z ?_;refine Run.fin Z (z5.go ?_);exact .t Z
 ·rintro i x r n h1 hi hd hinv ih;have hx:=hq.o x (zMG h1);have hxv:=hx.vl;have hxs:=hx.s.1;refine fR Z ?_;refine lM Z Z Z ?_;refine fM Z ?_;by_cases hm:n<=600
  ·refine Run.zm Z Z (by simp [hm];omega) ?_;refine fR Z ?_;refine Mid.ze Z Z Z h1 Z Z ?_;refine fM Z ?_;refine lM Z Z Z ?_;refine p0 Z ?_;refine fM Z ?_;refine Mid.ze Z Z Z h1 Z Z ?_;refine fM Z ?_;refine Mid.call (z1L H x.z7 (by omega) hx.s.2 600) Z Z Z Z ?_;refine p0 Z ?_;refine fM Z ?_;refine aL Z Z Z Z Z ?_;refine fM Z ?_;exact zk 1 Z (ih (IntKind.i64.wrap (IntKind.i64.wrap (n+x.vars.length)+wq 600 0 x.z7)) (by rw [hinv];simp only [yN,if_pos hm])) Z Z Z
  ·have hn0:yN ((q.ops.length+q.z8.length:Nat):Int) q.ops=n:=by rw [hinv];simp only [yN,if_neg hm]
   refine Run.zj Z Z (by simp;omega) ?_;refine fR Z ?_;refine zx q.z8 (fun i (n:Int)=>{env:=[(1,.ptr 0 0),(3,.t (.int .i64 n)),(5,.t (.int .i64 i))],s:=⟨[(0,.cells [.t (.lst (q.ops.map Op.enc)),.t (.lst (q.z8.map zA.enc))])],1⟩}) (fun r i n=>Qi (yN ((q.ops.length+q.z8.length:Nat):Int) q.ops) q.z8=Qi n r) 1 n Z (by rw [hn0]) Z Z Z ?_ ?_
   ·rintro n hinv;have e:Qi (yN ((q.ops.length+q.z8.length:Nat):Int) q.ops) q.z8=n:=hinv;rw [e];refine fR Z ?_;refine lM Z Z Z ?_;refine fM Z ?_;refine Run.zj Z Z (by simp) ?_;refine fR Z ?_;refine Run.fin Z (z5.go ?_);exact .t Z
   ·rintro i x r n h1 hi hd hinv ih;have hx:=hq.f x (zMG h1);have hxs:=hx.s.1;refine fR Z ?_;refine lM Z Z Z ?_;refine fM Z ?_;by_cases hm:n<=600
    ·refine Run.zm Z Z (by simp [hm];omega) ?_;refine fR Z ?_;refine Mid.ze Z Z Z h1 Z Z ?_;refine fM Z ?_;refine Mid.call (z1L H x.z7 (by omega) hx.s.2 600) Z Z Z Z ?_;refine p0 Z ?_;refine fM Z ?_;refine aL Z Z Z Z Z ?_;refine fM Z ?_;exact zk 1 Z (ih (IntKind.i64.wrap (n+wq 600 0 x.z7)) (by rw [hinv];simp only [Qi,if_pos hm])) Z Z Z
    ·have e:Qi (yN ((q.ops.length+q.z8.length:Nat):Int) q.ops) q.z8=n:=by rw [hinv];simp only [Qi,if_neg hm]
     rw [e];refine Run.zj Z Z (by simp;omega) ?_;refine fR Z ?_;refine Run.fin Z (z5.go ?_);exact .t Z
end Go.GB.C18
namespace Go.GB
section
variable {P:Program} {n m:Nat} {R:St->Prop} {draw:Bool} {all:List AO} {after:List (List Nat)} {live:List Nat} {k:List It} {b b':Nat} {fl:List (Bool×Bool)} {ops:List AO} {st st':St} {d:Option Nat}
end
theorem LeZ.zc1 {s:S} {m m' k off:Nat} {cs:List V} {ts:List T} (hk:m<=k) (hs:zi s.sto k=some (.cells cs)) (hts:(cs.drop off).mapM V.zy=some ts):LeZ s m m' (.ptr k off) (.t (.ptr ts)):=by
 intro Λ v hm hr hv
 cases hv with
 |@ptr b _ _ hkn hlab=>
  obtain ⟨_,b',arr,e,h1,h2,h3,h4⟩:=hr.sto k _ hs;obtain rfl:=hr.inj b b' k hlab h1;obtain ⟨k1,k2⟩:=z1D _ ts hts
  have hlab':(Λ.cut m m').lab b= .fix none:=by simp [L.cut,hlab];omega
  have hat:∀(j:Nat) (x:T),ts[j]?=some x->∃c,cs[off+j]?=some c/\c.zy=some x/\off+j<arr.size:=fun j x hj=>by
   have hjl:j<ts.length:=(List.getElem?_eq_some_iff.1 hj).1;rw [←k1,List.length_drop] at hjl
   have hc:(cs.drop off)[j]?=some (cs[off+j]'(by omega)):=by
    rw [List.getElem?_drop,List.getElem?_eq_getElem (by omega)]
   exact ⟨cs[off+j]'(by omega),List.getElem?_eq_getElem (by omega),k2 j _ x hc hj,by omega⟩
  refine .t (.ptr ts b off (fun j=>arr.getD (off+j) undef) (fun j x _=>by simp [Rd,hlab']) (fun j x hj=>?_) (fun j x hj=>?_))
  ·obtain ⟨c,_,_,hl⟩:=hat j x hj;show Λ.w.cell? _=_;simp [World.cell?,h2,hl]
  ·obtain ⟨c,hc,hc1,hl⟩:=hat j x hj
   have hv:arr[off+j]?=some (arr.getD (off+j) undef):=by simp [hl]
   exact ((h4 (off+j) _ c hv hc).zy hc1).cut
def zE (l:List Str):List (List T×V):=l.map fun s=>([T.str s],V.agg [])
theorem z67:z6F [.str] (fun s:Str=>[T.str s]):=⟨fun _=>rfl,fun x y h=>by simpa [ZL,T.eqb] using h,fun x=>by simp [ZL,T.eqb]⟩
theorem z7v (s:Str):∀(l:List Str),z19 [.str s] (zE l)=if s∈l then some (.agg []) else none
 |[]=>by simp [zE,z19]
 |a::r=>by
  have:=z7v s r;simp only [zE] at this;simp only [zE,List.map_cons,z19,z67.iff,decide_eq_true_eq,this,List.mem_cons];by_cases h:s=a
  ·simp [h]
  ·simp [h]
theorem z7B (s:Str):∀(l:List Str),¬ s∈l->z26 [.str s] (.agg []) (zE l)=zE (l++[s])
 |[],_=>rfl
 |a::r,h=>by
  have hr:=z7B s r (fun h'=>h (List.mem_cons_of_mem _ h'));have ha:¬ s=a:=fun e=>h (by rw [e];exact List.mem_cons_self);simp only [zE] at hr;simp only [zE,List.map_cons,List.cons_append,z26,z67.iff,decide_eq_true_eq,if_neg ha,hr]
theorem z2C (l:List Str):yj [.str] (zE l)=true:=by simp [yj,zE,z67.ok]
theorem V.zL (m:Nat):∀l:List Str,V.bds m ((zE l).map (·.2))=true
 |[]=>rfl
 |a::r=>by have:=V.zL m r;simp only [zE,List.map_map] at this;simp [zE,V.bds,V.bd,this]
theorem z3.zN (ρ:Nat->Nat) (kag:Bool) (l:List Str) (sx:Option (Nat×List Nat)):(z3.map kag (zE l) sx).ren ρ= .map kag (zE l) sx:=by
 simp [z3.ren,zE,V.ren,V.qk,Function.comp_def]
theorem za.zE {m m':Nat} {l l':List Str} (h:l=l'):za m m' ((zE l).map (·.2)) ((zE l').map (·.2)):=by
 subst h
 induction l with
 |nil=>exact .nil
 |cons a r ih=>exact .cons (.same rfl) ih
theorem LeO.zE {m m':Nat} {a:Bool} {l l':List Str} {st st':Option (Nat×List Nat)} (h:l=l') (hs:st'=none∨st'=st):LeO m m' (.map a (Go.GB.zE l) st) (.map a (Go.GB.zE l') st'):=
 .map (by rw [h]) (za.zE h) hs
section
variable {P:Program} {n m:Nat} {R:St->Prop}
variable {draw:Bool} {all:List AO} {after:List (List Nat)} {live:List Nat} {k:List It} {b:Nat} {fl:List (Bool×Bool)} {ops:List AO} {st st':St} {d:Option Nat} {b':Nat}
variable {l:List Str} {sx:Option (Nat×List Nat)} {zv:V} {q:Nat} {x y zz:Ar} {s:Str}
theorem Mid.zdQ (hx:rd true st x=(.mp q,[])) (hq:zi st.s.sto q=some (.map false (zE l) sx)) (hk:rd true st y=(.t (.str s),[])) (hz:zv= .agg [])
  (hs:Z9 st d (.tup [.agg [],.t (.bool (decide (s∈l)))]) some=some st')
  (h':Mid P n m R draw all after live k b ((true,false)::fl) ops st'):Mid P n m R draw all after live k b fl (⟨d,none,.nw (.lookup [.str] false zv true x y)⟩::ops) st:=by
 subst hz;refine Mid.zej (v:= .tup [.agg [],.t (.bool (decide (s∈l)))]) (ps:=[true,true]) ?_ (z8m hx) ⟨rfl,rfl,trivial⟩ hs h';have hc:wL [.str] false (.t (.str s))=some [.str s]:=rfl;simp only [zg,Zl,hx,hk,hc,hq,z7v,z2C]
 by_cases h:s∈l<;>simp [h,okV]
theorem Mid.zea (hx:x.u st= .mp q) (hq:zi st.s.sto q=some (.map false (zE l) sx)) (hk:y.u st= .t (.str s)) (hw:zz.u st= .agg []) (hn:¬ s∈l)
  (hst:Wa b st d {v:= .top,ob:=[(q,.map false (zE (l++[s])) none)],rd:=true} (fun b' st'=>some (b',st'))=some (b',st'))
  (h':Mid P n m R draw all after live k b' ((true,true)::fl) ops st'):Mid P n m R draw all after live k b fl (⟨d,none,.nw (.z9S [.str] false x y zz)⟩::ops) st:=by
 refine Mid.opX Z ?_;simp only [Y6,Option.some.injEq,Prod.mk.injEq] at hst;obtain ⟨rfl,rfl⟩:=hst;have hc:wL [.str] false (.t (.str s))=some [.str s]:=rfl;simp only [evX,ZE,hx,hk,hc,hq,hw,z7B s l hn];exact ⟨⟨trivial,z2C l⟩,h'⟩
theorem Mid.zdc {kag vag:Bool} (hst:Wa b st d {v:= .mp b,ob:=[(b,.map kag (zE []) (some (0,[])))],n:=1} (fun b' st'=>some (b',st'))=some (b',st'))
  (h':Mid P n m R draw all after live k b' ((false,true)::fl) ops st'):Mid P n m R draw all after live k b fl (⟨d,none,.z0u kag vag⟩::ops) st:=by
 refine Mid.opX Z ?_;simp only [Y6,Option.some.injEq,Prod.mk.injEq] at hst;obtain ⟨rfl,rfl⟩:=hst;simp only [evX];exact h'
variable {ks:List KSh} {cs:List T} {es fs:List (List T×V)}
theorem Mid.z8R (hx:x.u st= .mp q) (hk:wL ks true (y.u st)=some cs) (hq:zi st.s.sto q=some (.map true es sx)) (hg:z5B ks cs es=some none)
  (hst:Wa b st d {v:= .tup [zv,.t (.bool false)],rd:=true} (fun b' st'=>some (b',st'))=some (b',st'))
  (h':Mid P n m R draw all after live k b' ((true,false)::fl) ops st'):Mid P n m R draw all after live k b fl (⟨d,none,.nw (.z2j ks zv x y)⟩::ops) st:=by
 refine Mid.opX Z ?_;simp only [Y6,Option.some.injEq,Prod.mk.injEq] at hst;obtain ⟨rfl,rfl⟩:=hst;simp only [evX,ZE,hx,hk,hq,hg];exact h'
theorem Mid.zae (hx:x.u st= .mp q) (hk:wL ks true (y.u st)=some cs) (hq:zi st.s.sto q=some (.map true es sx)) (hg:z6y ks cs (zz.u st) es=some fs)
  (hst:Wa b st d {v:= .top,ob:=[(q,.map true fs none)],rd:=true} (fun b' st'=>some (b',st'))=some (b',st'))
  (h':Mid P n m R draw all after live k b' ((true,true)::fl) ops st'):Mid P n m R draw all after live k b fl (⟨d,none,.nw (.z83 ks x y zz)⟩::ops) st:=by
 refine Mid.opX Z ?_;simp only [Y6,Option.some.injEq,Prod.mk.injEq] at hst;obtain ⟨rfl,rfl⟩:=hst;simp only [evX,ZE,hx,hk,hq,hg];exact h'
theorem Mid.z9y {α:Type} {f:α->List T} {l:List α} {sz:Nat} {x lo:Ar} {v:V} {kd:IntKind} {j sl:Nat} {want gc:Bool} {p1 p2:List Bool} (hg:yB want (look st.env sl)=some gc) (hx:rd gc st x=(v,p1)) (hv:v.zy=some (.lst (l.map f))) (hh:rd gc st lo=(.t (.int kd j),p2)) (hj:j<=l.length) (hsz:∀x,(f x).length=sz)
  (hp1:Zg (p1.map fun p=>!gc||p)) (hp2:Zg (p2.map fun p=>!gc||p)) (hs:Z9 st d (.gd gc (.t (.lst ((l.drop j).map f)))) some=some st')
  (h':Mid P n m R draw all after live k b ((false,false)::fl) ops st'):Mid P n m R draw all after live k b fl (⟨d,some (sl,want),.sll sz x (some lo) none⟩::ops) st:=
 Mid.z8F (v:= .t (.lst ((l.drop j).map f))) (ps:=p1++(p2++([]++[true,true,true,true]))) hg (by simp only [zg,hx,hv,bnd,hh];simp [hj,ye,hsz,List.take_of_length_le]) (Y2 hx hv) (by simp only [List.map_append,wX];exact ⟨hp1,hp2,trivial,by simp [Zg]⟩) hs h'
theorem Mid.Q8 {f:FuncId} {caps:List (Nat×Nat)} {y':Ar} {args:List Ar} {vs va:List V} {s1:List (Nat×z3)} {m1:Nat} {v:V} (r:List Nat) (hf:y'.u st= .fn f caps) (h:z9 P f vs ⟨s1,m1⟩ {v:=v,rd:=true}) (hr:(WL r&&(r.all (fun k=>Nat.blt k b))&&Nat.beq r.length m1)=true)
  (hv:z0o st args some=some va) (hvs:V.qk (zt r b) vs=va++Wy caps) (hb:V.bds m1 vs=true) (hs1:zG m1 s1=true) (hsub:z8A (zt r b) st.s.sto s1 m1)
  (hst:Z9 st d (v.ren (zt r b)) some=some st')
  (h':Mid P n m R draw all after live k b ((true,false)::fl) ops st'):Mid P n m R draw all after live k b fl (⟨d,none,.Qo y' args⟩::ops) st:=by
 simp only [Bool.and_eq_true] at hr;obtain ⟨⟨hr1,hr2⟩,hr3⟩:=hr;have hm:r.length=m1:=Nat.eq_of_beq_eq_true hr3;subst hm;rw [qf] at hv;simp at hv;refine Mid.opX Z ?_;simp only [evX,hf];refine Wr.le ((qE.pure _).app .rfl) ?_;rw [hv,←hvs];have hrn:=zah (n:=0) hr1 hr2;have:=z9.ren hrn h hb hs1 (fun j hj=>z0L hsub j hj) (by simp);simp only [Z9,V.force_eq,ZA,St.ZX,Option.some.injEq] at hst
 have e:st'=st.app d {v:=v.ren (zt r b),rd:=true}:=by rw [←hst];cases d<;>rfl
 rw [e] at h'
 exact ⟨{v:=v.ren (zt r b),rd:=true},by simp only [if_true];exact this,h'⟩
end
section
variable {P:Program} {n m:Nat} {R:St->Prop}
end
end Go.GB
namespace Go.GB.C15
open Go.GB Go.GB.C11
structure yx (P:Program):Prop where
 p13:ZU P
 pR:C29.PrR P
 pW:C29.PrW P
 p43:C43.Pr P
 p18:C18.z5b P
 mixed:P.follows .mixedOrders=true
 i5:zb P 5=some (n5,c5.bare,r5)
 i7:zb P 7=some (n7,c7.bare,r7)
 i8:zb P 8=some (n8,c8.bare,r8)
 i11:zb P 11=some (n11,c11.bare,r11)
 i14:zb P 14=some (n14,c14.bare,r14)
 i18:zb P 18=some (n18,c18.bare,r18)
 i29:zb P 29=some (n29,c29.bare,r29)
 i30:zb P 30=some (n30,c30.bare,r30)
 i33:zb P 33=some (n33,c33.bare,r33)
 i62:zb P 62=some (n62,c62.bare,r62)
 i63:zb P 63=some (n63,c63.bare,r63)
 i64:zb P 64=some (n64,c64.bare,r64)
 i65:zb P 65=some (n65,c65.bare,r65)
 i66:zb P 66=some (n66,c66.bare,r66)
 i67:zb P 67=some (n67,c67.bare,r67)
 i69:zb P 69=some (n69,c69.bare,r69)
 i102:zb P 102=some (n102,c102.bare,r102)
 i103:zb P 103=some (n103,c103.bare,r103)
 i107:zb P 107=some (n107,c107.bare,r107)
 i108:zb P 108=some (n108,c108.bare,r108)
 i110:zb P 110=some (n110,c110.bare,r110)
 i125:zb P 125=some (n125,c125.bare,r125)
 i128:zb P 128=some (n128,c128.bare,r128)
 i129:zb P 129=some (n129,c129.bare,r129)
 i135:zb P 135=some (n135,c135.bare,r135)
variable {P:Program} {es:List (List T×Int)} {sx:Option (Nat×List Nat)}
def kI (k:List T):List T:=k
def iV (z:Int):T:= .int .i64 z
theorem V.zK (m:Nat) (es:List (List T×Int)):V.bds m ((mE kI iV es).map (·.2))=true:=by
 have:=V.z6e m (fun e:List T×Int=>iV e.2) es;simp only [cE] at this;simp only [mE,List.map_map,Function.comp_def];exact this
theorem z3O (H:yx P) (s:Sel):z9 P 64 [.t (.ptr s.cs)] ⟨[],0⟩ {v:= .t (.str (Z7 s))}:=by
 refine z9.run H.i64 H.mixed Z Z ?_;refine fR Z ?_;refine Run.cond Z Z (fun h=>?_) (fun h=>?_)
 ·refine fR Z ?_
  have h':¬ s.ali=[]:=by simpa using h
  refine Run.fin Z (z5.go ?_);exact .t (by unfold Z7;rw [if_neg h'])
 ·refine fR Z ?_
  have h':s.ali=[]:=by simpa using h
  refine Run.fin Z (z5.go ?_);exact .t (by unfold Z7;rw [if_pos h'])
def z0a (n:Str) (l:List zA):List Sel:=((zd n l).map (·.z7)).getD []
theorem z5F (n:Str) (f:zA) (r:List zA):z0a n (f::r)=if (f.name==n)=true then f.z7 else z0a n r:=by
 unfold z0a;simp only [zd];split<;>rfl
theorem zc0 (H:yx P) (ds:List Def) (q:Query) (hq:q.Ok) (nm:Str):z9 P 125 [.ptr 0 0,.t (.str nm)] ⟨[(0,.cells [.t (.lst (ds.map Def.enc)),.t (.lst (q.ops.map Op.enc)),.t (.lst (q.z8.map zA.enc)),.mp 1]),(1,.map true (mE kI iV es) sx)],2⟩ {v:= .t (.lst ((z0a nm q.z8).map Sel.enc)),rd:=true}:=by
 have hfl:=hq.fl;refine z9.run H.i125 H.mixed Z Z ?_;refine fR Z ?_;refine lM Z Z Z ?_;refine fM Z ?_;refine zx q.z8 (fun i (_:Unit)=>{env:=[(0,.ptr 0 0),(1,.t (.str nm)),(11,.t (.int .i64 q.z8.length)),(12,.t (.int .i64 i))],s:=⟨[(0,.cells [.t (.lst (ds.map Def.enc)),.t (.lst (q.ops.map Op.enc)),.t (.lst (q.z8.map zA.enc)),.mp 1]),(1,.map true (mE kI iV es) sx)],2⟩}) (fun r i _=>z0a nm q.z8=z0a nm r) 2 () Z Z Z Z Z ?_ ?_
 ·intro _ hinv;refine fR Z ?_;refine Run.zj Z Z (by simp) ?_;refine fR Z ?_;refine Run.fin Z (z5.wA Z Z Z (by simp [zG];simp [z3.bd,V.bds,V.bd,V.zL,V.zK]) (.nil (by rw [hinv];rfl)))
 ·intro i x r _ h1 hi hd hinv ih;rw [z5F] at hinv;refine fR Z ?_;refine Run.zm Z Z (by simp;omega) ?_;refine fR Z ?_;refine Mid.ze Z Z Z h1 Z Z ?_;refine fM Z ?_;refine Run.cond Z Z (fun hc=>?_) (fun hc=>?_)
  ·have h':(x.name==nm)=true:=by simpa using hc
   rw [if_pos h'] at hinv;refine fR Z ?_;refine Mid.ze Z Z Z h1 Z Z ?_;refine fM Z ?_;refine Run.fin Z (z5.wA Z Z Z (by simp [zG];simp [z3.bd,V.bds,V.bd,V.zL,V.zK]) (.t (by rw [hinv])))
  ·have h':¬ (x.name==nm)=true:=by simpa using hc
   rw [if_neg h'] at hinv;refine fR Z ?_;refine aL Z Z Z Z Z ?_;refine fM Z ?_;exact zk 2 Z (ih () hinv) Z Z Z
def Zx (p:Str×Sel):List T:=[.str p.1,.ptr p.2.cs]
def ZP (q:Query):Nat->List Sel->Str->List Str×List (Str×Sel)->List Str×List (Str×Sel)
 |_,[],_,B=>B
 |n,s::r,on,B=>
  if s.kind=3 then ZP q n r on (ZP q n s.z7 (if s.on=[] then on else s.on) B)
  else if s.kind=2 then
   match zd s.name q.z8 with
   |none=>ZP q n r on B
   |some f=>
    if s.name∈B.1 then ZP q n r on B
    else match n with
     |0=>B
     |n'+1=>ZP q (n'+1) r on (ZP q n' f.z7 f.on (B.1++[s.name],B.2))
  else ZP q n r on (B.1,B.2++[(on,s)])
termination_by n l=>(n,SizeOf.sizeOf l)
decreasing_by
 all_goals first
  |(apply Prod.Lex.right;simp only [List.cons.sizeOf_spec];have:=Sel.zB s;omega)
  |(apply Prod.Lex.left;omega)
theorem YG (q:Query) (n:Nat) (on:Str) (B:List Str×List (Str×Sel)):ZP q n [] on B=B:=by rw [ZP]
section
variable {q:Query} {n:Nat} {s:Sel} {r:List Sel} {on:Str} {B:List Str×List (Str×Sel)} {f:zA}
theorem WY (h:s.kind=3):ZP q n (s::r) on B=ZP q n r on (ZP q n s.z7 (if s.on=[] then on else s.on) B):=by rw [ZP,if_pos h]
theorem w7 (h3:¬ s.kind=3) (h2:¬ s.kind=2):ZP q n (s::r) on B=ZP q n r on (B.1,B.2++[(on,s)]):=by rw [ZP,if_neg h3,if_neg h2]
theorem QX (h:s.kind=2) (hf:zd s.name q.z8=none):ZP q n (s::r) on B=ZP q n r on B:=by
 rw [ZP,if_neg (by omega),if_pos h,hf]
theorem z3l (h:s.kind=2) (hf:zd s.name q.z8=some f) (hi:s.name∈B.1):ZP q n (s::r) on B=ZP q n r on B:=by
 rw [ZP,if_neg (by omega),if_pos h,hf];simp only;rw [if_pos hi]
theorem z1c (h:s.kind=2) (hf:zd s.name q.z8=some f) (hi:¬ s.name∈B.1):ZP q (n+1) (s::r) on B=ZP q (n+1) r on (ZP q n f.z7 f.on (B.1++[s.name],B.2)):=by
 rw [ZP,if_neg (by omega),if_pos h,hf];simp only;rw [if_neg hi]
end
theorem y5 (q:Query):∀(n:Nat) (l:List Sel) (on:Str) (B:List Str×List (Str×Sel)),WOk q n B.1->WOk q n (ZP q n l on B).1/\B.2.length<=(ZP q n l on B).2.length
 |n,[],on,B,h=>by rw [YG];exact ⟨h,Nat.le_refl _⟩
 |n,s::r,on,B,h=>by
  by_cases h3:s.kind=3
  ·rw [WY h3];have h1:=y5 q n s.z7 (if s.on=[] then on else s.on) B h;have h2:=y5 q n r on (ZP q n s.z7 (if s.on=[] then on else s.on) B) h1.1;exact ⟨h2.1,Nat.le_trans h1.2 h2.2⟩
  ·by_cases hk:s.kind=2
   ·cases hf:zd s.name q.z8 with
    |none=>rw [QX hk hf];exact y5 q n r on B h
    |some f=>
     by_cases hi:s.name∈B.1
     ·rw [z3l hk hf hi];exact y5 q n r on B h
     ·match n,h.pos hf hi with
      |n'+1,_=>
       rw [z1c hk hf hi];have h1:=y5 q n' f.z7 f.on (B.1++[s.name],B.2) (h.add hf hi)
       have h2:=y5 q (n'+1) r on (ZP q n' f.z7 f.on (B.1++[s.name],B.2)) ⟨by have:=h1.1.n;omega,h1.1.l⟩
       exact ⟨h2.1,Nat.le_trans h1.2 h2.2⟩
      |0,e=>exact absurd e.choose_spec (by omega)
   ·rw [w7 h3 hk];have h2:=y5 q n r on (B.1,B.2++[(on,s)]) h;exact ⟨h2.1,Nat.le_trans (by simp) h2.2⟩
termination_by n l=>(n,SizeOf.sizeOf l)
decreasing_by
 all_goals first
  |(apply Prod.Lex.right;simp only [List.cons.sizeOf_spec];have:=Sel.zB s;omega)
  |(apply Prod.Lex.left;omega)
def z3M (P:Program) (es:List (List T×Int)) (sx:Option (Nat×List Nat)) (ds:List Def) (q:Query) (n:Nat) (l:List Sel) (on:Str) (B:List Str×List (Str×Sel)):Prop:=
 z9 P 102 [.ptr 0 0,.t (.lst (l.map Sel.enc)),.t (.str on),.mp 2,.own 3 2 (B.2.map Zx)] ⟨[(0,.cells [.t (.lst (ds.map Def.enc)),.t (.lst (q.ops.map Op.enc)),.t (.lst (q.z8.map zA.enc)),.mp 1]),(1,.map true (mE kI iV es) sx),(2,.map false (zE B.1) none),(3,.arr B.2.length)],4⟩
  {v:= .own 3 2 ((ZP q n l on B).2.map Zx),ob:=[(2,.map false (zE (ZP q n l on B).1) none),(3,.arr (ZP q n l on B).2.length)],rd:=true}
theorem z9M (H:yx P) (ds:List Def) (q:Query) (hq:q.Ok) (n:Nat) (l:List Sel) (on:Str) (B:List Str×List (Str×Sel)) (hl:zU l) (hw:WOk q n B.1) (hm:(ZP q n l on B).2.length<=1099511627776)
  (ih:∀n' l' on' B',(n'<n∨n'=n/\SizeOf.sizeOf l'<SizeOf.sizeOf l)->zU l'->WOk q n' B'.1->(ZP q n' l' on' B').2.length<=1099511627776->z3M P es sx ds q n' l' on' B'):z3M P es sx ds q n l on B:=by
 have hfl:=hq.fl;have hll:=hl.1;unfold z3M;generalize hW:ZP q n l on B=W at hm;refine z9.run H.i102 H.mixed Z Z ?_;refine fR Z ?_;refine lM Z Z Z ?_;refine fM Z ?_;refine zx l (fun i (B:List Str×List (Str×Sel))=>{env:=[(0,.ptr 0 0),(1,.t (.lst (l.map Sel.enc))),(2,.t (.str on)),(3,.mp 2),(4,.own 3 2 (B.2.map Zx)),(19,.t (.int .i64 l.length)),(20,.t (.int .i64 i))],s:=⟨[(0,.cells [.t (.lst (ds.map Def.enc)),.t (.lst (q.ops.map Op.enc)),.t (.lst (q.z8.map zA.enc)),.mp 1]),(1,.map true (mE kI iV es) sx),(2,.map false (zE B.1) none),(3,.arr B.2.length)],4⟩}) (fun r i B=>WOk q n B.1/\W=ZP q n r on B) 4 B Z ⟨hw,hW.symm⟩ Z Z Z ?_ ?_ (he:=leEA) (hs:=leSA)
 ·rintro B ⟨hB,hinv⟩;rw [YG] at hinv;subst hinv;refine fR Z ?_;refine Run.zj Z Z (by simp) ?_;refine fR Z ?_;refine Run.fin Z (z5.chg Z Z ?_ ?_)
  ·exact .le (.same Z)
  ·exact leSA
 ·rintro i x r B h1 hi hd ⟨hB,hinv⟩ ihl;dsimp only at hB hinv ihl⊢;have hxm:x∈l:=zMG h1;have hx:=hl.2 x hxm;have hBl:=hB.l;have hsz:SizeOf.sizeOf x.z7<SizeOf.sizeOf l:=Nat.lt_trans (Sel.zB x) (List.sizeOf_lt_of_mem hxm);have hmB:=(y5 q n (x::r) on B hB).2;rw [←hinv] at hmB;refine fR Z ?_;refine Run.zm Z Z (by simp;omega) ?_;refine fR Z ?_;refine Mid.Ze (Sel.Zf x) Z Z Z h1 Z Z ?_;refine fM Z ?_;refine Run.cond Z Z (fun h3=>?_) (fun h3=>?_)
  ·have h3':x.kind=3:=by simpa using h3
   rw [WY h3'] at hinv;refine fR Z ?_;refine Run.cond Z Z (fun ho=>?_) (fun ho=>?_)
   ·have ho':¬ x.on=[]:=by simpa using ho
    rw [if_neg ho'] at hinv;have hV0:=y5 q n x.z7 x.on B hB;generalize hV:ZP q n x.z7 x.on B=U at hinv hV0;have hV2:=(y5 q n r on U hV0.1).2;rw [←hinv] at hV2;have hcall:=ih n x.z7 x.on B (.inr ⟨rfl,hsz⟩) (zU.sub hx) hB (by rw [hV];omega);unfold z3M at hcall;rw [hV] at hcall;refine fR Z ?_
    refine Mid.yD [0,1,2,3] (hcall) Z Z Z Z (by simp [zG];simp [z3.bd,V.bds,V.bd,V.zL,V.zK]) (by repeat' (first |exact trivial|exact rfl|refine And.intro ?_ ?_|exact (congrArg some (z3.zF _ _ _ _ _ _)).symm|exact (congrArg some (z3.zN _ _ _ _)).symm|exact (congrArg some (z3.ren_cE _ _ _)).symm|(refine (congrArg some (z3.ren_gE ?_ _ _)).symm;intro _;rfl))) Z Z (ob':=[(2,.map false (zE U.1) none),(3,.arr U.2.length)]) ((by simp only [wx,List.map_cons,List.map_nil,z3.zN];rfl)) Z Z ?_
    refine fM Z ?_;refine aL Z Z Z Z Z ?_;refine fM Z ?_;exact zk 4 Z (ihl U ⟨hV0.1,hinv⟩) Z Z Z (he:=leEA) (hs:=leSA)
   ·have ho':x.on=[]:=by simpa using ho
    rw [if_pos ho'] at hinv;have hV0:=y5 q n x.z7 on B hB;generalize hV:ZP q n x.z7 on B=U at hinv hV0;have hV2:=(y5 q n r on U hV0.1).2;rw [←hinv] at hV2;have hcall:=ih n x.z7 on B (.inr ⟨rfl,hsz⟩) (zU.sub hx) hB (by rw [hV];omega);unfold z3M at hcall;rw [hV] at hcall;refine fR Z ?_
    refine Mid.yD [0,1,2,3] (hcall) Z Z Z Z (by simp [zG];simp [z3.bd,V.bds,V.bd,V.zL,V.zK]) (by repeat' (first |exact trivial|exact rfl|refine And.intro ?_ ?_|exact (congrArg some (z3.zF _ _ _ _ _ _)).symm|exact (congrArg some (z3.zN _ _ _ _)).symm|exact (congrArg some (z3.ren_cE _ _ _)).symm|(refine (congrArg some (z3.ren_gE ?_ _ _)).symm;intro _;rfl))) Z Z (ob':=[(2,.map false (zE U.1) none),(3,.arr U.2.length)]) ((by simp only [wx,List.map_cons,List.map_nil,z3.zN];rfl)) Z Z ?_
    refine fM Z ?_;refine aL Z Z Z Z Z ?_;refine fM Z ?_;exact zk 4 Z (ihl U ⟨hV0.1,hinv⟩) Z Z Z (he:=leEA) (hs:=leSA)
  ·have h3':¬ x.kind=3:=by simpa using h3
   refine fR Z ?_;refine Run.cond Z Z (fun hk=>?_) (fun hk=>?_)
   ·have hk':x.kind=2:=by simpa using hk
    refine fR Z ?_;refine Mid.call (zay H.p13 q hq x.name) Z Z Z Z ?_;refine fM Z ?_;refine Mid.zdQ Z Z Z Z Z ?_;refine fM Z ?_
    cases hf:zd x.name q.z8 with
    |none=>
     rw [QX hk' hf] at hinv;refine Run.zm Z Z Z ?_;refine fR Z ?_;refine aL Z Z Z Z Z ?_;refine fM Z ?_;exact zk 4 Z (ihl B ⟨hB,hinv⟩) Z Z Z (he:=leEA) (hs:=leSA)
    |some f=>
     refine Run.cond Z Z (fun hi=>?_) (fun hi=>?_)
     ·have hi':x.name∈B.1:=by simpa using hi
      rw [z3l hk' hf hi'] at hinv;refine fR Z ?_;refine aL Z Z Z Z Z ?_;refine fM Z ?_;exact zk 4 Z (ihl B ⟨hB,hinv⟩) Z Z Z (he:=leEA) (hs:=leSA)
     ·have hi':¬ x.name∈B.1:=by simpa using hi
      obtain ⟨n',rfl⟩:=hB.pos hf hi';rw [z1c hk' hf hi'] at hinv;have hfn:=ZM hf;have hadd:=hB.add hf hi';have hV0:=y5 q n' f.z7 f.on (B.1++[x.name],B.2) hadd;generalize hV:ZP q n' f.z7 f.on (B.1++[x.name],B.2)=U at hinv hV0
      have hV1:WOk q (n'+1) U.1:=⟨by have:=hV0.1.n;omega,hV0.1.l⟩
      have hV2:=(y5 q (n'+1) r on U hV1).2;rw [←hinv] at hV2;have hcall:=ih n' f.z7 f.on (B.1++[x.name],B.2) (.inl (by omega)) (zU.zbb hq hf) hadd (by rw [hV];omega);unfold z3M at hcall;rw [hV] at hcall;have hsl:=zc0 (es:=es) (sx:=sx) H ds q hq f.name
      have hse:z0a f.name q.z8=f.z7:=by unfold z0a;rw [hfn,hf];rfl
      rw [hse] at hsl;refine fR Z ?_;refine Mid.zea Z Z Z Z (hi') Z ?_;refine fM Z ?_
      refine Mid.ZD [0,1] (hsl) Z Z Z Z (by simp [zG];simp [z3.bd,V.bds,V.bd,V.zL,V.zK]) (by repeat' (first |exact trivial|exact rfl|refine And.intro ?_ ?_|exact (congrArg some (z3.zF _ _ _ _ _ _)).symm|exact (congrArg some (z3.zN _ _ _ _)).symm|exact (congrArg some (z3.ren_cE _ _ _)).symm|(refine (congrArg some (z3.ren_gE ?_ _ _)).symm;intro _;rfl))) Z ?_
      refine fM Z ?_
      refine Mid.yD [0,1,2,3] (hcall) Z Z Z Z (by simp [zG];simp [z3.bd,V.bds,V.bd,V.zL,V.zK]) (by repeat' (first |exact trivial|exact rfl|refine And.intro ?_ ?_|exact (congrArg some (z3.zF _ _ _ _ _ _)).symm|exact (congrArg some (z3.zN _ _ _ _)).symm|exact (congrArg some (z3.ren_cE _ _ _)).symm|(refine (congrArg some (z3.ren_gE ?_ _ _)).symm;intro _;rfl))) Z Z (ob':=[(2,.map false (zE U.1) none),(3,.arr U.2.length)]) ((by simp only [wx,List.map_cons,List.map_nil,z3.zN];rfl)) Z Z ?_
      refine fM Z ?_;refine aL Z Z Z Z Z ?_;refine fM Z ?_;exact zk 4 Z (ihl U ⟨hV1,hinv⟩) Z Z Z (he:=leEA) (hs:=leSA)
   ·have hk':¬ x.kind=2:=by simpa using hk
    rw [w7 h3' hk'] at hinv;have hV2:=(y5 q n r on (B.1,B.2++[(on,x)]) hB).2;rw [←hinv] at hV2;simp only [List.length_append,List.length_singleton] at hV2;refine fR Z ?_;refine apM Zx B.2 [(on,x)] Z Z Z Z Z ?_ (h1:=by first |omega|(simp;omega)|(simp;done)) (h2:=by first |omega|(simp;omega)|(simp;done));refine fM rfl ?_;refine aL rfl rfl rfl rfl rfl ?_;refine fM rfl ?_;exact zk 4 rfl (ihl (B.1,B.2++[(on,x)]) ⟨hB,hinv⟩) rfl rfl rfl (he:=leEA) (hs:=leSA)
theorem zaH (H:yx P) (ds:List Def) (q:Query) (hq:q.Ok) (n:Nat) (l:List Sel) (on:Str) (B:List Str×List (Str×Sel)) (hl:zU l) (hw:WOk q n B.1) (hm:(ZP q n l on B).2.length<=1099511627776):z3M P es sx ds q n l on B:=
 z9M H ds q hq n l on B hl hw hm fun n' l' on' B' h hl' hw' hm'=>zaH H ds q hq n' l' on' B' hl' hw' hm'
termination_by (n,SizeOf.sizeOf l)
decreasing_by
 rcases h with h|⟨h1,h2⟩
 ·exact Prod.Lex.left _ _ h
 ·subst h1;exact Prod.Lex.right _ h2
end Go.GB.C15
namespace Go.GB.C15
open Go.GB Go.GB.C11
variable {P:Program} {es:List (List T×Int)} {sx:Option (Nat×List Nat)}
theorem zac (H:yx P) (n:Str):z9 P 129 [.t (.str n)] ⟨[],0⟩ {v:=(⟨n,[]⟩:Ref).v}:=by
 refine z9.run H.i129 H.mixed Z Z ?_;refine fR Z ?_;refine Run.fin Z (z5.go ?_);exact .agg (.cons (.t Z) (.cons (.nil Z) .nil))
theorem z5M (H:yx P) (n:Str) (hn:n.length<=140737488355328):z9 P 128 [(⟨n,[]⟩:Ref).v] ⟨[],0⟩ {v:=(⟨n,[1]⟩:Ref).v}:=by
 refine z9.run H.i128 H.mixed Z Z ?_;refine fR Z ?_;refine Mid.call (zdK H.p13.toPr ⟨n,[]⟩ ⟨by simp,hn⟩) rfl rfl rfl rfl ?_;refine fM rfl ?_;refine Run.zj rfl rfl rfl ?_;refine fR rfl ?_;refine apM nE [(1:Int)] ([]:List Int) rfl rfl rfl rfl rfl ?_ (h1:=by first |omega|(simp;omega)|(simp;done)) (h2:=by first |omega|(simp;omega)|(simp;done));refine fM rfl ?_;refine Run.fin rfl (z5.go ?_);exact .agg (.cons (.t rfl) (.cons (.own rfl) .nil))
def tyN:Str:=[95,95,116,121,112,101,110,97,109,101]
def tyS:Str:=[83,116,114,105,110,103]
def Yh (ds:List Def) (on fl:Str):Ref×Bool:=
 if Z6 ds on=false then (⟨[],[]⟩,false)
 else if fl=tyN then (⟨tyS,[1]⟩,true)
 else match zD fl ((zh on ds).getD Def.zero).fields with
  |none=>(⟨[],[]⟩,false)
  |some x=>(x.ty,true)
theorem Qg (H:yx P) (ds:List Def) (hD:Zd ds) (on fl:Str):z9 P 107 [yd ds,.t (.str on),.t (.str fl)] ⟨[],0⟩ {v:= .tup [(Yh ds on fl).1.v,.t (.bool (Yh ds on fl).2)]}:=by
 have hF:=Qq hD on;refine z9.run H.i107 H.mixed Z Z ?_;refine fR Z ?_;refine Mid.call (z3T H.p13 ds hD on) Z Z Z Z ?_;refine fM Z ?_;refine Run.cond Z Z (fun hc=>?_) (fun hc=>?_)
 ·have hc':Z6 ds on=false:=by simpa using hc
  have e:Yh ds on fl=(⟨[],[]⟩,false):=by unfold Yh;rw [if_pos hc']
  rw [e];refine fR Z ?_;refine Run.fin Z (z5.go ?_);exact .wu (.agg (.cons (.t Z) (.cons (.nil Z) .nil))) (.t Z)
 ·have hc':¬ Z6 ds on=false:=by simpa using hc
  refine fR Z ?_;refine Run.cond Z Z (fun ht=>?_) (fun ht=>?_)
  ·have ht':fl=tyN:=by simpa [tyN] using ht
   have e:Yh ds on fl=(⟨tyS,[1]⟩,true):=by unfold Yh;rw [if_neg hc',if_pos ht']
   rw [e];refine fR Z ?_;refine Mid.call (zac H tyS) Z Z Z Z ?_;skip;refine Mid.call (z5M H tyS (by decide)) Z Z Z Z ?_;refine fM Z ?_;refine Run.fin Z (z5.go ?_);exact .wu (.le (.same Z)) (.t Z)
  ·have ht':¬ fl=tyN:=by simpa [tyN] using ht
   refine fR Z ?_;refine Mid.call (z7s H.p13.toPr ds hD.l on) Z Z Z Z ?_;refine fM Z ?_;refine Mid.call (z5x H.p13.toPr ((zh on ds).getD Def.zero) hF.fl fl) Z Z Z Z ?_;refine fM Z ?_
   cases hx:zD fl ((zh on ds).getD Def.zero).fields with
   |none=>
    have e:Yh ds on fl=(⟨[],[]⟩,false):=by unfold Yh;rw [if_neg hc',if_neg ht',hx]
    rw [e];refine Run.zm Z Z Z ?_;refine fR Z ?_;refine Run.fin Z (z5.go ?_);exact .wu (.agg (.cons (.t Z) (.cons (.nil Z) .nil))) (.t Z)
   |some x=>
    have e:Yh ds on fl=(x.ty,true):=by unfold Yh;rw [if_neg hc',if_neg ht',hx]
    have hxo:=hF.f x (YD hx);rw [e];refine Run.zj Z Z Z ?_;refine fR Z ?_;refine Mid.call (z8v H.p13.toPr x.ty.zq hxo.t.l) Z Z Z Z ?_;refine fM Z ?_;refine Run.fin Z (z5.go ?_);exact .wu (.le (.same Z)) (.t Z)
theorem z8h (H:yx P) (ds:List Def) (hD:Zd ds) (q:Query) (on:Str) (x:Sel):z9 P 103 [.ptr 0 0,.agg [.t (.str on),.t (.ptr x.cs)]] ⟨[(0,.cells [.t (.lst (ds.map Def.enc)),.t (.lst (q.ops.map Op.enc)),.t (.lst (q.z8.map zA.enc)),.mp 1]),(1,.map true (mE kI iV es) sx)],2⟩ {v:= .t (.str (Yh ds on x.name).1.name),rd:=true}:=by
 refine z9.run H.i103 H.mixed Z Z ?_;refine fR Z ?_;refine Mid.call (Qg H ds hD on x.name) Z Z Z Z ?_;refine fM Z ?_;refine Run.cond Z Z (fun h=>?_) (fun h=>?_)
 ·have h':(Yh ds on x.name).2=false:=by simpa using h
  have e:(Yh ds on x.name).1.name=[]:=by
   revert h';unfold Yh
   split
   ·intro _;rfl
   ·split
    ·intro h;cases h
    ·split
     ·intro _;rfl
     ·intro h;cases h
  refine fR Z ?_;refine Run.fin Z (z5.wA Z Z Z (by simp [zG];simp [z3.bd,V.bds,V.bd,V.zL,V.zK]) (.t (by rw [e])))
 ·refine fR Z ?_;refine Run.fin Z (z5.wA Z Z Z (by simp [zG];simp [z3.bd,V.bds,V.bd,V.zL,V.zK]) (.t Z))
theorem z3M.nil {ds:List Def} {q:Query} {n:Nat} {l:List Sel} {on:Str} (h:z3M P es sx ds q n l on ([],[])):z9 P 102 [.ptr 0 0,.t (.lst (l.map Sel.enc)),.t (.str on),.mp 2,.zV] ⟨[(0,.cells [.t (.lst (ds.map Def.enc)),.t (.lst (q.ops.map Op.enc)),.t (.lst (q.z8.map zA.enc)),.mp 1]),(1,.map true (mE kI iV es) sx),(2,.map false (zE []) (some (0,[])))],3⟩
  {v:= .own 3 2 ((ZP q n l on ([],[])).2.map Zx),ob:=[(2,.map false (zE (ZP q n l on ([],[])).1) none),(3,.arr (ZP q n l on ([],[])).2.length)],n:=1,rd:=true}:=
 h.wk (zLB rfl) (.cons (.same rfl) (.cons (.same rfl) (.cons (.same rfl) (.cons (.same rfl) (.cons (.zp (zLB rfl) (zLB rfl)) .nil))))) (by repeat' (first |exact trivial|exact LeX.t|exact LeX.top|exact LeX.zp (zLB rfl) (zLB rfl)|exact LeX.Z2|exact LeX.Z3|exact LeX.same rfl|exact LeX.tEq (by simp)|exact LeX.ownEq (by simp) (zLB rfl)|exact LeX.tEq (by congr 1<;>omega)|exact Or.inr ⟨zLB rfl,zLB rfl,rfl⟩|refine Or.inl ⟨zLB rfl,_,rfl,?_⟩|refine LeO.cells ?_|exact LeO.arr rfl|exact LeO.arr (by simp)|exact LeO.mE (by first |rfl|simp) (by first |exact Or.inl rfl|exact Or.inr rfl)|exact LeO.zE (by first |rfl|simp) (by first |exact Or.inl rfl|exact Or.inr rfl)|exact LeO.cE (by first |rfl|simp)|exact za.cE (by first |rfl|simp)|exact LeO.zJ (by assumption)|exact LeO.zP (fun _ _ h=>h)|refine LeO.map (by first |rfl|simp) ?_ (by first |exact Or.inl rfl|exact Or.inr rfl)|exact LeO.iter (by first |rfl|simp) (zLB rfl)|refine za.cons ?_ ?_|exact za.nil|refine And.intro ?_ ?_)) rfl rfl rfl
def WG (q:Query) (l:List Sel) (on:Str):List (Str×Sel):=(ZP q q.z8.length l on ([],[])).2
theorem z1j (H:yx P) (ds:List Def) (q:Query) (hq:q.Ok) (l:List Sel) (on:Str) (hl:zU l) (hm:(WG q l on).length<=1099511627776):z9 P 62 [.ptr 0 0,.t (.lst (l.map Sel.enc)),.t (.str on)] ⟨[(0,.cells [.t (.lst (ds.map Def.enc)),.t (.lst (q.ops.map Op.enc)),.t (.lst (q.z8.map zA.enc)),.mp 1]),(1,.map true (mE kI iV es) sx)],2⟩ {v:= .t (.lst ((WG q l on).map Zx)),rd:=true}:=by
 have hc:=(zaH (es:=es) (sx:=sx) H ds q hq q.z8.length l on ([],[]) hl (WOk.start q) hm).nil;unfold WG;generalize hU:ZP q q.z8.length l on ([],[])=U at hc;refine z9.run H.i62 H.mixed Z Z ?_;refine fR Z ?_;refine Mid.zdc Z ?_;skip
 refine Mid.yD [0,1,2] (hc) Z Z Z Z (by simp [zG];simp [z3.bd,V.bds,V.bd,V.zL,V.zK]) (by repeat' (first |exact trivial|exact rfl|refine And.intro ?_ ?_|exact (congrArg some (z3.zF _ _ _ _ _ _)).symm|exact (congrArg some (z3.zN _ _ _ _)).symm|exact (congrArg some (z3.ren_cE _ _ _)).symm|(refine (congrArg some (z3.ren_gE ?_ _ _)).symm;intro _;rfl))) Z Z (ob':=[(2,.map false (zE U.1) none),(3,.arr U.2.length)]) ((by simp only [wx,List.map_cons,List.map_nil,z3.zN];rfl)) Z Z ?_
 refine fM Z ?_;refine Run.fin Z (z5.wA Z Z Z (by simp [zG];simp [z3.bd,V.bds,V.bd,V.zL,V.zK]) (.own Z))
theorem we (H:yx P) (a on:Str) (y x:Sel):z9 P 63 [.agg [.t (.str a),.t (.ptr y.cs)],.ptr 0 0] ⟨[(0,.cells [.t (.str on),.t (.ptr x.cs)])],1⟩ {v:= .t (.bool (Z7 y==Z7 x)),rd:=true}:=by
 refine z9.run H.i63 H.mixed Z Z ?_;refine fR Z ?_;refine Mid.call (z3O H y) Z Z Z Z ?_;refine fM Z ?_;refine Mid.call (z3O H x) Z Z Z Z ?_;refine fM Z ?_;refine Run.fin Z (z5.wA Z Z Z (by first |exact rfl|exact nSto_bd|exact tSto_bd) (.t (rfl)))
def QS {α:Type} (p:α->Bool):List α->Int->Int
 |[],_=>-1
 |x::r,i=>if p x=true then i else QS p r (i+1)
theorem wZ (H:yx P) (on:Str) (x:Sel) (l:List (Str×Sel)) (hl:l.length<=140737488355328):z9 P 65 [.t (.lst (l.map Zx)),.fn 63 [(0,0)]] ⟨[(0,.cells [.t (.str on),.t (.ptr x.cs)])],1⟩ {v:= .t (.int .i64 (QS (fun p=>Z7 p.2==Z7 x) l 0)),rd:=true}:=by
 refine z9.run H.i65 H.mixed Z Z ?_;refine fR Z ?_;refine lM Z Z Z ?_;refine fM Z ?_;refine zx l (fun i (_:Unit)=>{env:=[(0,.t (.lst (l.map Zx))),(1,.fn 63 [(0,0)]),(7,.t (.int .i64 l.length)),(8,.t (.int .i64 i))],s:=⟨[(0,.cells [.t (.str on),.t (.ptr x.cs)])],1⟩}) (fun r i _=>QS (fun p=>Z7 p.2==Z7 x) l 0=QS (fun p=>Z7 p.2==Z7 x) r i) 1 () Z Z Z Z Z ?_ ?_
 ·intro _ hinv;refine fR Z ?_;refine Run.zj Z Z (by simp) ?_;refine fR Z ?_;refine Run.fin Z (z5.wA Z Z Z (by first |exact rfl|exact nSto_bd|exact tSto_bd) (.t ((by rw [hinv];rfl))))
 ·intro i y r _ h1 hi hd hinv ih;refine fR Z ?_;refine Run.zm Z Z (by simp;omega) ?_;refine fR Z ?_;refine Mid.ze Z Z Z h1 Z Z ?_;refine fM Z ?_;refine Mid.zdp Z (we H y.1 on y.2 x) Z Z Z Z ?_;refine fM Z ?_;refine Run.cond Z Z (fun hc=>?_) (fun hc=>?_)
  ·refine fR Z ?_;refine Run.fin Z (z5.wA Z Z Z (by first |exact rfl|exact nSto_bd|exact tSto_bd) (.t ((by rw [hinv];simp only [QS];rw [if_pos hc]))))
  ·refine fR Z ?_;refine aL Z Z Z Z Z ?_;refine fM Z ?_
   have h':¬ (Z7 y.2==Z7 x)=true:=by rw [hc];simp
   exact zk 1 Z (ih () (by rw [hinv];simp only [QS];rw [if_neg h'];rfl)) Z Z Z
end Go.GB.C15
namespace Go.GB.C15
open Go.GB Go.GB.C11
variable {P:Program} {es:List (List T×Int)} {sx:Option (Nat×List Nat)}
def one (k:Str) (l:List (Str×Sel)):Prop:=l.Pairwise fun a b=>¬ (Z7 a.2=k/\Z7 b.2=k)
theorem zaX (H:yx P) (ds:List Def) (q:Query) (on:Str) (x:Sel) (l:List (Str×Sel)) (hl:l.length<=140737488355328) (ho:one (Z7 x) l):z9 P 66 [.ptr 0 0,.t (.lst (l.map Zx)),.fn 63 [(2,0)]] ⟨[(0,.cells [.t (.lst (ds.map Def.enc)),.t (.lst (q.ops.map Op.enc)),.t (.lst (q.z8.map zA.enc)),.mp 1]),(1,.map true (mE kI iV es) sx),(2,.cells [.t (.str on),.t (.ptr x.cs)])],3⟩ {v:= .t (.bool false),rd:=true}:=by
 refine z9.run H.i66 H.mixed Z Z ?_;refine fR Z ?_;refine lM Z Z Z ?_;refine fM Z ?_;refine zx l (fun i (_:Unit)=>{env:=[(0,.ptr 0 0),(1,.t (.lst (l.map Zx))),(2,.fn 63 [(2,0)]),(11,.t (.lst (l.map Zx))),(12,.t (.int .i64 l.length)),(13,.t (.int .i64 i))],s:=⟨[(0,.cells [.t (.lst (ds.map Def.enc)),.t (.lst (q.ops.map Op.enc)),.t (.lst (q.z8.map zA.enc)),.mp 1]),(1,.map true (mE kI iV es) sx),(2,.cells [.t (.str on),.t (.ptr x.cs)])],3⟩}) (fun r i _=>one (Z7 x) r) 3 () Z ho Z Z Z ?_ ?_
 ·intro _ hinv;refine fR Z ?_;refine Run.zj Z Z (by simp) ?_;refine fR Z ?_;refine Run.fin Z (z5.wA Z Z Z (by simp [zG];simp [z3.bd,V.bds,V.bd,V.zL,V.zK]) (.t Z))
 ·intro i a r _ h1 hi hd hinv ih;obtain ⟨ha,hr⟩:=List.pairwise_cons.1 hinv
  have hrl:r.length<=l.length:=by rw [←hd];simp
  refine fR Z ?_;refine Run.zm Z Z (by simp;omega) ?_;refine fR Z ?_;refine Mid.ze Z Z Z h1 Z Z ?_;refine fM Z ?_;refine aL Z Z Z Z Z ?_;refine z7x Z Z Z Z ?_;refine lM Z Z Z ?_;refine fM Z ?_;rw [hd];refine zx r (fun j (_:Unit)=>{env:=[(0,.ptr 0 0),(1,.t (.lst (l.map Zx))),(2,.fn 63 [(2,0)]),(8,.ptr 3 0),(11,.t (.lst (l.map Zx))),(12,.t (.int .i64 l.length)),(13,.t (.int .i64 i)),(21,.t (.lst (r.map Zx))),(22,.t (.int .i64 r.length)),(23,.t (.int .i64 j))],s:=⟨[(0,.cells [.t (.lst (ds.map Def.enc)),.t (.lst (q.ops.map Op.enc)),.t (.lst (q.z8.map zA.enc)),.mp 1]),(1,.map true (mE kI iV es) sx),(2,.cells [.t (.str on),.t (.ptr x.cs)]),(3,.cells [.t (.str a.1),.t (.ptr a.2.cs)])],4⟩}) (fun r' j _=>True) 4 () Z trivial Z Z Z ?_ ?_
  ·intro _ _;refine fR Z ?_;refine Run.zj Z Z (by simp) ?_;refine fR Z ?_;refine aL Z Z Z Z Z ?_;refine fM Z ?_;exact zk 3 Z (ih () hr) Z Z Z
  ·intro j c r' _ k1 kj kd _ ihj;have hac:=ha c (zMG k1);refine fR Z ?_;refine Run.zm Z Z (by simp;omega) ?_;refine fR Z ?_;refine Mid.ze Z Z Z k1 Z Z ?_;refine fM Z ?_;have s1:=we H a.1 on a.2 x;have s2:=we H c.1 on c.2 x;by_cases hk:Z7 a.2=Z7 x
   ·have hck:¬ Z7 c.2=Z7 x:=fun e=>hac ⟨hk,e⟩
    rw [show (Z7 a.2==Z7 x)=true from by simpa using hk] at s1
    rw [show (Z7 c.2==Z7 x)=false from by simpa using hck] at s2
    refine Mid.Q8 [2] Z (s1) Z Z Z Z (by simp [zG];simp [z3.bd,V.bds,V.bd,V.zL,V.zK]) (by repeat' (first |exact trivial|exact rfl|refine And.intro ?_ ?_|exact (congrArg some (z3.zF _ _ _ _ _ _)).symm|exact (congrArg some (z3.zN _ _ _ _)).symm|exact (congrArg some (z3.ren_cE _ _ _)).symm|(refine (congrArg some (z3.ren_gE ?_ _ _)).symm;intro _;rfl))) Z ?_
    refine fM Z ?_;refine Mid.z3p Z Z Z ?_
    refine Mid.Q8 [2] Z (s2) Z Z Z Z (by simp [zG];simp [z3.bd,V.bds,V.bd,V.zL,V.zK]) (by repeat' (first |exact trivial|exact rfl|refine And.intro ?_ ?_|exact (congrArg some (z3.zF _ _ _ _ _ _)).symm|exact (congrArg some (z3.zN _ _ _ _)).symm|exact (congrArg some (z3.ren_cE _ _ _)).symm|(refine (congrArg some (z3.ren_gE ?_ _ _)).symm;intro _;rfl))) Z ?_
    refine fM Z ?_;refine Mid.Y1 Z (by first |rfl|(simp;done)) Z Z Z ?_;refine fM Z ?_;refine Run.zj Z Z Z ?_;refine fR Z ?_;refine aL Z Z Z Z Z ?_;refine fM Z ?_;exact zk 4 Z (ihj () trivial) Z Z Z
   ·rw [show (Z7 a.2==Z7 x)=false from by simpa using hk] at s1
    refine Mid.Q8 [2] Z (s1) Z Z Z Z (by simp [zG];simp [z3.bd,V.bds,V.bd,V.zL,V.zK]) (by repeat' (first |exact trivial|exact rfl|refine And.intro ?_ ?_|exact (congrArg some (z3.zF _ _ _ _ _ _)).symm|exact (congrArg some (z3.zN _ _ _ _)).symm|exact (congrArg some (z3.ren_cE _ _ _)).symm|(refine (congrArg some (z3.ren_gE ?_ _ _)).symm;intro _;rfl))) Z ?_
    refine fM Z ?_;refine Mid.Y1 Z (by first |rfl|(simp;done)) Z Z Z ?_;refine fM Z ?_;refine Mid.Y1 Z (by first |rfl|(simp;done)) Z Z Z ?_;refine fM Z ?_;refine Run.zj Z Z Z ?_;refine fR Z ?_;refine aL Z Z Z Z Z ?_;refine fM Z ?_;exact zk 4 Z (ihj () trivial) Z Z Z
mutual
inductive Clean (q:Query) (ds:List Def):List Sel->Str->Prop where
 |mk {l:List Sel} {on:Str} (h1:(WG q l on).length<=1099511627776) (h2:∀(i k:Nat) (a b:Str×Sel),i<k->(WG q l on)[i]?=some a->(WG q l on)[k]?=some b->¬ Z7 a.2=Z7 b.2) (h3:Zt q ds l on):Clean q ds l on
inductive Zt (q:Query) (ds:List Def):List Sel->Str->Prop where
 |nil {on:Str}:Zt q ds [] on
 |inline {s:Sel} {r:List Sel} {on:Str} (hk:s.kind=3) (h1:Zt q ds s.z7 (if s.on=[] then on else s.on)) (h2:Zt q ds r on):Zt q ds (s::r) on
 |spread {s:Sel} {r:List Sel} {on:Str} (hk:s.kind=2) (h2:Zt q ds r on):Zt q ds (s::r) on
 |field {s:Sel} {r:List Sel} {on:Str} (h3:¬ s.kind=3) (hk:¬ s.kind=2) (h1:Clean q ds s.z7 (Yh ds on s.name).1.name) (h2:Zt q ds r on):Zt q ds (s::r) on
end
def z6J (P:Program) (es:List (List T×Int)) (sx:Option (Nat×List Nat)) (ds:List Def) (q:Query) (l:List Sel) (on at_:Str):Prop:=
 z9 P 30 [.ptr 0 0,.t (.lst (l.map Sel.enc)),.t (.str on),.t (.str at_)] ⟨[(0,.cells [.t (.lst (ds.map Def.enc)),.t (.lst (q.ops.map Op.enc)),.t (.lst (q.z8.map zA.enc)),.mp 1]),(1,.map true (mE kI iV es) sx)],2⟩ {v:= .t (.lst []),rd:=true}
def z1q (P:Program) (es:List (List T×Int)) (sx:Option (Nat×List Nat)) (ds:List Def) (q:Query) (l:List Sel) (on at_:Str):Prop:=
 z9 P 67 [.ptr 0 0,.t (.lst (l.map Sel.enc)),.t (.str on),.t (.str at_)] ⟨[(0,.cells [.t (.lst (ds.map Def.enc)),.t (.lst (q.ops.map Op.enc)),.t (.lst (q.z8.map zA.enc)),.mp 1]),(1,.map true (mE kI iV es) sx)],2⟩ {v:= .t (.lst []),rd:=true}
theorem z1G {x:Sel}:∀(l:List (Str×Sel)) (i:Nat) (j:Int) (a:Str×Sel),l[i]?=some a->Z7 a.2=Z7 x->(∀k b,k<i->l[k]?=some b->¬ Z7 b.2=Z7 x)->QS (fun p=>Z7 p.2==Z7 x) l j=j+i
 |[],i,j,a,h,_,_=>by simp at h
 |c::r,0,j,a,h,ha,_=>by
  obtain rfl:c=a:=by simpa using h
  simp [QS,ha]
 |c::r,i+1,j,a,h,ha,hn=>by
  have hc:=hn 0 c (by omega) (by simp);simp only [QS];rw [if_neg (by simpa using hc),z1G r i (j+1) a (by simpa using h) ha (fun k b hk hb=>hn (k+1) b (by omega) (by simpa using hb))]
  push_cast;omega
theorem zcT {k:Str} {l:List (Str×Sel)} (h:∀(i j:Nat) (a b:Str×Sel),i<j->l[i]?=some a->l[j]?=some b->¬ Z7 a.2=Z7 b.2):one k l:=by
 unfold one
 induction l with
 |nil=>exact .nil
 |cons c r ih=>
  refine .cons (fun b hb hh=>?_) (ih fun i j a b hij ha hb=>h (i+1) (j+1) a b (by omega) (by simpa using ha) (by simpa using hb));obtain ⟨n,hn⟩:=List.getElem?_of_mem hb;exact h 0 (n+1) c b (by omega) (by simp) (by simpa using hn) (hh.1.trans hh.2.symm)
theorem z4y (H:yx P) (ds:List Def) (q:Query) (hq:q.Ok) (l:List Sel) (on at_:Str) (hl:zU l) (hc:Clean q ds l on)
  (hin:z1q P es sx ds q l on at_):z6J P es sx ds q l on at_:=by
 obtain ⟨h1,h2,h3⟩:=hc;have hst:=z1j (es:=es) (sx:=sx) H ds q hq l on hl h1;unfold z6J;unfold z1q at hin;generalize hS:WG q l on=S at h1 h2 hst;refine z9.run H.i30 H.mixed Z Z ?_;refine fR Z ?_
 refine Mid.ZD [0,1] (hst) Z Z Z Z (by simp [zG];simp [z3.bd,V.bds,V.bd,V.zL,V.zK]) (by repeat' (first |exact trivial|exact rfl|refine And.intro ?_ ?_|exact (congrArg some (z3.zF _ _ _ _ _ _)).symm|exact (congrArg some (z3.zN _ _ _ _)).symm|exact (congrArg some (z3.ren_cE _ _ _)).symm|(refine (congrArg some (z3.ren_gE ?_ _ _)).symm;intro _;rfl))) Z ?_
 refine fM Z ?_;refine lM Z Z Z ?_;refine fM Z ?_;refine zx S (fun i (_:Unit)=>{env:=[(0,.ptr 0 0),(1,.t (.lst (l.map Sel.enc))),(2,.t (.str on)),(3,.t (.str at_)),(9,.t (.lst (S.map Zx))),(10,.zV),(18,.t (.lst (S.map Zx))),(19,.t (.int .i64 S.length)),(20,.t (.int .i64 i))],s:=⟨[(0,.cells [.t (.lst (ds.map Def.enc)),.t (.lst (q.ops.map Op.enc)),.t (.lst (q.z8.map zA.enc)),.mp 1]),(1,.map true (mE kI iV es) sx)],2⟩}) (fun r i _=>True) 2 () Z trivial Z Z Z ?_ ?_
 ·intro _ _;refine fR Z ?_;refine Run.zj Z Z (by simp) ?_;refine fR Z ?_
  refine Mid.ZD [0,1] (hin) Z Z Z Z (by simp [zG];simp [z3.bd,V.bds,V.bd,V.zL,V.zK]) (by repeat' (first |exact trivial|exact rfl|refine And.intro ?_ ?_|exact (congrArg some (z3.zF _ _ _ _ _ _)).symm|exact (congrArg some (z3.zN _ _ _ _)).symm|exact (congrArg some (z3.ren_cE _ _ _)).symm|(refine (congrArg some (z3.ren_gE ?_ _ _)).symm;intro _;rfl))) Z ?_
  skip;refine apN z4.enc ([]:List z4) Z Z Z ?_ (h1:=by first |omega|(simp;omega)|(simp;done)) (h2:=by first |omega|(simp;omega)|(simp;done));refine fM rfl ?_;refine Run.fin rfl (z5.wA rfl rfl rfl (by simp [zG];simp [z3.bd,V.bds,V.bd,V.zL,V.zK]) (.own rfl))
 ·intro i a r _ k1 hi hd _ ih;have hx:=wZ H a.1 a.2 S (by omega);rw [z1G S i 0 a k1 rfl (fun k b hk hb=>h2 k i b a hk hb k1)] at hx;have hso:=zaX (es:=es) (sx:=sx) H ds q a.1 a.2 (S.drop i) (by simp;omega) (zcT fun i' j' a' b' hij ha hb=>h2 (i+i') (i+j') a' b' (by omega) (by simpa using ha) (by simpa using hb));refine fR Z ?_;refine Run.zm Z Z (by simp;omega) ?_;refine fR Z ?_;refine Mid.ze Z Z Z k1 Z Z ?_;refine fM Z ?_;refine Mid.ZD [2] hx Z Z Z Z (by simp [zG];simp [z3.bd,V.bds,V.bd,V.zL,V.zK]) (by repeat' (first |exact trivial|exact rfl|refine And.intro ?_ ?_)) Z ?_;refine p0 Z ?_;refine p0 Z ?_
  rw [show ((0:Int)+(i:Int)==(i:Int))=true from by simp]
  refine p0 Z ?_;refine gr Z ?_;refine gr Z ?_;refine gr Z ?_;refine Mid.z9y (f:=Zx) (l:=S) (j:=i) Z Z Z Z (by omega) (fun _=>rfl) (by simp [Zg]) (by simp [Zg]) Z ?_;refine gr Z ?_;refine Mid.z3p Z Z Z ?_
  refine Mid.ZD [0,1,2] (hso) Z Z Z Z (by simp [zG];simp [z3.bd,V.bds,V.bd,V.zL,V.zK]) (by repeat' (first |exact trivial|exact rfl|refine And.intro ?_ ?_|exact (congrArg some (z3.zF _ _ _ _ _ _)).symm|exact (congrArg some (z3.zN _ _ _ _)).symm|exact (congrArg some (z3.ren_cE _ _ _)).symm|(refine (congrArg some (z3.ren_gE ?_ _ _)).symm;intro _;rfl))) Z ?_
  refine fM Z ?_;refine Run.zj Z Z Z ?_;refine fR Z ?_;refine aL Z Z Z Z Z ?_;refine fM Z ?_;exact zk 2 Z (ih () trivial) Z Z Z
theorem z5O (H:yx P) (ds:List Def) (hD:Zd ds) (q:Query) (hq:q.Ok) (l:List Sel) (on at_:Str) (hl:zU l) (hc:Zt q ds l on) (ha:at_.length+Sel.ws l<=4398046511104)
  (hI:∀l' on' at',SizeOf.sizeOf l'<SizeOf.sizeOf l->zU l'->Zt q ds l' on'->at'.length+Sel.ws l'<=4398046511104->z1q P es sx ds q l' on' at')
  (hF:∀l' on' at',SizeOf.sizeOf l'<SizeOf.sizeOf l->zU l'->Clean q ds l' on'->at'.length+Sel.ws l'<=4398046511104->z6J P es sx ds q l' on' at'):z1q P es sx ds q l on at_:=by
 have hll:=hl.1;unfold z1q;refine z9.run H.i67 H.mixed Z Z ?_;refine fR Z ?_;refine lM Z Z Z ?_;refine fM Z ?_;refine zx l (fun i (_:Unit)=>{env:=[(0,.ptr 0 0),(1,.t (.lst (l.map Sel.enc))),(2,.t (.str on)),(3,.t (.str at_)),(9,.own 2 2 (List.map z4.enc [])),(14,.t (.int .i64 l.length)),(15,.t (.int .i64 i))],s:=⟨[(0,.cells [.t (.lst (ds.map Def.enc)),.t (.lst (q.ops.map Op.enc)),.t (.lst (q.z8.map zA.enc)),.mp 1]),(1,.map true (mE kI iV es) sx),(2,.arr 0)],3⟩}) (fun r i _=>Zt q ds r on) 2 () Z hc Z Z Z ?_ ?_
 ·intro _ _;refine fR Z ?_;refine Run.zj Z Z (by simp) ?_;refine fR Z ?_;refine Run.fin Z (z5.wA Z Z Z (by simp [zG];simp [z3.bd,V.bds,V.bd,V.zL,V.zK]) (.own Z))
 ·intro i x r _ h1 hi hd hcr ih;have hxm:x∈l:=zMG h1;have hx:=hl.2 x hxm;have hw:=Sel.z9R x;have hwm:=Sel.z6G hxm;have hkl:=z4Q x;have hal:=hx.al;have hnl:=hx.nm;have hsz:SizeOf.sizeOf x.z7<SizeOf.sizeOf l:=Nat.lt_trans (Sel.zB x) (List.sizeOf_lt_of_mem hxm);refine fR Z ?_;refine Run.zm Z Z (by simp;omega) ?_;refine fR Z ?_;refine Mid.Ze (Sel.Zf x) Z Z Z h1 Z Z ?_;refine fM Z ?_;refine Run.cond Z Z (fun h3=>?_) (fun h3=>?_)
  ·have h3':x.kind=3:=by simpa using h3
   have hcc:Zt q ds x.z7 (if x.on=[] then on else x.on)/\Zt q ds r on:=by
    cases hcr with
    |inline hk a b=>exact ⟨a,b⟩
    |spread hk b=>omega
    |field a b c d=>exact absurd h3' a
   refine fR Z ?_;refine Run.cond Z Z (fun ho=>?_) (fun ho=>?_)
   ·have ho':¬ x.on=[]:=by simpa using ho
    have hcall:=hI x.z7 x.on at_ hsz (zU.sub hx) (by have:=hcc.1;rw [if_neg ho'] at this;exact this) (by omega);unfold z1q at hcall;refine fR Z ?_
    refine Mid.ZD [0,1] (hcall) Z Z Z Z (by simp [zG];simp [z3.bd,V.bds,V.bd,V.zL,V.zK]) (by repeat' (first |exact trivial|exact rfl|refine And.intro ?_ ?_|exact (congrArg some (z3.zF _ _ _ _ _ _)).symm|exact (congrArg some (z3.zN _ _ _ _)).symm|exact (congrArg some (z3.ren_cE _ _ _)).symm|(refine (congrArg some (z3.ren_gE ?_ _ _)).symm;intro _;rfl))) Z ?_
    skip;refine apM z4.enc ([]:List z4) ([]:List z4) Z Z Z Z Z ?_ (h1:=by first |omega|(simp;omega)|(simp;done)) (h2:=by first |omega|(simp;omega)|(simp;done));refine fM rfl ?_;refine aL rfl rfl rfl rfl rfl ?_;refine fM rfl ?_;exact zk 3 rfl (ih () hcc.2) rfl rfl rfl
   ·have ho':x.on=[]:=by simpa using ho
    have hcall:=hI x.z7 on at_ hsz (zU.sub hx) (by have:=hcc.1;rw [if_pos ho'] at this;exact this) (by omega);unfold z1q at hcall;refine fR Z ?_
    refine Mid.ZD [0,1] (hcall) Z Z Z Z (by simp [zG];simp [z3.bd,V.bds,V.bd,V.zL,V.zK]) (by repeat' (first |exact trivial|exact rfl|refine And.intro ?_ ?_|exact (congrArg some (z3.zF _ _ _ _ _ _)).symm|exact (congrArg some (z3.zN _ _ _ _)).symm|exact (congrArg some (z3.ren_cE _ _ _)).symm|(refine (congrArg some (z3.ren_gE ?_ _ _)).symm;intro _;rfl))) Z ?_
    skip;refine apM z4.enc ([]:List z4) ([]:List z4) Z Z Z Z Z ?_ (h1:=by first |omega|(simp;omega)|(simp;done)) (h2:=by first |omega|(simp;omega)|(simp;done));refine fM rfl ?_;refine aL rfl rfl rfl rfl rfl ?_;refine fM rfl ?_;exact zk 3 rfl (ih () hcc.2) rfl rfl rfl
  ·have h3':¬ x.kind=3:=by simpa using h3
   refine fR Z ?_;refine Run.cond Z Z (fun hk=>?_) (fun hk=>?_)
   ·have hk':x.kind=2:=by simpa using hk
    have hcc:Zt q ds r on:=by
     cases hcr with
     |inline hk a b=>omega
     |spread hk b=>exact b
     |field a b c d=>exact d
    refine fR Z ?_;refine aL Z Z Z Z Z ?_;refine fM Z ?_;exact zk 3 Z (ih () hcc) Z Z Z
   ·have hk':¬ x.kind=2:=by simpa using hk
    have hcc:Clean q ds x.z7 (Yh ds on x.name).1.name/\Zt q ds r on:=by
     cases hcr with
     |inline hk a b=>exact absurd hk h3'
     |spread hk b=>exact absurd hk hk'
     |field a b c d=>exact ⟨c,d⟩
    have hcall:=hF x.z7 (Yh ds on x.name).1.name (at_++[47]++Z7 x) hsz (zU.sub hx) hcc.1 (by simp;omega);unfold z6J at hcall;have hwi:=z8h (es:=es) (sx:=sx) H ds hD q on x;refine fR Z ?_
    refine Mid.ZD [0,1] (hwi) Z Z Z Z (by simp [zG];simp [z3.bd,V.bds,V.bd,V.zL,V.zK]) (by repeat' (first |exact trivial|exact rfl|refine And.intro ?_ ?_|exact (congrArg some (z3.zF _ _ _ _ _ _)).symm|exact (congrArg some (z3.zN _ _ _ _)).symm|exact (congrArg some (z3.ren_cE _ _ _)).symm|(refine (congrArg some (z3.ren_gE ?_ _ _)).symm;intro _;rfl))) Z ?_
    refine fM Z ?_;refine pu Z ?_;refine fM Z ?_;refine Mid.call (z3O H x) Z Z Z Z ?_;refine pu Z ?_
    refine Mid.ZD [0,1] (hcall) Z Z Z Z (by simp [zG];simp [z3.bd,V.bds,V.bd,V.zL,V.zK]) (by repeat' (first |exact trivial|exact rfl|refine And.intro ?_ ?_|exact (congrArg some (z3.zF _ _ _ _ _ _)).symm|exact (congrArg some (z3.zN _ _ _ _)).symm|exact (congrArg some (z3.ren_cE _ _ _)).symm|(refine (congrArg some (z3.ren_gE ?_ _ _)).symm;intro _;rfl))) Z ?_
    skip;refine apM z4.enc ([]:List z4) ([]:List z4) Z Z Z Z Z ?_ (h1:=by first |omega|(simp;omega)|(simp;done)) (h2:=by first |omega|(simp;omega)|(simp;done));refine fM rfl ?_;refine aL rfl rfl rfl rfl rfl ?_;refine fM rfl ?_;exact zk 3 rfl (ih () hcc.2) rfl rfl rfl
theorem qz (H:yx P) (ds:List Def) (hD:Zd ds) (q:Query) (hq:q.Ok):∀(l:List Sel),zU l->
  (∀on at_,Zt q ds l on->at_.length+Sel.ws l<=4398046511104->z1q P es sx ds q l on at_)/\(∀on at_,Clean q ds l on->at_.length+Sel.ws l<=4398046511104->z6J P es sx ds q l on at_)
 |l,hl=>by
  have hi:∀on at_,Zt q ds l on->at_.length+Sel.ws l<=4398046511104->z1q P es sx ds q l on at_:=fun on at_ hc ha=>
   z5O H ds hD q hq l on at_ hl hc ha (fun l' on' at' hs hl' hc' ha'=>(qz H ds hD q hq l' hl').1 on' at' hc' ha') (fun l' on' at' hs hl' hc' ha'=>(qz H ds hD q hq l' hl').2 on' at' hc' ha')
  refine ⟨hi,fun on at_ hc ha=>z4y H ds q hq l on at_ hl hc (hi on at_ ?_ ha)⟩
  cases hc with
  |mk h1 h2 h3=>exact h3
termination_by l=>SizeOf.sizeOf l
theorem z0Z (H:yx P) (ds:List Def) (q:Query):z9 P 29 [yd ds,q.v] ⟨[],0⟩ {v:= .ptr 3 0,ob:=[(2,.map true (mE kI iV []) (some (0,[]))),(3,.cells [.t (.lst (ds.map Def.enc)),.t (.lst (q.ops.map Op.enc)),.t (.lst (q.z8.map zA.enc)),.mp 2])],n:=4}:=by
 refine z9.run H.i29 H.mixed Z Z ?_;refine fR Z ?_;refine Mid.zcK kI iV Z ?_;refine fM Z ?_;refine Run.fin Z (z5.chg Z Z ?_ ?_)
 ·exact .le (.same Z)
 ·exact leSA
end Go.GB.C15
namespace Go.GB.C15
open Go.GB Go.GB.C11
variable {P:Program} {es:List (List T×Int)} {sx:Option (Nat×List Nat)}
structure z6s (ds:List Def) (q:Query):Prop where
 o:∀x,x∈q.ops->Clean q ds x.z7 (wi x.kind)/\x.name.length+Sel.ws x.z7<=4398046511104
 f:∀x,x∈q.z8->Clean q ds x.z7 x.on/\x.name.length+Sel.ws x.z7<=4398046511104
theorem z8n (H:yx P) (ds:List Def) (hD:Zd ds) (q:Query) (hq:q.Ok) (hc:z6s ds q):z9 P 11 [yd ds,q.v] ⟨[],0⟩ {v:= .t (.lst [])}:=by
 have hfl:=hq.fl;have hol:=hq.ol;refine z9.run H.i11 H.mixed Z Z ?_;refine fR Z ?_
 refine Mid.yD [] (z0Z H ds q) Z Z Z Z (by simp [zG]) (by repeat' (first |exact trivial|exact rfl|refine And.intro ?_ ?_|exact (congrArg some (z3.zF _ _ _ _ _ _)).symm|exact (congrArg some (z3.zN _ _ _ _)).symm|exact (congrArg some (z3.ren_cE _ _ _)).symm|(refine (congrArg some (z3.ren_gE ?_ _ _)).symm;intro _;rfl))) Z Z (ob':=[(4,.map true (mE kI iV []) (some (0,[]))),(5,.cells [.t (.lst (ds.map Def.enc)),.t (.lst (q.ops.map Op.enc)),.t (.lst (q.z8.map zA.enc)),.mp 4])]) ((by simp only [wx,List.map_cons,List.map_nil,z3.zF];rfl)) Z Z ?_
 refine fM Z ?_;refine lM Z Z Z ?_;refine fM Z ?_;refine zx q.ops (fun i (_:Unit)=>{env:=[(3,.ptr 1 0),(5,.ptr 5 0),(6,.own 6 2 (List.map z4.enc [])),(15,.t (.lst (q.ops.map Op.enc))),(16,.t (.int .i64 q.ops.length)),(17,.t (.int .i64 i))],s:=⟨[(0,.cells [.t (.lst (ds.map Def.enc))]),(1,.cells [.t (.lst (q.ops.map Op.enc)),.t (.lst (q.z8.map zA.enc))]),(4,.map true (mE kI iV []) none),(5,.cells [.t (.lst (ds.map Def.enc)),.t (.lst (q.ops.map Op.enc)),.t (.lst (q.z8.map zA.enc)),.mp 4]),(6,.arr 0)],7⟩}) (fun r i _=>True) 6 () Z trivial Z Z Z ?_ ?_
 ·intro _ _;refine fR Z ?_;refine Run.zj Z Z (by simp) ?_;refine fR Z ?_;refine lM Z Z Z ?_;refine fM Z ?_;refine zx q.z8 (fun i (_:Unit)=>{env:=[(5,.ptr 5 0),(6,.own 6 2 (List.map z4.enc [])),(34,.t (.lst (q.z8.map zA.enc))),(35,.t (.int .i64 q.z8.length)),(36,.t (.int .i64 i))],s:=⟨[(0,.cells [.t (.lst (ds.map Def.enc))]),(1,.cells [.t (.lst (q.ops.map Op.enc)),.t (.lst (q.z8.map zA.enc))]),(4,.map true (mE kI iV []) none),(5,.cells [.t (.lst (ds.map Def.enc)),.t (.lst (q.ops.map Op.enc)),.t (.lst (q.z8.map zA.enc)),.mp 4]),(6,.arr 0)],7⟩}) (fun r i _=>True) 7 () Z trivial Z Z Z ?_ ?_
  ·intro _ _;refine fR Z ?_;refine Run.zj Z Z (by simp) ?_;refine fR Z ?_;refine Run.fin Z (z5.go ?_);exact .own Z
  ·intro i x r _ h1 hi hd _ ih;have hxm:x∈q.z8:=zMG h1;have hcx:=hc.f x hxm;have hcall:=(qz (es:=[]) (sx:=none) H ds hD q hq x.z7 (hq.f x hxm).s).2 x.on x.name hcx.1 hcx.2;unfold z6J at hcall;refine fR Z ?_;refine Run.zm Z Z (by simp;omega) ?_;refine fR Z ?_;refine Mid.ze Z Z Z h1 Z Z ?_;refine fM Z ?_
   refine Mid.ZD [5,4] (hcall) Z Z Z Z (by simp [zG];simp [z3.bd,V.bds,V.bd,V.zL,V.zK]) (by repeat' (first |exact trivial|exact rfl|refine And.intro ?_ ?_|exact (congrArg some (z3.zF _ _ _ _ _ _)).symm|exact (congrArg some (z3.zN _ _ _ _)).symm|exact (congrArg some (z3.ren_cE _ _ _)).symm|(refine (congrArg some (z3.ren_gE ?_ _ _)).symm;intro _;rfl))) Z ?_
   skip;refine apM z4.enc ([]:List z4) ([]:List z4) Z Z Z Z Z ?_ (h1:=by first |omega|(simp;omega)|(simp;done)) (h2:=by first |omega|(simp;omega)|(simp;done));refine fM rfl ?_;refine aL rfl rfl rfl rfl rfl ?_;refine fM rfl ?_;exact zk 7 rfl (ih () trivial) rfl rfl rfl
 ·intro i x r _ h1 hi hd _ ih;have hxm:x∈q.ops:=zMG h1;have hcx:=hc.o x hxm;have hcall:=(qz (es:=[]) (sx:=none) H ds hD q hq x.z7 (hq.o x hxm).s).2 (wi x.kind) x.name hcx.1 hcx.2;unfold z6J at hcall;refine fR Z ?_;refine Run.zm Z Z (by simp;omega) ?_;refine fR Z ?_;refine Mid.ze Z Z Z h1 Z Z ?_;refine fM Z ?_;refine Mid.call (z3E H.p13 x.kind) Z Z Z Z ?_;refine fM Z ?_
  refine Mid.ZD [5,4] (hcall) Z Z Z Z (by simp [zG];simp [z3.bd,V.bds,V.bd,V.zL,V.zK]) (by repeat' (first |exact trivial|exact rfl|refine And.intro ?_ ?_|exact (congrArg some (z3.zF _ _ _ _ _ _)).symm|exact (congrArg some (z3.zN _ _ _ _)).symm|exact (congrArg some (z3.ren_cE _ _ _)).symm|(refine (congrArg some (z3.ren_gE ?_ _ _)).symm;intro _;rfl))) Z ?_
  skip;refine apM z4.enc ([]:List z4) ([]:List z4) Z Z Z Z Z ?_ (h1:=by first |omega|(simp;omega)|(simp;done)) (h2:=by first |omega|(simp;omega)|(simp;done));refine fM rfl ?_;refine aL rfl rfl rfl rfl rfl ?_;refine fM rfl ?_;exact zk 7 rfl (ih () trivial) rfl rfl rfl
def kd (n:Nat):Str:=[107]++C29.z0E (n:Int)
def zt:List Sel->Nat->List Sel×Nat
 |[],n=>([],n)
 |s::r,n=>
  if s.kind=1 then
   (.mk s.kind (kd n) s.name s.on s.args s.zS (zt s.z7 (n+1)).1::(zt r (zt s.z7 (n+1)).2).1,(zt r (zt s.z7 (n+1)).2).2)
  else (.mk s.kind s.ali s.name s.on s.args s.zS (zt s.z7 n).1::(zt r (zt s.z7 n).2).1,(zt r (zt s.z7 n).2).2)
termination_by l=>SizeOf.sizeOf l
decreasing_by
 all_goals first
  |(simp only [List.cons.sizeOf_spec];have:=Sel.zB s;omega)
theorem wh (n:Nat):zt [] n=([],n):=by rw [zt]
theorem yZ {s:Sel} (h:s.kind=1) (r:List Sel) (n:Nat):zt (s::r) n=(.mk s.kind (kd n) s.name s.on s.args s.zS (zt s.z7 (n+1)).1::(zt r (zt s.z7 (n+1)).2).1,(zt r (zt s.z7 (n+1)).2).2):=by rw [zt,if_pos h]
theorem Y0 {s:Sel} (h:¬ s.kind=1) (r:List Sel) (n:Nat):zt (s::r) n=(.mk s.kind s.ali s.name s.on s.args s.zS (zt s.z7 n).1::(zt r (zt s.z7 n).2).1,(zt r (zt s.z7 n).2).2):=by rw [zt,if_neg h]
theorem Zc:∀(l:List Sel) (n:Nat),n<=(zt l n).2/\(zt l n).1.length=l.length
 |[],n=>by rw [wh];exact ⟨Nat.le_refl _,rfl⟩
 |s::r,n=>by
  by_cases h:s.kind=1
  ·rw [yZ h];have h1:=Zc s.z7 (n+1);have h2:=Zc r (zt s.z7 (n+1)).2
   exact ⟨by show n<=(zt r (zt s.z7 (n+1)).2).2;omega,by simp [h2.2]⟩
  ·rw [Y0 h];have h1:=Zc s.z7 n;have h2:=Zc r (zt s.z7 n).2
   exact ⟨by show n<=(zt r (zt s.z7 n).2).2;omega,by simp [h2.2]⟩
termination_by l=>SizeOf.sizeOf l
decreasing_by
 all_goals first
  |(simp only [List.cons.sizeOf_spec];have:=Sel.zB s;omega)
def z4d (P:Program) (l:List Sel) (n:Nat):Prop:=
 z9 P 18 [.t (.lst (l.map Sel.enc)),.t (.int .i64 (n:Nat))] ⟨[],0⟩ {v:= .tup [.t (.lst ((zt l n).1.map Sel.enc)),.t (.int .i64 ((zt l n).2:Nat))]}
theorem z9a (H:yx P) (l:List Sel) (n:Nat) (hl:zU l) (hn:(zt l n).2<=4611686018427387904)
  (ih:∀l' n',SizeOf.sizeOf l'<SizeOf.sizeOf l->zU l'->(zt l' n').2<=4611686018427387904->z4d P l' n'):z4d P l n:=by
 have hll:=hl.1;have hlen:=(Zc l n).2;unfold z4d;generalize hW:zt l n=W at hn hlen;refine z9.run H.i18 H.mixed Z Z ?_;refine fR Z ?_;refine zx l (fun i (B:List Sel×Nat)=>{env:=[(0,.t (.lst (l.map Sel.enc))),(1,.t (.int .i64 (B.2:Nat))),(6,.own 0 7 (B.1.map Sel.enc)),(7,.t (.int .i64 i))],s:=⟨[(0,.arr B.1.length)],1⟩}) (fun r i B=>W=(B.1++(zt r B.2).1,(zt r B.2).2)) 0 ([],n) Z (by rw [←hW];simp) Z Z Z ?_ ?_
 ·rintro B hinv;rw [wh] at hinv;simp only [List.append_nil] at hinv;subst hinv;refine fR Z ?_;refine lM Z Z Z ?_;refine fM Z ?_;refine Run.zj Z Z (by simp) ?_;refine fR Z ?_;refine Run.fin Z (z5.go ?_);exact .wu (.own Z) (.t Z)
 ·rintro i x r B h1 hi hd hinv ihl;dsimp only at hinv ihl⊢;have hxm:x∈l:=zMG h1;have hx:=hl.2 x hxm;have hsz:SizeOf.sizeOf x.z7<SizeOf.sizeOf l:=Nat.lt_trans (Sel.zB x) (List.sizeOf_lt_of_mem hxm);have hdec:=C29.zd2 H.pW (B.2:Int);have hdl:=C29.z4U (B.2:Int);refine fR Z ?_;refine lM Z Z Z ?_;refine fM Z ?_;refine Run.zm Z Z (by simp;omega) ?_;refine fR Z ?_;refine Mid.Ze (Sel.Zf x) Z Z Z h1 Z Z ?_;refine fM Z ?_;refine Run.cond Z Z (fun hk=>?_) (fun hk=>?_)
  ·have hk':x.kind=1:=by simpa using hk
   rw [yZ hk'] at hinv;have q1:=Zc x.z7 (B.2+1);have q2:=Zc r (zt x.z7 (B.2+1)).2
   have hW1:W.1.length=B.1.length+(1+(zt r (zt x.z7 (B.2+1)).2).1.length):=by rw [hinv];simp;omega
   have hW2:W.2=(zt r (zt x.z7 (B.2+1)).2).2:=by rw [hinv]
   have hcall:=ih x.z7 (B.2+1) hsz (zU.sub hx) (by omega);unfold z4d at hcall;generalize hU:zt x.z7 (B.2+1)=U at hinv q1 q2 hW1 hW2 hcall;refine fR Z ?_;refine Mid.call (hdec) Z Z Z Z ?_;refine pu Z ?_;refine fM Z ?_;refine aL Z Z Z Z Z ?_;refine fM Z ?_;refine Mid.call (hcall) Z Z Z Z ?_;refine fM Z ?_;refine apM Sel.enc B.1 [(Sel.mk x.kind (kd B.2) x.name x.on x.args x.zS U.1)] Z (congrArg (fun c=>some (T.lst [c])) (Sel.Zf (Sel.mk x.kind (kd B.2) x.name x.on x.args x.zS U.1)).symm) Z Z Z ?_ (hl:=fun x=>(congrArg List.length (Sel.Zf x)).trans Z);refine fM Z ?_;refine aL Z Z Z Z Z ?_;refine fM Z ?_;exact zk 1 Z (ihl (B.1++[Sel.mk x.kind (kd B.2) x.name x.on x.args x.zS U.1],U.2) (by rw [hinv];simp)) Z Z Z
  ·have hk':¬ x.kind=1:=by simpa using hk
   rw [Y0 hk'] at hinv;have q1:=Zc x.z7 B.2;have q2:=Zc r (zt x.z7 B.2).2
   have hW1:W.1.length=B.1.length+(1+(zt r (zt x.z7 B.2).2).1.length):=by rw [hinv];simp;omega
   have hW2:W.2=(zt r (zt x.z7 B.2).2).2:=by rw [hinv]
   have hcall:=ih x.z7 B.2 hsz (zU.sub hx) (by omega);unfold z4d at hcall;generalize hU:zt x.z7 B.2=U at hinv q1 q2 hW1 hW2 hcall;refine fR Z ?_;refine Mid.call (hcall) Z Z Z Z ?_;refine fM Z ?_;refine apM Sel.enc B.1 [(Sel.mk x.kind x.ali x.name x.on x.args x.zS U.1)] Z (congrArg (fun c=>some (T.lst [c])) (Sel.Zf (Sel.mk x.kind x.ali x.name x.on x.args x.zS U.1)).symm) Z Z Z ?_ (hl:=fun x=>(congrArg List.length (Sel.Zf x)).trans Z);refine fM Z ?_;refine aL Z Z Z Z Z ?_;refine fM Z ?_;exact zk 1 Z (ihl (B.1++[Sel.mk x.kind x.ali x.name x.on x.args x.zS U.1],U.2) (by rw [hinv];simp)) Z Z Z
theorem z5S (H:yx P):∀(l:List Sel) (n:Nat),zU l->(zt l n).2<=4611686018427387904->z4d P l n
 |l,n,hl,hn=>z9a H l n hl hn fun l' n' hs hl' hn'=>z5S H l' n' hl' hn'
termination_by l=>SizeOf.sizeOf l
end Go.GB.C15
namespace Go.GB.C11
open Go.GB
def wFd:List Field->Nat
 |[]=>0
 |f::r=>f.args.length+f.zS.length+wFd r
def wD (d:Def):Nat:=1+d.fields.length+d.members.length+d.zH.length+d.zS.length+d.implements.length+wFd d.fields
def wDs:List Def->Nat
 |[]=>0
 |d::r=>wD d+wDs r
structure Small (ds:List Def):Prop where
 l:ds.length<=70
 w:wDs ds<=200000
 dd:∀d,d∈ds->wD d<=3000
theorem z9x:∀{l:List Field} {f:Field},f∈l->f.args.length<=wFd l
 |[],d,h=>by cases h
 |x::r,d,h=>by
  simp only [wFd]
  rcases List.mem_cons.1 h with rfl|h
  ·omega
  ·have:=z9x h;omega
theorem Small.d {ds:List Def} (h:Small ds) {d:Def} (hd:d∈ds):wD d<=3000:=h.dd d hd
theorem z3Q (ds:List Def) (a b:Str):∀(l p:List Input),(inF ds a b p l).length<=3*l.length
 |[],p=>by simp [inF]
 |x::r,p=>by
  have h1:=z3Q ds a b r (p++[x]);have h2:=w5 x.name false (Z1 x.name p).isSome (a++x.name++b);simp only [inF,z9Q,List.length_append,List.length_cons];split
  ·simp only [List.length_cons,List.length_nil];omega
  ·split
   ·simp only [List.length_cons,List.length_nil];omega
   ·simp only [List.length_nil];omega
theorem z4u (ds:List Def) (n:Str):∀(l p:List Field),(QD ds n p l).length<=3*(l.length+wFd l)
 |[],p=>by simp [QD]
 |x::r,p=>by
  have h1:=z4u ds n r (p++[x]);have h2:=w5 x.name false (zD x.name p).isSome (n++[46]++x.name);have h3:=z3Q ds (n++[46]++x.name++[40]) [41] x.args [];simp only [QD,z6A,List.length_append,List.length_cons,wFd];split
  ·simp only [List.length_cons,List.length_nil];omega
  ·split
   ·simp only [List.length_cons,List.length_nil];omega
   ·simp only [List.length_nil];omega
theorem z5t (n:Str):∀(l p:List ZF),(z0F n p l).length<=2*l.length
 |[],p=>by simp [z0F]
 |x::r,p=>by
  have h1:=z5t n r (p++[x]);have h2:=w5 x.name (z3v x.name) (qU p x.name) (n++[46]++x.name);simp only [z0F,List.length_append,List.length_cons];omega
theorem z6H (ds:List Def) (i:Nat) (d:Def):(Yg ds i d).length<=5:=by
 have:=w5 d.name false (z00 ds i d.name) d.name;unfold Yg;simp only [List.length_append]
 split<;>split<;>split<;>simp<;>omega
theorem z4p (ds:List Def):∀(l:List Def) (i:Nat),(z0I ds i l).length<=5*l.length+3*wDs l
 |[],i=>by simp [z0I]
 |d::r,i=>by
  have h1:=z4p ds r (i+1);have h2:=z6H ds i d
  have h3:(zbT ds d).length<=3*wD d:=by
   have a1:=z4u ds d.name d.fields [];have a2:=z5t d.name d.members [];have a3:=z3Q ds (d.name++[46]) [] d.zH [];unfold zbT wD;split
   ·omega
   ·split
    ·omega
    ·split
     ·omega
     ·split
      ·omega
      ·simp
  simp only [z0I,List.length_append,List.length_cons,wDs];omega
theorem z8o {ds:List Def} (h:Small ds) (q:Bool):(Wd ds q).length<=4398046511104:=by
 have h1:=z4p ds ds 0;have h2:=h.l;have h3:=h.w;unfold Wd z4H;rw [List.length_append]
 split<;>simp<;>omega
theorem z2G (y:Field) (a:Str):∀l:List Input,(qd y a l).length<=l.length
 |[]=>by simp [qd]
 |x::r=>by
  have:=z2G y a r
  simp only [qd];split<;>simp<;>omega
theorem z2A (y:Field) (a:Str):∀l:List Input,(Wv y a l).length<=l.length
 |[]=>by simp [Wv]
 |x::r=>by
  have:=z2A y a r
  simp only [Wv];split<;>simp<;>omega
theorem z2m (ds:List Def) (t:Def) (ht:∀y,y∈t.fields->y.args.length<=3000):∀l:List Field,(∀x,x∈l->x.args.length<=3000)->(Ws ds t l).length<=6001*l.length
 |[],_=>by simp [Ws]
 |x::r,h=>by
  have h1:=z2m ds t ht r (fun y hy=>h y (List.mem_cons_of_mem _ hy));have h2:=h x (by simp)
  have h3:(z4S ds t x).length<=6001:=by
   unfold z4S
   cases hf:zD x.name t.fields with
   |none=>simp
   |some y=>
    have a1:=z2G y (atF t x) x.args;have a2:=z2A x (atF t x) y.args;have a3:=ht y (YD hf);simp only [List.length_append]
    split<;>simp<;>omega
  simp only [Ws,List.length_append,List.length_cons];omega
theorem z2v {d:Def} (h:wD d<=3000):d.fields.length<=3000/\∀y,y∈d.fields->y.args.length<=3000:=by
 unfold wD at h
 exact ⟨by omega,fun y hy=>by have:=z9x hy;omega⟩
theorem z6g {ds:List Def} (h:Small ds) (n:Str):wD ((zh n ds).getD Def.zero)<=3000:=by
 cases hf:zh n ds with
 |none=>simp [wD,Def.zero,wFd]
 |some o=>exact h.d (Y5 hf)
theorem z5c {ds:List Def} (h:Small ds) {t:Def} (ht:t∈ds):∀(l p:List Str),(z3A ds t p l).length<=18003001*l.length
 |[],p=>by simp [z3A]
 |n::r,p=>by
  have h1:=z5c h ht r (p++[n]);have h2:=z2v (z6g h n);have h3:=z2m ds t (z2v (h.d ht)).2 ((zh n ds).getD Def.zero).fields h2.2;simp only [z3A,List.length_append,List.length_cons];split
  ·omega
  ·simp only [List.length_cons,List.length_nil];omega
theorem z7d (ds:List Def) (t:Def):∀(l p:List ZF),(unL ds t p l).length<=l.length
 |[],p=>by simp [unL]
 |m::r,p=>by
  have h1:=z7d ds t r (p++[m]);simp only [unL,List.length_append,List.length_cons]
  split<;>simp<;>omega
theorem z1f {ds:List Def} (h:Small ds):∀l:List Def,(∀d,d∈l->d∈ds)->(wI ds l).length<=54009003000*l.length
 |[],_=>by simp [wI]
 |t::r,hl=>by
  have h1:=z1f h r (fun d hd=>hl d (List.mem_cons_of_mem _ hd));have ht:=hl t (by simp);have h2:=z5c h ht t.implements [];have h3:=z7d ds t t.members [];have h4:=h.d ht;unfold wD at h4;simp only [wI,List.length_append,List.length_cons,z8g];split
  ·omega
  ·split
   ·omega
   ·simp only [List.length_nil];omega
theorem z7S {ds:List Def} (h:Small ds):(QQ ds).length<=4398046511104:=by
 have h1:=z1f h ds (fun _ hd=>hd);have h2:=h.l;unfold QQ;omega
end Go.GB.C11
namespace Go.GB.C15
open Go.GB Go.GB.C11
variable {P:Program}
def DA (l:List Dir):Prop:=∀y,y∈l->y.args.length<=16
theorem zad (H:Pr P) (s:Str):z9 P 45 [.t (.str s)] ⟨[],0⟩ {v:= .t (.bool (zl s))}:=by
 by_cases h':s.length<=140737488355328
 ·exact yt H s h'
 ·have e:zl s=false:=by unfold zl;rw [show decide (1<=s.length/\s.length<=64)=false from by simp;omega];rfl
  rw [e];refine z9.run H.i45 H.mixed Z Z ?_;refine fR Z ?_;refine Run.zm Z Z (by simp;omega) ?_;refine fR Z ?_;refine Run.fin Z (z5.go ?_);exact .t Z
theorem zdl (H:ZU P):C29.R6 P zl C11.Q1 wo:=⟨zad H.toPr,qY H,C11.Qf H.toPr⟩
abbrev zaw (d:Def):Bool:=C29.z2d zl C11.Q1 wo d
abbrev z1A (ds:List Def):Bool:=C29.z6E zl C11.Q1 wo ds
theorem wG {s:Str} (h:zl s=true):s≠[]/\s.length<=64:=by
 unfold zl at h;simp only [Bool.and_eq_true,decide_eq_true_eq] at h
 exact ⟨by rintro rfl;simp at h,h.1.2⟩
theorem z0X {l:List Dir} (h:C29.yS zl C11.Q1 l=true):l.length<=16/\DA l:=by
 unfold C29.yS at h;simp only [Bool.and_eq_true,decide_eq_true_eq,List.all_eq_true] at h;refine ⟨h.1,fun y hy=>?_⟩;have:=h.2 y hy;unfold C29.z6D at this;simp only [Bool.and_eq_true,decide_eq_true_eq] at this;omega
theorem z2Z {l:List Input} (h:C29.Yk zl C11.Q1 wo l=true):l.length<=16/\∀x,x∈l->x.name≠[]/\x.zS.length<=16:=by
 unfold C29.Yk at h;simp only [Bool.and_eq_true,decide_eq_true_eq,List.all_eq_true] at h;refine ⟨h.1,fun y hy=>?_⟩;have:=h.2 y hy;unfold C29.inR at this;simp only [Bool.and_eq_true] at this;exact ⟨(wG this.1.1.1).1,(z0X this.1.2).1⟩
structure FR (f:Field):Prop where
 nn:f.name≠[]
 al:f.args.length<=16
 ai:∀x,x∈f.args->x.name≠[]/\x.zS.length<=16
 dl:f.zS.length<=16
 da:DA f.zS
 ty:wo f.ty=true
theorem z2z {l:List Field} (h:C29.YF zl C11.Q1 wo l=true):l.length<=64/\∀x,x∈l->FR x:=by
 unfold C29.YF at h;simp only [Bool.and_eq_true,decide_eq_true_eq,List.all_eq_true] at h;refine ⟨h.1.2,fun y hy=>?_⟩;have:=h.2 y hy;unfold C29.z04 at this;simp only [Bool.and_eq_true] at this;have h1:=z2Z this.1.1.2;have h2:=z0X this.2;exact ⟨(wG this.1.1.1).1,h1.1,h1.2,h2.1,h2.2,this.1.2⟩
theorem z21 {l:List ZF} {pl:Bool} (h:C29.yF zl C11.Q1 l pl=true):l.length<=64/\∀x,x∈l->x.name≠[]/\x.zS.length<=16/\DA x.zS:=by
 unfold C29.yF at h;simp only [Bool.and_eq_true,decide_eq_true_eq,List.all_eq_true] at h;refine ⟨h.1.2,fun y hy=>?_⟩;have:=h.2 y hy;unfold C29.z8C at this;simp only [Bool.and_eq_true] at this;have h2:=z0X this.1.2;exact ⟨(wG this.1.1).1,h2.1,h2.2⟩
structure DR (d:Def):Prop where
 nm:d.name≠[]
 dl:d.zS.length<=16
 da:DA d.zS
 il:d.implements.length<=64
 fl:d.fields.length<=64
 f:∀x,x∈d.fields->FR x
 ml:d.members.length<=64
 m:∀x,x∈d.members->x.name≠[]/\x.zS.length<=16/\DA x.zS
 nl:d.zH.length<=16
 n:∀x,x∈d.zH->x.name≠[]/\x.zS.length<=16
 kd:(d.kind=1/\d.members=[]/\d.zH=[])∨(d.kind=2/\d.implements=[]/\d.members=[]/\d.zH=[])∨(d.kind=3/\d.implements=[]/\d.fields=[]/\d.zH=[])∨(d.kind=4/\d.implements=[]/\d.fields=[]/\d.zH=[])∨(d.kind=5/\d.implements=[]/\d.fields=[]/\d.members=[])
theorem zcE {d:Def} (h:zaw d=true):DR d:=by
 unfold zaw C29.z2d at h;simp only [Bool.and_eq_true,decide_eq_true_eq] at h;obtain ⟨⟨⟨⟨h1,h2⟩,h3⟩,h4⟩,h5⟩:=h;have hd:=z0X h2;unfold C29.z7e at h5;split at h5
 ·rename_i hk;simp only [Bool.and_eq_true,decide_eq_true_eq,List.length_eq_zero_iff] at h5;have hf:=z2z h5.1.1
  refine ⟨(wG h1).1,hd.1,hd.2,h3,hf.1,hf.2,?_,?_,?_,?_,.inl ⟨hk,h5.1.2,h5.2⟩⟩<;>simp [h5.1.2,h5.2]
 ·split at h5
  ·rename_i hk;simp only [Bool.and_eq_true,decide_eq_true_eq,List.length_eq_zero_iff] at h5;have hf:=z2z h5.1.1.2
   refine ⟨(wG h1).1,hd.1,hd.2,h3,hf.1,hf.2,?_,?_,?_,?_,.inr (.inl ⟨hk,h5.1.1.1,h5.1.2,h5.2⟩)⟩<;>simp [h5.1.2,h5.2]
  ·split at h5
   ·rename_i hk;simp only [Bool.and_eq_true,decide_eq_true_eq,List.length_eq_zero_iff] at h5;have hm:=z21 h5.1.2
    refine ⟨(wG h1).1,hd.1,hd.2,h3,?_,?_,hm.1,hm.2,?_,?_,.inr (.inr (.inl ⟨hk,h5.1.1.1,h5.1.1.2,h5.2⟩))⟩<;>simp [h5.1.1.2,h5.2]
   ·split at h5
    ·rename_i hk;simp only [Bool.and_eq_true,decide_eq_true_eq,List.length_eq_zero_iff] at h5;have hm:=z21 h5.1.2
     refine ⟨(wG h1).1,hd.1,hd.2,h3,?_,?_,hm.1,hm.2,?_,?_,.inr (.inr (.inr (.inl ⟨hk,h5.1.1.1,h5.1.1.2,h5.2⟩)))⟩<;>simp [h5.1.1.2,h5.2]
    ·split at h5
     ·rename_i hk;simp only [Bool.and_eq_true,decide_eq_true_eq,List.length_eq_zero_iff] at h5;have hn:=z2Z h5.2
      refine ⟨(wG h1).1,hd.1,hd.2,h3,?_,?_,?_,?_,hn.1,hn.2,.inr (.inr (.inr (.inr ⟨hk,h5.1.1.1.1,h5.1.1.1.2,h5.1.1.2⟩)))⟩<;>simp [h5.1.1.1.2,h5.1.1.2]
     ·cases h5
theorem za4:∀{l:List Field},(∀x,x∈l->FR x)->wFd l<=32*l.length
 |[],_=>by simp [wFd]
 |f::r,h=>by
  have h1:=h f (by simp);have h2:=h1.al;have h3:=h1.dl;have h4:=za4 (l:=r) fun x hx=>h x (by simp [hx]);simp only [wFd,List.length_cons];omega
theorem DR.wD {d:Def} (h:DR d):wD d<=3000:=by
 have h1:=za4 h.f;have:=h.fl;have:=h.ml;have:=h.nl;have:=h.dl;have:=h.il;unfold C11.wD;omega
theorem z9e:∀{l:List Def},(∀x,x∈l->DR x)->wDs l<=3000*l.length
 |[],_=>by simp [wDs]
 |f::r,h=>by
  have h1:=(h f (by simp)).wD;have h4:=z9e (l:=r) fun x hx=>h x (by simp [hx]);simp only [wDs,List.length_cons];omega
theorem zax {ds:List Def} (h:z1A ds=true):ds.length<=64/\∀d,d∈ds->DR d:=by
 unfold z1A C29.z6E at h;simp only [Bool.and_eq_true,decide_eq_true_eq,List.all_eq_true] at h;exact ⟨h.1.2,fun d hd=>zcE (h.2 d hd)⟩
theorem z73 {ds:List Def} (hr:z1A ds=true):Small ds:=by
 have h1:=zax hr;have hw:=z9e h1.2
 exact ⟨by omega,by omega,fun d hd=>(h1.2 d hd).wD⟩
end Go.GB.C15
namespace Go.GB.C11
open Go.GB
theorem z4M {ds:List Def}:∀{l:List Def} {i:Nat},z0I ds i l=[]->∀d,d∈l->wS d.name=true
 |[],i,_,d,h=>by cases h
 |x::r,i,h,d,hd=>by
  simp only [z0I,List.append_eq_nil_iff] at h
  rcases List.mem_cons.1 hd with rfl|hd
  ·have h1:=h.1.1;unfold Yg Zm at h1;simp only [List.append_eq_nil_iff] at h1;have h2:=h1.1.1.1.1
   cases ha:wS d.name with
   |true=>rfl
   |false=>rw [ha] at h2;simp at h2
  ·exact z4M h.2 d hd
theorem zaL {ds:List Def} (h:Wd ds false=[]):Z6 ds []=false:=by
 have h1:z0I ds 0 ds=[]:=by
  unfold Wd at h;exact (List.append_eq_nil_iff.1 h).1
 have h2:zh [] ds=none:=by
  cases hf:zh [] ds with
  |none=>rfl
  |some d=>
   have:=z4M h1 d (Y5 hf);rw [Wh hf] at this;exact absurd this (by decide)
 unfold Z6 z5h;rw [h2];rfl
def W8 (q:Query):List Sel->Bool
 |[]=>true
 |s::r=>(if s.kind=2 then (zd s.name q.z8).isSome else W8 q s.z7)&&W8 q r
termination_by l=>SizeOf.sizeOf l
decreasing_by
 all_goals simp_wf
 all_goals (have:=Sel.zB s;omega)
theorem zaz (q:Query):W8 q []=true:=by rw [W8]
theorem z0b {q:Query} {s:Sel} {r:List Sel} (h:s.kind=2):W8 q (s::r)=((zd s.name q.z8).isSome&&W8 q r):=by rw [W8,if_pos h]
theorem z4B {q:Query} {s:Sel} {r:List Sel} (h:¬ s.kind=2):W8 q (s::r)=(W8 q s.z7&&W8 q r):=by rw [W8,if_neg h]
theorem w6 {ds:List Def} {q:Query}:∀{l:List Sel} {on at_:Str},Yo ds q l on at_=[]->W8 q l=true
 |[],on,at_,_=>zaz q
 |s::r,on,at_,h=>by
  have hsz:=Sel.zB s;by_cases h2:s.kind=2
  ·rw [qc h2] at h;obtain ⟨h,hr⟩:=List.append_eq_nil_iff.1 h;obtain ⟨ha,_⟩:=List.append_eq_nil_iff.1 h;rw [z0b h2,w6 hr]
   cases hf:(zd s.name q.z8).isSome with
   |true=>rfl
   |false=>rw [hf] at ha;simp [ifL] at ha
  ·rw [z4B h2];by_cases h3:s.kind=3
   ·rw [WU h3] at h;obtain ⟨h,hr⟩:=List.append_eq_nil_iff.1 h;obtain ⟨_,hb⟩:=List.append_eq_nil_iff.1 h;rw [w6 hr,w6 hb];rfl
   ·rw [Q6 h2 h3] at h;obtain ⟨hb,hr⟩:=List.append_eq_nil_iff.1 h;rw [w6 hr,w6 hb];rfl
termination_by l=>SizeOf.sizeOf l
decreasing_by
 all_goals simp_wf
 all_goals (have:=Sel.zB s;omega)
theorem z7G {ds:List Def} {q:Query}:∀{l:List Op},opL ds q l=[]->∀o,o∈l->W8 q o.z7=true
 |[],_,o,h=>by cases h
 |x::r,h,o,ho=>by
  simp only [opL,List.append_eq_nil_iff] at h
  rcases List.mem_cons.1 ho with rfl|ho
  ·exact w6 h.1
  ·exact z7G h.2 o ho
theorem z7t {ds:List Def} {q:Query}:∀{l:List zA},frL ds q l=[]->∀f,f∈l->W8 q f.z7=true/\qg q f=false/\wb q f.name=true
 |[],_,f,h=>by cases h
 |x::r,h,f,hf=>by
  simp only [frL,List.append_eq_nil_iff] at h;obtain ⟨⟨⟨⟨_,h2⟩,h3⟩,h4⟩,h5⟩:=h
  rcases List.mem_cons.1 hf with rfl|hf
  ·refine ⟨w6 h4,?_,?_⟩
   ·cases hl:qg q f with
    |false=>rfl
    |true=>rw [hl] at h2;simp [ifL] at h2
   ·cases hu:wb q f.name with
    |true=>rfl
    |false=>rw [hu] at h3;simp [ifL] at h3
  ·exact z7t h5 f hf
structure Clean (q:Query):Prop where
 o:∀o,o∈q.ops->W8 q o.z7=true
 f:∀f,f∈q.z8->W8 q f.z7=true/\qg q f=false/\wb q f.name=true
theorem zaq {ds:List Def} {q:Query} (h:z4Y ds q=[]):Clean q:=by
 unfold z4Y at h;obtain ⟨h1,h2⟩:=List.append_eq_nil_iff.1 h;exact ⟨z7G h1,z7t h2⟩
theorem QJ:∀(l:List Sel),Sel.ws l<=Y9 (l.map Sel.enc)
 |[]=>by simp [Sel.ws]
 |s::r=>by
  have h1:=QJ r;have h2:=QJ s.z7;have hw:=Sel.z9R s;simp only [List.map_cons,Y9,Sel.ws];rw [Sel.Zf];simp only [Sel.cs,yy,T.bulk];omega
termination_by l=>SizeOf.sizeOf l
decreasing_by
 all_goals simp_wf
 all_goals (have:=Sel.zB s;omega)
theorem z9H:∀(l:List Op),yN l<=Y9 (l.map Op.enc)
 |[]=>by simp [yN]
 |o::r=>by
  have h1:=z9H r;have h2:=QJ o.z7;rw [W6];simp only [List.map_cons,Y9,Op.enc,yy,T.bulk];omega
theorem z5I:∀(l:List zA),frW l<=Y9 (l.map zA.enc)
 |[]=>by simp [frW]
 |o::r=>by
  have h1:=z5I r;have h2:=QJ o.z7;rw [qe];simp only [List.map_cons,Y9,zA.enc,yy,T.bulk];omega
end Go.GB.C11
namespace Go.GB.C15
open Go.GB Go.GB.C11
variable {P:Program}
def zc9 (ds:List Def) (q:Query):Bool:=
 (((((decide (C43.zcM 600 ds<=600)&&z1A ds)&&!C18.zdk q)&&qS q)&&((Wd ds false).length:Int)==0)&&((QQ ds).length:Int)==0)&&((z4Y ds q).length:Int)==0
theorem zaf {α:Type} {l:List α} (h:((l.length:Int)==0)=true):l=[]:=by
 cases l with
 |nil=>rfl
 |cons a r=>simp at h;omega
theorem z4E (H:yx P) (ds:List Def) (hD:Zd ds) (q:Query) (hq:q.Ok) (hw:yN q.ops+frW q.z8<=1099511627776):z9 P 7 [yd ds,q.v] ⟨[],0⟩ {v:= .t (.bool (zc9 ds q))}:=by
 have hil:z1A ds=true->∀o,o∈ds->o.zH.length<=2199023255552:=fun h o ho=>Nat.le_trans ((zax h).2 o ho).nl (by decide);refine z9.run H.i7 H.mixed Z Z ?_;refine fR Z ?_;refine Mid.call (C43.z3L H.p43 600 ds hD) Z Z Z Z ?_;refine fM Z ?_;refine caG Z Z (fun hg=>⟨_,rfl,C29.Qf H.pR (zdl H.p13) ds hD,rfl⟩) Z Z ?_;refine fM Z ?_;refine caG Z Z (fun hg=>⟨_,rfl,C18.zcJ H.p18 q hq,rfl⟩) Z Z ?_;refine fM Z ?_;refine caG Z Z (fun hg=>⟨_,rfl,z6l H.p13 q hq,rfl⟩) Z Z ?_;refine fM Z ?_;refine caG Z Z (fun hg=>⟨_,rfl,z91 H.p13.toPr ds hD (hil (by simp at hg;exact hg.1.1.2)) false (z8o (z73 (by simp at hg;exact hg.1.1.2)) false),rfl⟩) Z Z ?_;refine lMG Z Z Z Z ?_;refine fM Z ?_;refine caG Z Z (fun hg=>⟨_,rfl,z8D H.p13 ds hD (z7S (z73 (by simp at hg;exact hg.1.1.1.2))),rfl⟩) Z Z ?_;refine lMG Z Z Z Z ?_;refine fM Z ?_;refine caG Z Z (fun hg=>⟨_,rfl,z4C H.p13 ds hD (zaL (zaf (by simp at hg⊢;exact hg.1.2))) q hq hw,rfl⟩) Z Z ?_;refine lMG Z Z Z Z ?_;refine fM Z ?_;refine Run.fin Z (z5.go ?_);exact .t Z
end Go.GB.C15
namespace Go.GB.C15
open Go.GB Go.GB.C11
variable {P:Program}
def Zo:List Op->Nat->List Op×Nat
 |[],n=>([],n)
 |o::r,n=>(⟨o.kind,o.name,o.vars,(zt o.z7 n).1⟩::(Zo r (zt o.z7 n).2).1,(Zo r (zt o.z7 n).2).2)
def ZC:List zA->Nat->List zA×Nat
 |[],n=>([],n)
 |f::r,n=>(⟨f.name,f.on,(zt f.z7 n).1⟩::(ZC r (zt f.z7 n).2).1,(ZC r (zt f.z7 n).2).2)
theorem wP:∀(l:List Op) (n:Nat),n<=(Zo l n).2/\(Zo l n).1.length=l.length
 |[],n=>⟨Nat.le_refl _,rfl⟩
 |o::r,n=>by
  have h1:=Zc o.z7 n;have h2:=wP r (zt o.z7 n).2
  exact ⟨by show n<=(Zo r (zt o.z7 n).2).2;omega,by simp [Zo,h2.2]⟩
theorem wm:∀(l:List zA) (n:Nat),n<=(ZC l n).2/\(ZC l n).1.length=l.length
 |[],n=>⟨Nat.le_refl _,rfl⟩
 |o::r,n=>by
  have h1:=Zc o.z7 n;have h2:=wm r (zt o.z7 n).2
  exact ⟨by show n<=(ZC r (zt o.z7 n).2).2;omega,by simp [ZC,h2.2]⟩
def z22 (q:Query):Query:=⟨(Zo q.ops 0).1,(ZC q.z8 (Zo q.ops 0).2).1⟩
def z2f (q:Query):Nat:=(ZC q.z8 (Zo q.ops 0).2).2
theorem z4v (H:yx P) (hX:z9 P 8 [] ⟨[],0⟩ {v:= .t (.bool true)}) (ds:List Def) (hD:Zd ds) (q:Query) (hq:q.Ok) (hw:yN q.ops+frW q.z8<=1099511627776)
  (hn:z2f q<=4611686018427387904) (ho1:q.ops.length<=1048576) (hr:(z22 q).Ok) (hc:zc9 ds q=true->z6s ds (z22 q)):z9 P 5 [yd ds,q.v] ⟨[],0⟩ {v:= .t (.bool true)}:=by
 have hfl:=hq.fl;have hol:=hq.ol;refine z9.run H.i5 H.mixed Z Z ?_;refine fR Z ?_;refine Mid.call (z4E H ds hD q hq hw) Z Z Z Z ?_;refine fM Z ?_;refine Run.cond Z Z (fun he=>?_) (fun he=>?_)
 ·refine fR Z ?_;refine Mid.call (hX) Z Z Z Z ?_;refine fM Z ?_;refine Run.fin Z (z5.go ?_);exact .t Z
 ·have he':zc9 ds q=true:=by simpa using he
  have hcl:=z8n H ds hD (z22 q) hr (hc he');unfold z22 at hcl;unfold z2f at hn;have hno:=wm q.z8 (Zo q.ops 0).2;generalize hO:Zo q.ops 0=O at hcl hn hno;generalize hG:ZC q.z8 O.2=G at hcl hn hno
  have hOl:O.1.length=q.ops.length:=by rw [←hO];exact (wP _ _).2
  refine fR Z ?_;refine zx q.ops (fun i (B:List Op×Nat)=>{env:=[(2,.ptr 0 0),(3,.ptr 1 0),(5,.ptr 2 0),(6,.t (.int .i64 (B.2:Nat))),(7,.t (.int .i64 i))],s:=⟨[(0,.cells [.t (.lst (ds.map Def.enc))]),(1,.cells [.t (.lst (q.ops.map Op.enc)),.t (.lst (q.z8.map zA.enc))]),(2,.cells [.own 3 4 (B.1.map Op.enc),.zV]),(3,.arr B.1.length)],4⟩}) (fun r i B=>O=(B.1++(Zo r B.2).1,(Zo r B.2).2)) 3 ([],0) Z (by rw [←hO];simp) Z Z Z ?_ ?_
  ·rintro B hinv;simp only [Zo,List.append_nil] at hinv;subst hinv;refine fR Z ?_;refine lM Z Z Z ?_;refine fM Z ?_;refine Run.zj Z Z (by simp) ?_;refine fR Z ?_;refine zx q.z8 (fun i (C:List zA×Nat)=>{env:=[(2,.ptr 0 0),(3,.ptr 1 0),(5,.ptr 2 0),(6,.t (.int .i64 (C.2:Nat))),(9,.t (.int .i64 i))],s:=⟨[(0,.cells [.t (.lst (ds.map Def.enc))]),(1,.cells [.t (.lst (q.ops.map Op.enc)),.t (.lst (q.z8.map zA.enc))]),(2,.cells [.t (.lst (B.1.map Op.enc)),.own 4 3 (C.1.map zA.enc)]),(4,.arr C.1.length)],5⟩}) (fun r i C=>G=(C.1++(ZC r C.2).1,(ZC r C.2).2)) 4 ([],B.2) Z (by rw [←hG];simp) Z Z Z ?_ ?_
   ·rintro C hinv;simp only [ZC,List.append_nil] at hinv;subst hinv;refine fR Z ?_;refine lM Z Z Z ?_;refine fM Z ?_;refine Run.zj Z Z (by simp) ?_;refine fR Z ?_;refine Mid.call (hcl) Z Z Z Z ?_;refine p0 Z ?_;refine fM Z ?_;refine caG Z Z (fun hg=>⟨_,rfl,hX,rfl⟩) Z Z ?_;refine fM Z ?_;refine Run.fin Z (z5.go ?_);exact .t Z
   ·rintro i x r C h1 hi hd hinv ih;dsimp only at hinv ih⊢;simp only [ZC] at hinv;have hx:=hq.f x (zMG h1);have q1:=Zc x.z7 C.2;have q2:=wm r (zt x.z7 C.2).2
    have hW1:G.1.length=C.1.length+(1+(ZC r (zt x.z7 C.2).2).1.length):=by rw [hinv];simp;omega
    have hW2:G.2=(ZC r (zt x.z7 C.2).2).2:=by rw [hinv]
    have hcall:=z5S H x.z7 C.2 hx.s (by omega);unfold z4d at hcall;generalize hU:zt x.z7 C.2=U at hinv q1 q2 hW1 hW2 hcall;refine fR Z ?_;refine lM Z Z Z ?_;refine fM Z ?_;refine Run.zm Z Z (by simp;omega) ?_;refine fR Z ?_;refine Mid.ze Z Z Z h1 Z Z ?_;refine fM Z ?_;refine Mid.call (hcall) Z Z Z Z ?_;refine fM Z ?_;refine apM zA.enc C.1 [(⟨x.name,x.on,U.1⟩:zA)] Z Z Z Z Z ?_ (h1:=by first |omega|(simp;omega)|(simp;done)) (h2:=by first |omega|(simp;omega)|(simp;done));refine fM rfl ?_;refine aL rfl rfl rfl rfl rfl ?_;refine fM rfl ?_;exact zk 5 rfl (ih (C.1++[⟨x.name,x.on,U.1⟩],U.2) (by rw [hinv];simp)) rfl rfl rfl
  ·rintro i x r B h1 hi hd hinv ih;dsimp only at hinv ih⊢;simp only [Zo] at hinv;have hx:=hq.o x (zMG h1);have q1:=Zc x.z7 B.2;have q2:=wP r (zt x.z7 B.2).2
   have hW1:O.1.length=B.1.length+(1+(Zo r (zt x.z7 B.2).2).1.length):=by rw [hinv];simp;omega
   have hW2:O.2=(Zo r (zt x.z7 B.2).2).2:=by rw [hinv]
   have hcall:=z5S H x.z7 B.2 hx.s (by omega);unfold z4d at hcall;generalize hU:zt x.z7 B.2=U at hinv q1 q2 hW1 hW2 hcall;refine fR Z ?_;refine lM Z Z Z ?_;refine fM Z ?_;refine Run.zm Z Z (by simp;omega) ?_;refine fR Z ?_;refine Mid.ze Z Z Z h1 Z Z ?_;refine fM Z ?_;refine Mid.call (hcall) Z Z Z Z ?_;refine fM Z ?_;refine apM Op.enc B.1 [(⟨x.kind,x.name,x.vars,U.1⟩:Op)] Z Z Z Z Z ?_ (h1:=by first |omega|(simp;omega)|(simp;done)) (h2:=by first |omega|(simp;omega)|(simp;done));refine fM rfl ?_;refine aL rfl rfl rfl rfl rfl ?_;refine fM rfl ?_;exact zk 4 rfl (ih (B.1++[⟨x.kind,x.name,x.vars,U.1⟩],U.2) (by rw [hinv];simp)) rfl rfl rfl
end Go.GB.C15
namespace Go.GB.C15
open Go.GB Go.GB.C29
def z87 (l:Str):Int:=l.foldl (fun a c=>a*10+((c.toNat:Int) - 48)) 0
theorem z9p (a:Str) (c:UInt8):z87 (a++[c])=z87 a*10+((c.toNat:Int) - 48):=by simp [z87,List.foldl_append]
theorem zcy {n:Int} (hn:n<=0):n.tmod 10=-((-n)%10):=by
 have:=Int.neg_tmod (-n) 10;rw [Int.neg_neg] at this;rw [this,Int.tmod_eq_emod_of_nonneg (by omega)]
theorem zaE {n:Int} (hn:n<=0):∃c:UInt8,z46 n=[c]/\(c.toNat:Int) - 48=(-n)%10:=by
 refine ⟨_,rfl,?_⟩;have h1:=Int.emod_nonneg (-n) (show (10:Int)≠0 by decide);have h2:=Int.emod_lt_of_pos (-n) (show (0:Int)<10 by decide);rw [zcy hn];generalize (-n)%10=r at h1 h2
 have e1:IntKind.i64.wrap (48 - -r)=48+r:=by rw [wrap64 (by omega) (by omega)];omega
 rw [e1]
 have e2:IntKind.u8.wrap (48+r)=48+r:=by
  simp only [IntKind.wrap,IntKind.bits,IntKind.signed];simp;omega
 rw [e2];obtain ⟨m,rfl⟩:=Int.eq_ofNat_of_zero_le h1
 have:(48+(m:Int)).toNat=48+m:=by omega
 rw [this,UInt8.toNat_ofNat_of_lt' (by simp [UInt8.size];omega)];omega
theorem zdI:∀(k:Nat) (n:Int),-4611686018427387904<=n->n<=0->n.natAbs<k->z87 (Yr k n)=-n
 |0,n,_,_,h=>by omega
 |k+1,n,h1,h2,h3=>by
  obtain ⟨c,hc,hv⟩:=zaE h2;simp only [Yr];split
  ·rename_i h;rw [hc];simp only [z87,List.foldl_cons,List.foldl_nil];rw [hv];omega
  ·rename_i h;have e:=z6d (n:=n) (by omega);rw [wrap64 (by omega) (by omega),hc,z9p,zdI k (n.tdiv 10) (by omega) (by omega) (by omega),hv,e];omega
theorem zau {a b:Nat} (ha:a<=4611686018427387904) (hb:b<=4611686018427387904) (h:z0E (a:Int)=z0E (b:Int)):a=b:=by
 have key:∀m:Nat,m<=4611686018427387904->z87 (z0E (m:Int))=m:=by
  intro m hm;unfold z0E;rw [if_neg (by omega),wrap64 (by omega) (by omega),zdI _ _ (by omega) (by omega) (by omega)];omega
 have:=key a ha;rw [h,key b hb] at this;omega
theorem zaF {a b:Nat} (ha:a<=4611686018427387904) (hb:b<=4611686018427387904) (h:kd a=kd b):a=b:=
 zau ha hb (by unfold kd at h;exact (List.append_cancel_left h))
end Go.GB.C15
namespace Go.GB.C15
open Go.GB Go.GB.C11
def tk:List Sel->List Str
 |[]=>[]
 |s::r=>if s.kind=3 then tk s.z7++tk r else if s.kind=2 then tk r else Z7 s::tk r
termination_by l=>SizeOf.sizeOf l
decreasing_by
 all_goals first
  |(simp only [List.cons.sizeOf_spec];have:=Sel.zB s;omega)
theorem zdj:tk []=[]:=by rw [tk]
theorem z2Y {s:Sel} {r:List Sel} (h:s.kind=3):tk (s::r)=tk s.z7++tk r:=by rw [tk,if_pos h]
theorem z2o {s:Sel} {r:List Sel} (h:s.kind=2):tk (s::r)=tk r:=by rw [tk,if_neg (by omega),if_pos h]
theorem z4W {s:Sel} {r:List Sel} (h3:¬ s.kind=3) (h2:¬ s.kind=2):tk (s::r)=Z7 s::tk r:=by rw [tk,if_neg h3,if_neg h2]
def Wj:List Sel->Prop
 |[]=>True
 |s::r=>(s.kind=1∨s.kind=2∨s.kind=3)/\Wj s.z7/\Wj r
termination_by l=>SizeOf.sizeOf l
decreasing_by
 all_goals first
  |(simp only [List.cons.sizeOf_spec];have:=Sel.zB s;omega)
theorem QN {s:Sel} {r:List Sel}:Wj (s::r)↔(s.kind=1∨s.kind=2∨s.kind=3)/\Wj s.z7/\Wj r:=by rw [Wj]
structure Kin (a b:Nat) (l:List Str):Prop where
 nd:l.Nodup
 m:∀k,k∈l->∃i,a<=i/\i<b/\k=kd i
theorem Kin.mono {a b a' b':Nat} {l:List Str} (h:Kin a b l) (h1:a'<=a) (h2:b<=b'):Kin a' b' l:=
 ⟨h.nd,fun k hk=>by obtain ⟨i,h3,h4,h5⟩:=h.m k hk;exact ⟨i,by omega,by omega,h5⟩⟩
theorem Kin.app {a b c:Nat} {l r:List Str} (h1:Kin a b l) (h2:Kin b c r) (hab:a<=b) (hbc:b<=c) (hc:c<=4611686018427387904):Kin a c (l++r):=by
 refine ⟨List.nodup_append.2 ⟨h1.nd,h2.nd,fun x hx y hy e=>?_⟩,fun k hk=>?_⟩
 ·subst e;obtain ⟨i,g1,g2,g3⟩:=h1.m x hx;obtain ⟨j,g4,g5,g6⟩:=h2.m x hy;have:=zaF (by omega) (by omega) (g3.symm.trans g6);omega
 ·rcases List.mem_append.1 hk with h|h
  ·exact (h1.mono (Nat.le_refl _) hbc).m k h
  ·exact (h2.mono hab (Nat.le_refl _)).m k h
theorem Kin.one (n:Nat):Kin n (n+1) [kd n]:=⟨by simp,fun k hk=>⟨n,Nat.le_refl _,by omega,by simpa using hk⟩⟩
theorem Kin.nil (a b:Nat):Kin a b []:=⟨.nil,by simp⟩
theorem q9:∀(l:List Sel) (n:Nat),Wj l->(zt l n).2<=4611686018427387904->Kin n (zt l n).2 (tk (zt l n).1)
 |[],n,_,_=>by rw [wh,zdj];exact .nil _ _
 |s::r,n,hk,hb=>by
  obtain ⟨h,hs,hr⟩:=QN.1 hk;by_cases h1:s.kind=1
  ·rw [yZ h1] at hb⊢;have q1:=Zc s.z7 (n+1);have q2:=Zc r (zt s.z7 (n+1)).2;have hrr:=q9 r (zt s.z7 (n+1)).2 hr hb;show Kin n (zt r (zt s.z7 (n+1)).2).2 (tk (_::(zt r (zt s.z7 (n+1)).2).1));rw [z4W (by show ¬ s.kind=3;omega) (by show ¬ s.kind=2;omega)]
   have e:Z7 (.mk s.kind (kd n) s.name s.on s.args s.zS (zt s.z7 (n+1)).1)=kd n:=by
    unfold Z7;rw [if_neg (by show ¬ kd n=[];unfold kd;simp)];rfl
   rw [e];exact (Kin.one n).app (hrr.mono (by omega) (Nat.le_refl _)) (by omega) (by omega) hb
  ·rw [Y0 h1] at hb⊢;have q1:=Zc s.z7 n;have q2:=Zc r (zt s.z7 n).2;have hrr:=q9 r (zt s.z7 n).2 hr hb;show Kin n (zt r (zt s.z7 n).2).2 (tk (_::(zt r (zt s.z7 n).2).1));by_cases h3:s.kind=3
   ·rw [z2Y (by show s.kind=3;exact h3)];exact (q9 s.z7 n hs (by show _<=_;omega)).app hrr q1.1 q2.1 hb
   ·rw [z2o (by show s.kind=2;omega)];exact hrr.mono q1.1 (Nat.le_refl _)
termination_by l=>SizeOf.sizeOf l
decreasing_by
 all_goals first
  |(simp only [List.cons.sizeOf_spec];have:=Sel.zB s;omega)
def SpR (Rc:Str->Prop):List Sel->Prop
 |[]=>True
 |s::r=>(s.kind=2->Rc s.name)/\(s.kind=3->SpR Rc s.z7)/\SpR Rc r
termination_by l=>SizeOf.sizeOf l
decreasing_by
 all_goals first
  |(simp only [List.cons.sizeOf_spec];have:=Sel.zB s;omega)
theorem z58 {Rc:Str->Prop} {s:Sel} {r:List Sel}:SpR Rc (s::r)↔(s.kind=2->Rc s.name)/\(s.kind=3->SpR Rc s.z7)/\SpR Rc r:=by rw [SpR]
def Dis (a b:List Str):Prop:=∀x,x∈a->x∈b->False
structure z9J (q:Query) (Rc:Str->Prop):Prop where
 nd:∀n f,zd n q.z8=some f->Rc n->(tk f.z7).Nodup/\SpR Rc f.z7
 di:∀n m f g,zd n q.z8=some f->zd m q.z8=some g->Rc n->Rc m->n≠m->Dis (tk f.z7) (tk g.z7)
def yQ (es:List (Str×Sel)):List Str:=es.map fun p=>Z7 p.2
def Src (q:Query) (vs:List Str) (l:List Str) (k:Str):Prop:=k∈l∨∃v f,v∈vs/\zd v q.z8=some f/\k∈tk f.z7
structure QR (q:Query) (Rc:Str->Prop) (l:List Str) (B R:List Str×List (Str×Sel)):Prop where
 ex:∃vs es,R.1=B.1++vs/\R.2=B.2++es/\(yQ es).Nodup/\(∀v,v∈vs->Rc v/\¬ v∈B.1)/\∀k,k∈yQ es->Src q vs l k
theorem Src.dis {q:Query} {Rc:Str->Prop} (hF:z9J q Rc) {vs ws l r:List Str} {k:Str} (h1:Src q vs l k) (h2:Src q ws r k) (hlr:Dis l r)
  (hv:∀v,v∈vs->Rc v) (hw:∀w,w∈ws->Rc w/\¬ w∈vs) (hlw:∀w f,w∈ws->zd w q.z8=some f->Dis l (tk f.z7)) (hrv:∀v f,v∈vs->zd v q.z8=some f->Dis r (tk f.z7)):False:=by
 rcases h1 with h1|⟨v,f,a1,a2,a3⟩
 ·rcases h2 with h2|⟨w,g,b1,b2,b3⟩
  ·exact hlr k h1 h2
  ·exact hlw w g b1 b2 k h1 b3
 ·rcases h2 with h2|⟨w,g,b1,b2,b3⟩
  ·exact hrv v f a1 a2 k h2 a3
  ·exact hF.di v w f g a2 b2 (hv v a1) (hw w b1).1 (fun e=>(hw w b1).2 (e▸a1)) k a3 b3
theorem QR.none {q:Query} {Rc:Str->Prop} {l:List Str} {B:List Str×List (Str×Sel)}:QR q Rc l B B:=
 ⟨[],[],by simp,by simp,by simp [yQ],by simp,by simp [yQ]⟩
theorem QR.then {q:Query} {Rc:Str->Prop} (hF:z9J q Rc) {l r:List Str} {B U R:List Str×List (Str×Sel)} (h1:QR q Rc l B U) (h2:QR q Rc r U R) (hlr:Dis l r)
  (hl:∀v f,Rc v->¬ v∈B.1->zd v q.z8=some f->Dis l (tk f.z7)) (hr:∀v f,Rc v->¬ v∈B.1->zd v q.z8=some f->Dis r (tk f.z7)):QR q Rc (l++r) B R:=by
 obtain ⟨vs,es,a1,a2,a3,a4,a5⟩:=h1.ex;obtain ⟨ws,fs,b1,b2,b3,b4,b5⟩:=h2.ex
 have hw:∀w,w∈ws->Rc w/\¬ w∈B.1/\¬ w∈vs:=fun w hw=>by
  have:=(b4 w hw).2;rw [a1,List.mem_append] at this;exact ⟨(b4 w hw).1,fun h=>this (.inl h),fun h=>this (.inr h)⟩
 refine ⟨vs++ws,es++fs,by rw [b1,a1,List.append_assoc],by rw [b2,a2,List.append_assoc],?_,?_,?_⟩
 ·have e:yQ (es++fs)=yQ es++yQ fs:=by simp [yQ]
  rw [e];refine List.nodup_append.2 ⟨a3,b3,fun x hx y hy exy=>?_⟩;subst exy;exact (a5 x hx).dis hF (b5 x hy) hlr (fun v hv=>(a4 v hv).1) (fun w h=>⟨(hw w h).1,(hw w h).2.2⟩) (fun w f h hf=>hl w f (hw w h).1 (hw w h).2.1 hf) (fun v f h hf=>hr v f (a4 v h).1 (a4 v h).2 hf)
 ·intro v hv
  rcases List.mem_append.1 hv with h|h
  ·exact a4 v h
  ·exact ⟨(hw v h).1,(hw v h).2.1⟩
 ·intro k hk
  have e:yQ (es++fs)=yQ es++yQ fs:=by simp [yQ]
  rw [e] at hk
  rcases List.mem_append.1 hk with h|h
  ·rcases a5 k h with h|⟨v,f,c1,c2,c3⟩
   ·exact .inl (List.mem_append_left _ h)
   ·exact .inr ⟨v,f,List.mem_append_left _ c1,c2,c3⟩
  ·rcases b5 k h with h|⟨v,f,c1,c2,c3⟩
   ·exact .inl (List.mem_append_right _ h)
   ·exact .inr ⟨v,f,List.mem_append_right _ c1,c2,c3⟩
theorem QR.zbb {q:Query} {Rc:Str->Prop} {n:Str} {f:zA} {B U:List Str×List (Str×Sel)} (hf:zd n q.z8=some f) (hn:Rc n) (hb:¬ n∈B.1) (h:QR q Rc (tk f.z7) (B.1++[n],B.2) U):QR q Rc [] B U:=by
 obtain ⟨vs,es,h1,h2,h3,h4,h5⟩:=h.ex
 refine ⟨n::vs,es,by rw [h1];simp,h2,h3,fun v hv=>?_,fun k hk=>?_⟩
 ·rcases List.mem_cons.1 hv with rfl|hv
  ·exact ⟨hn,hb⟩
  ·exact ⟨(h4 v hv).1,fun h=>(h4 v hv).2 (List.mem_append_left _ h)⟩
 ·rcases h5 k hk with h|⟨v,g,c1,c2,c3⟩
  ·exact .inr ⟨n,f,by simp,hf,h⟩
  ·exact .inr ⟨v,g,List.mem_cons_of_mem _ c1,c2,c3⟩
theorem QR.field {q:Query} {Rc:Str->Prop} {s:Sel} {on:Str} {B:List Str×List (Str×Sel)}:QR q Rc [Z7 s] B (B.1,B.2++[(on,s)]):=
 ⟨[],[(on,s)],by simp,rfl,by simp [yQ],by simp,fun k hk=> .inl (by simpa [yQ] using hk)⟩
theorem z8N {a b:List Str} (h:(a++b).Nodup):a.Nodup/\b.Nodup/\Dis a b:=by
 obtain ⟨h1,h2,h3⟩:=List.nodup_append.1 h;exact ⟨h1,h2,fun x hx hy=>h3 x hx x hy Z⟩
theorem YH {q:Query} {Rc:Str->Prop} (hF:z9J q Rc):∀(n:Nat) (l:List Sel) (on:Str) (B:List Str×List (Str×Sel)),WOk q n B.1->SpR Rc l->(tk l).Nodup->(∀v f,Rc v->¬ v∈B.1->zd v q.z8=some f->Dis (tk l) (tk f.z7))->QR q Rc (tk l) B (ZP q n l on B)
 |n,[],on,B,hw,hs,hn,hd=>by rw [YG];exact .none
 |n,s::r,on,B,hw,hs,hn,hd=>by
  obtain ⟨g2,g3,gr⟩:=z58.1 hs;by_cases h3:s.kind=3
  ·rw [WY h3];rw [z2Y h3] at hn hd⊢;obtain ⟨m1,m2,m3⟩:=z8N hn;have d1:∀v f,Rc v->¬ v∈B.1->zd v q.z8=some f->Dis (tk s.z7) (tk f.z7):=fun v f a b c x hx hy=>hd v f a b c x (List.mem_append_left _ hx) hy;have d2:∀v f,Rc v->¬ v∈B.1->zd v q.z8=some f->Dis (tk r) (tk f.z7):=fun v f a b c x hx hy=>hd v f a b c x (List.mem_append_right _ hx) hy;have k1:=YH hF n s.z7 (if s.on=[] then on else s.on) B hw (g3 h3) m1 d1;have w1:=(y5 q n s.z7 (if s.on=[] then on else s.on) B hw).1;obtain ⟨vs,es,a1,_⟩:=k1.ex;exact k1.then hF (YH hF n r on _ w1 gr m2 (fun v f a b c=>d2 v f a (fun h=>b (by rw [a1];exact List.mem_append_left _ h)) c)) m3 d1 d2
  ·by_cases h2:s.kind=2
   ·rw [z2o h2] at hn hd⊢
    cases hf:zd s.name q.z8 with
    |none=>rw [QX h2 hf];exact YH hF n r on B hw gr hn hd
    |some f=>
     by_cases hi:s.name∈B.1
     ·rw [z3l h2 hf hi];exact YH hF n r on B hw gr hn hd
     ·match n,hw.pos hf hi with
      |0,e=>exact absurd e.choose_spec (by omega)
      |n'+1,_=>
       rw [z1c h2 hf hi];have hR:=g2 h2;obtain ⟨f1,f2⟩:=hF.nd s.name f hf hR;have hadd:WOk q n' (B.1++[s.name]):=hw.add hf hi;have k1:=(YH hF n' f.z7 f.on (B.1++[s.name],B.2) hadd f2 f1 (fun v g a b c=>hF.di s.name v f g hf c hR a (fun e=>b (by rw [←e];simp)))).zbb hf hR hi;have w1:=(y5 q n' f.z7 f.on (B.1++[s.name],B.2) hadd).1;obtain ⟨vs,es,a1,_⟩:=k1.ex
       have:=k1.then hF (YH hF (n'+1) r on _ ⟨by have:=w1.n;omega,w1.l⟩ gr hn (fun v f a b c=>hd v f a (fun h=>b (by rw [a1];exact List.mem_append_left _ h)) c)) (fun x hx _=>by cases hx) (fun v f a b c x hx _=>by cases hx) hd
       simpa using this
   ·rw [w7 h3 h2];rw [z4W h3 h2] at hn hd⊢;have hn':=List.nodup_cons.1 hn
    have:=(QR.field (q:=q) (Rc:=Rc) (s:=s) (on:=on) (B:=B)).then hF (YH hF n r on (B.1,B.2++[(on,s)]) hw gr hn'.2 (fun v f a b c x hx hy=>hd v f a b c x (List.mem_cons_of_mem _ hx) hy))
     (fun x hx hy=>hn'.1 (by rw [List.mem_singleton.1 hx] at hy;exact hy)) (fun v f a b c x hx hy=>hd v f a b c x (by rw [List.mem_singleton.1 hx];simp) hy) (fun v f a b c x hx hy=>hd v f a b c x (List.mem_cons_of_mem _ hx) hy)
    simpa using this
termination_by n l=>(n,SizeOf.sizeOf l)
decreasing_by
 all_goals first
  |(apply Prod.Lex.right;simp only [List.cons.sizeOf_spec];have:=Sel.zB s;omega)
  |(apply Prod.Lex.left;omega)
def SpA (R:Str->Prop):List Sel->Prop
 |[]=>True
 |s::r=>(s.kind=2->R s.name)/\(¬ s.kind=2->SpA R s.z7)/\SpA R r
termination_by l=>SizeOf.sizeOf l
decreasing_by
 all_goals first
  |(simp only [List.cons.sizeOf_spec];have:=Sel.zB s;omega)
theorem z3s {R:Str->Prop}:SpA R []:=by rw [SpA];trivial
theorem yG {R:Str->Prop} {s:Sel} {r:List Sel}:SpA R (s::r)↔(s.kind=2->R s.name)/\(¬ s.kind=2->SpA R s.z7)/\SpA R r:=by rw [SpA]
theorem SpA.mono {R S:Str->Prop} (h:∀x,R x->S x):∀{l:List Sel},SpA R l->SpA S l
 |[],_=>z3s
 |s::r,hs=>by
  obtain ⟨a,b,c⟩:=yG.1 hs;exact yG.2 ⟨fun k=>h _ (a k),fun k=>SpA.mono h (b k),SpA.mono h c⟩
termination_by l=>SizeOf.sizeOf l
decreasing_by
 all_goals first
  |(simp only [List.cons.sizeOf_spec];have:=Sel.zB s;omega)
theorem SpA.spR {R:Str->Prop}:∀{l:List Sel},SpA R l->SpR R l
 |[],_=>by rw [SpR];trivial
 |s::r,hs=>by
  obtain ⟨a,b,c⟩:=yG.1 hs;exact z58.2 ⟨a,fun k=>(b (by omega)).spR,c.spR⟩
termination_by l=>SizeOf.sizeOf l
decreasing_by
 all_goals first
  |(simp only [List.cons.sizeOf_spec];have:=Sel.zB s;omega)
theorem SpA.zaV:∀(l:List Sel),SpA (fun _=>True) l
 |[]=>z3s
 |s::r=>yG.2 ⟨fun _=>trivial,fun _=>SpA.zaV s.z7,SpA.zaV r⟩
termination_by l=>SizeOf.sizeOf l
decreasing_by
 all_goals first
  |(simp only [List.cons.sizeOf_spec];have:=Sel.zB s;omega)
theorem qB {R:Str->Prop}:∀(l:List Sel) (n:Nat),SpA R l->SpA R (zt l n).1
 |[],n,h=>by rw [wh];exact h
 |s::r,n,h=>by
  obtain ⟨a,b,c⟩:=yG.1 h;by_cases h1:s.kind=1
  ·rw [yZ h1];exact yG.2 ⟨fun k=>absurd k (by show ¬ s.kind=2;omega),fun k=>qB s.z7 (n+1) (b (by omega)),qB r _ c⟩
  ·rw [Y0 h1];exact yG.2 ⟨a,fun k=>qB s.z7 n (b k),qB r _ c⟩
termination_by l=>SizeOf.sizeOf l
decreasing_by
 all_goals first
  |(simp only [List.cons.sizeOf_spec];have:=Sel.zB s;omega)
theorem wR {q:Query} (hF:∀f,f∈q.z8->W8 q f.z7=true):∀(n:Nat) (l:List Sel) (out:List Str),WOk q n out->W8 q l=true->
  SpA (fun v=>v∈(zX q n l out).1) l/\∀v f,v∈(zX q n l out).1->¬ v∈out->zd v q.z8=some f->SpA (fun w=>w∈(zX q n l out).1) f.z7
 |n,[],out,hw,h=>by rw [z02];exact ⟨z3s,fun v f a b=>absurd a b⟩
 |n,s::r,out,hw,h=>by
  by_cases hk:s.kind=2
  ·rw [z0b hk] at h;simp only [Bool.and_eq_true] at h
   cases hf:zd s.name q.z8 with
   |none=>rw [hf] at h;simp at h
   |some f=>
    by_cases hi:s.name∈out
    ·rw [z1X hk hf hi];obtain ⟨a,b⟩:=wR hF n r out hw h.2;exact ⟨yG.2 ⟨fun _=>(y3 q n r out hw).2 _ hi,fun k=>absurd hk k,a⟩,b⟩
    ·match n,hw.pos hf hi with
     |0,e=>exact absurd e.choose_spec (by omega)
     |n'+1,_=>
      rw [QW hk hf hi];have hadd:=hw.add hf hi;have w1:=y3 q n' f.z7 (out++[s.name]) hadd
      have hw2:WOk q (n'+1) (zX q n' f.z7 (out++[s.name])).1:=⟨by have:=w1.1.n;omega,w1.1.l⟩
      have w2:=y3 q (n'+1) r (zX q n' f.z7 (out++[s.name])).1 hw2;obtain ⟨a1,b1⟩:=wR hF n' f.z7 (out++[s.name]) hadd (hF f (Zu hf));obtain ⟨a2,b2⟩:=wR hF (n'+1) r (zX q n' f.z7 (out++[s.name])).1 hw2 h.2;refine ⟨yG.2 ⟨fun _=>w2.2 _ (w1.2 _ (by simp)),fun k=>absurd hk k,a2⟩,fun v g hv hn hg=>?_⟩;by_cases hv1:v∈(zX q n' f.z7 (out++[s.name])).1
      ·by_cases hv2:v=s.name
       ·subst hv2;rw [hf] at hg;cases hg;exact a1.mono fun x hx=>w2.2 x hx
       ·exact (b1 v g hv1 (by simp [hn,hv2]) hg).mono fun x hx=>w2.2 x hx
      ·exact b2 v g hv hv1 hg
  ·rw [z4B hk] at h;simp only [Bool.and_eq_true] at h;rw [QT hk];have w1:=y3 q n s.z7 out hw;have w2:=y3 q n r (zX q n s.z7 out).1 w1.1;obtain ⟨a1,b1⟩:=wR hF n s.z7 out hw h.1;obtain ⟨a2,b2⟩:=wR hF n r (zX q n s.z7 out).1 w1.1 h.2;refine ⟨yG.2 ⟨fun k=>absurd k hk,fun _=>a1.mono fun x hx=>w2.2 x hx,a2⟩,fun v g hv hn hg=>?_⟩;by_cases hv1:v∈(zX q n s.z7 out).1
   ·exact (b1 v g hv1 hn hg).mono fun x hx=>w2.2 x hx
   ·exact b2 v g hv hv1 hg
termination_by n l=>(n,SizeOf.sizeOf l)
decreasing_by
 all_goals first
  |(apply Prod.Lex.right;simp only [List.cons.sizeOf_spec];have:=Sel.zB s;omega)
  |(apply Prod.Lex.left;omega)
theorem qo:∀(l:List zA) (n:Nat) (g:zA),g∈(ZC l n).1->∃f m,f∈l/\g=⟨f.name,f.on,(zt f.z7 m).1⟩/\n<=m/\(zt f.z7 m).2<=(ZC l n).2
 |[],n,g,h=>by cases h
 |f::r,n,g,h=>by
  have q1:=Zc f.z7 n;have q2:=wm r (zt f.z7 n).2;simp only [ZC] at h⊢
  rcases List.mem_cons.1 h with rfl|h
  ·exact ⟨f,n,by simp,rfl,Nat.le_refl _,q2.1⟩
  ·obtain ⟨x,m,a,b,c,d⟩:=qo r _ g h
   exact ⟨x,m,List.mem_cons_of_mem _ a,b,by omega,d⟩
theorem Q4:∀(l:List Op) (n:Nat) (g:Op),g∈(Zo l n).1->∃f m,f∈l/\g=⟨f.kind,f.name,f.vars,(zt f.z7 m).1⟩/\n<=m/\(zt f.z7 m).2<=(Zo l n).2
 |[],n,g,h=>by cases h
 |f::r,n,g,h=>by
  have q1:=Zc f.z7 n;have q2:=wP r (zt f.z7 n).2;simp only [Zo] at h⊢
  rcases List.mem_cons.1 h with rfl|h
  ·exact ⟨f,n,by simp,rfl,Nat.le_refl _,q2.1⟩
  ·obtain ⟨x,m,a,b,c,d⟩:=Q4 r _ g h
   exact ⟨x,m,List.mem_cons_of_mem _ a,b,by omega,d⟩
theorem QO:∀(l:List zA) (n:Nat) (g:zA),g∈(ZC l n).1->∃f m,f∈l/\g=⟨f.name,f.on,(zt f.z7 m).1⟩/\n<=m/\(zt f.z7 m).2<=(ZC l n).2/\
  ∀g',g'∈(ZC l n).1->¬ g'.name=g.name->∃f' m',f'∈l/\g'=⟨f'.name,f'.on,(zt f'.z7 m').1⟩/\n<=m'/\(zt f'.z7 m').2<=(ZC l n).2/\((zt f.z7 m).2<=m'∨(zt f'.z7 m').2<=m)
 |[],n,g,h=>by cases h
 |f::r,n,g,h=>by
  have q1:=Zc f.z7 n;have q2:=wm r (zt f.z7 n).2;simp only [ZC] at h⊢
  rcases List.mem_cons.1 h with rfl|h
  ·refine ⟨f,n,by simp,rfl,Nat.le_refl _,q2.1,fun g' hg' hn=>?_⟩
   rcases List.mem_cons.1 hg' with rfl|hg'
   ·exact absurd Z hn
   ·obtain ⟨x,m,a,b,c,d⟩:=qo r _ g' hg'
    exact ⟨x,m,List.mem_cons_of_mem _ a,b,by omega,d,.inl c⟩
  ·obtain ⟨x,m,a,b,c,d,e⟩:=QO r _ g h
   refine ⟨x,m,List.mem_cons_of_mem _ a,b,by omega,d,fun g' hg' hn=>?_⟩
   rcases List.mem_cons.1 hg' with rfl|hg'
   ·exact ⟨f,n,by simp,rfl,Nat.le_refl _,q2.1,.inr c⟩
   ·obtain ⟨y,k,a',b',c',d',e'⟩:=e g' hg' hn
    exact ⟨y,k,List.mem_cons_of_mem _ a',b',by omega,d',e'⟩
theorem z1T {v:Str}:∀(l:List zA) (n:Nat) (g:zA),zd v (ZC l n).1=some g->∃f m,zd v l=some f/\g.z7=(zt f.z7 m).1
 |[],n,g,h=>by simp [ZC,zd] at h
 |f::r,n,g,h=>by
  simp only [ZC,zd] at h⊢;by_cases hv:(f.name==v)=true
  ·rw [if_pos hv] at h⊢;cases h;exact ⟨f,n,rfl,rfl⟩
  ·rw [if_neg hv] at h⊢;exact z1T r _ g h
theorem z3y:∀(n:Int) (l:List Sel),ssR n l=true->Wj l
 |n,l,h=>by
  rw [zaG] at h;split at h
  ·cases h
  ·have key:∀s,s∈l->(s.kind=1∨s.kind=2∨s.kind=3)/\Wj s.z7:=by
    intro s hs;have hsz:SizeOf.sizeOf s.z7<SizeOf.sizeOf l:=Nat.lt_trans (Sel.zB s) (List.sizeOf_lt_of_mem hs);have h1:=List.all_eq_true.1 h s hs
    have nil:(s.z7.length:Int)=0->Wj s.z7:=fun e=>by
     have:s.z7=[]:=List.length_eq_zero_iff.1 (by omega);rw [this,Wj];trivial
    unfold z0z at h1;split at h1
    ·cases h1
    ·split at h1
     ·rename_i k;simp only [Bool.and_eq_true,Bool.or_eq_true,beq_iff_eq] at h1 k;exact ⟨.inl k,h1.2.elim nil (z3y _ s.z7)⟩
     ·split at h1
      ·rename_i k;simp only [Bool.and_eq_true,Bool.or_eq_true,beq_iff_eq] at h1 k;exact ⟨.inr (.inl k),nil h1.2⟩
      ·split at h1
       ·rename_i k;simp only [Bool.and_eq_true,Bool.or_eq_true,beq_iff_eq] at h1 k;exact ⟨.inr (.inr k),z3y _ s.z7 h1.2⟩
       ·cases h1
   have all:∀r:List Sel,(∀s,s∈r->(s.kind=1∨s.kind=2∨s.kind=3)/\Wj s.z7)->Wj r:=by
    intro r
    induction r with
    |nil=>intro _;rw [Wj];trivial
    |cons a t ih=>exact fun h=>QN.2 ⟨(h a (by simp)).1,(h a (by simp)).2,ih fun s hs=>h s (List.mem_cons_of_mem _ hs)⟩
   exact all l key
termination_by n l=>SizeOf.sizeOf l
theorem z8c {q:Query} (h:qS q=true):(∀o,o∈q.ops->Wj o.z7)/\∀f,f∈q.z8->Wj f.z7:=by
 unfold qS at h;split at h
 ·cases h
 ·simp only [Bool.and_eq_true,Bool.not_eq_true',List.any_eq_false] at h;refine ⟨fun o ho=>?_,fun f hf=>?_⟩
  ·have:=h.1 o ho;unfold z4P at this;simp only [Bool.or_eq_true,Bool.not_eq_true',not_or,Bool.not_eq_false] at this;exact z3y 1 o.z7 this.2
  ·have:=h.2 f hf;unfold z1t at this;simp only [Bool.or_eq_true,Bool.not_eq_true',not_or,Bool.not_eq_false] at this;exact z3y 1 f.z7 this.2
theorem z2E {α:Type} [DecidableEq α]:∀{l m:List α},l.Nodup->(∀x,x∈l->x∈m)->l.length<=m.length
 |[],m,_,_=>Nat.zero_le _
 |a::r,m,h,hs=>by
  obtain ⟨h1,h2⟩:=List.nodup_cons.1 h;have ha:=hs a (by simp);have:=z2E (m:=m.erase a) h2 fun x hx=>(List.mem_erase_of_ne (show ¬ x=a from fun e=>h1 (e▸hx))).2 (hs x (List.mem_cons_of_mem _ hx));rw [List.length_erase_of_mem ha] at this;have:0<m.length:=List.length_pos_of_mem ha;simp only [List.length_cons];omega
theorem z9C {l:List Str} {N:Nat} (h:l.Nodup) (hk:∀k,k∈l->∃i,i<N/\k=kd i):l.length<=N:=by
 have:=z2E (m:=(List.range N).map kd) h fun x hx=>by
  obtain ⟨i,hi,rfl⟩:=hk x hx;exact List.mem_map.2 ⟨i,List.mem_range.2 hi,rfl⟩
 simpa using this
theorem zbm {S:List (Str×Sel)} (h:(yQ S).Nodup):∀(i k:Nat) (a b:Str×Sel),i<k->S[i]?=some a->S[k]?=some b->¬ Z7 a.2=Z7 b.2:=by
 intro i k a b hik ha hb e
 have h1:(yQ S)[i]?=some (Z7 a.2):=by simp [yQ,ha]
 have h2:(yQ S)[k]?=some (Z7 b.2):=by simp [yQ,hb]
 obtain ⟨g1,e1⟩:=List.getElem?_eq_some_iff.1 h1;obtain ⟨g2,e2⟩:=List.getElem?_eq_some_iff.1 h2;exact List.pairwise_iff_getElem.1 h i k g1 g2 hik (e1.trans (e.trans e2.symm))
def Rng (a b:Nat) (l:List Str):Prop:=∀k,k∈l->∃i,a<=i/\i<b/\k=kd i
theorem Kin.rng {a b:Nat} {l:List Str} (h:Kin a b l):Rng a b l:=h.m
theorem Rng.dis {a b c d:Nat} {l r:List Str} (h1:Rng a b l) (h2:Rng c d r) (h:b<=c∨d<=a) (hb:b<=4611686018427387904) (hd:d<=4611686018427387904):Dis l r:=fun x hx hy=>by
 obtain ⟨i,g1,g2,g3⟩:=h1 x hx;obtain ⟨j,g4,g5,g6⟩:=h2 x hy;have:=zaF (by omega) (by omega) (g3.symm.trans g6);omega
structure z30 (q:Query) (Rc:Str->Prop) (a b N:Nat):Prop where
 F:z9J q Rc
 d:∀v f,Rc v->zd v q.z8=some f->∀l,Rng a b l->Dis l (tk f.z7)
 n:∀v f,zd v q.z8=some f->Rng 0 N (tk f.z7)
 b:b<=N
 N:N<=1099511627776
theorem Yu {q:Query} {ds:List Def} {Rc:Str->Prop} {a b N:Nat} (hA:z30 q Rc a b N):∀(l:List Sel) (m:Nat),a<=m->(zt l m).2<=b->Wj l->SpA Rc l->(∀on,Zt q ds (zt l m).1 on)/\∀on,Clean q ds (zt l m).1 on
 |l,m,h1,h2,hk,hs=>by
  have hbN:=hA.b;have hNN:=hA.N
  have hin:∀on,Zt q ds (zt l m).1 on:=by
   intro on
   match l,h2,hk,hs with
   |[],_,_,_=>rw [wh];exact .nil
   |s::r,h2,hk,hs=>
    obtain ⟨k0,ks,kr⟩:=QN.1 hk;obtain ⟨s1,s2,sr⟩:=yG.1 hs;by_cases e1:s.kind=1
    ·rw [yZ e1] at h2⊢;have q1:=Zc s.z7 (m+1);have q2:=Zc r (zt s.z7 (m+1)).2;have h2':(zt r (zt s.z7 (m+1)).2).2<=b:=h2;exact .field (by show ¬ s.kind=3;omega) (by show ¬ s.kind=2;omega) ((Yu hA s.z7 (m+1) (by omega) (by omega) ks (s2 (by omega))).2 _) ((Yu hA r _ (by omega) h2' kr sr).1 on)
    ·rw [Y0 e1] at h2⊢;have q1:=Zc s.z7 m;have q2:=Zc r (zt s.z7 m).2;have h2':(zt r (zt s.z7 m).2).2<=b:=h2;by_cases e3:s.kind=3
     ·exact .inline (by show s.kind=3;exact e3) ((Yu hA s.z7 m (by omega) (by omega) ks (s2 (by omega))).1 _) ((Yu hA r _ (by omega) h2' kr sr).1 on)
     ·exact .spread (by show s.kind=2;omega) ((Yu hA r _ (by omega) h2' kr sr).1 on)
  refine ⟨hin,fun on=>?_⟩;have hK:=q9 l m hk (by omega);have hC:=YH hA.F q.z8.length (zt l m).1 on ([],[]) (WOk.start q) (qB l m hs).spR hK.nd fun v f hv _ hf=>hA.d v f hv hf _ (hK.mono h1 h2).rng;obtain ⟨vs,es,a1,a2,a3,a4,a5⟩:=hC.ex
  have hS:WG q (zt l m).1 on=es:=by unfold WG;rw [a2];rfl
  refine .mk ?_ (by rw [hS];exact zbm a3) (hin on);rw [hS]
  have:=z9C (N:=N) a3 fun k hk=>by
   rcases a5 k hk with h|⟨v,f,c1,c2,c3⟩
   ·obtain ⟨i,g1,g2,g3⟩:=hK.m k h
    exact ⟨i,by omega,g3⟩
   ·obtain ⟨i,g1,g2,g3⟩:=hA.n v f c2 k c3;exact ⟨i,g2,g3⟩
  have e:(yQ es).length=es.length:=by simp [yQ]
  omega
termination_by l=>SizeOf.sizeOf l
decreasing_by
 all_goals first
  |(simp only [List.cons.sizeOf_spec];have:=Sel.zB s;omega)
end Go.GB.C15
namespace Go.GB
section
variable {P:Program} {n m:Nat} {R:St->Prop}
theorem Run.all {k k':List It} {c:zW} {st:St} {ι:Type} (F:ι->St) (hk:ZT 200 k= .c c::k') (hF:∀C Λ a,Rel C Λ st a->Λ.nxt=st.s.nxt->∃i,Rel C Λ (F i) a/\Λ.nxt=(F i).s.nxt)
  (h:∀i,Run P n m R (.c c::k') (F i)):Run P n m R k st:=
 Run.adv 200 hk (by
  simp only [Run,ZO] at h⊢;intro code h1 h2 h3 C Λ a h4 h5 h6 h7 h8;obtain ⟨i,g1,g2⟩:=hF C Λ a h7 h8
  exact h i code h1 h2 h3 C Λ a h4 h5 h6 g1 g2)
theorem Rel.zeg {C:Ctx} {Λ:L} {st:St} {a:Act} (h:Rel C Λ st a) {q:Nat} {o:z3} (hq:q<Λ.nxt) (ho:W5 Λ q o):Rel C Λ ⟨st.env,⟨yC st.s.sto q o,st.s.nxt⟩⟩ a:=by
 refine ⟨h.kp,h.size,h.defers,h.env,⟨fun k x hk0=>?_,h.s.inj,h.s.new,h.s.bnd,h.s.frz,h.s.YO,h.s.YM,h.s.z0H⟩⟩;have hk:zi (yC st.s.sto q o) k=some x:=hk0
 clear hk0
 rw [Zh] at hk;split at hk
 ·rename_i e;subst e;obtain rfl:=Option.some.inj hk;exact ⟨hq,ho⟩
 ·exact h.s.sto k x hk
theorem Rel.zef {C:Ctx} {Λ:L} {st:St} {a:Act} (h:Rel C Λ st a) {t:Nat} {x:V} (hx:zn Λ (a.tmps.getD t undef) x):Rel C Λ ⟨yC st.env t x,st.s⟩ a:=by
 refine ⟨h.kp,h.size,h.defers,fun s=>?_,h.s⟩;show zn Λ _ (look (yC st.env t x) s);rw [yL];split
 ·rename_i e;subst e;exact hx
 ·exact h.env s
theorem Run.zci {k k':List It} {c:zW} {st:St} {q:Nat} {kag:Bool} {I:List T->T->Prop} (hk:ZT 200 k= .c c::k') (hq:zi st.s.sto q=some (.zP kag I))
  (h:∀es:List (List T×V),(∀e,e∈es->∃x,e.2= .t x/\I e.1 x)->Run P n m R (.c c::k') ⟨st.env,⟨yC st.s.sto q (.map kag es none),st.s.nxt⟩⟩):Run P n m R k st:=by
 refine Run.all (ι:={es:List (List T×V)//∀e,e∈es->∃x,e.2= .t x/\I e.1 x}) (fun es=>⟨st.env,⟨yC st.s.sto q (.map kag es.1 none),st.s.nxt⟩⟩) hk (fun C Λ a hr hn=>?_) fun es=>h es.1 es.2;obtain ⟨hql,b,ents,clock,e1,e2,e3,e4,e5⟩:=hr.s.sto q _ hq
 have hex:∀l:List MapEntry,(∀e,e∈l->∃cs x,w8 Λ.lab Λ.w kag e.key cs/\zO Λ.lab Λ.w e.val x/\I cs x)->
   ∃es:List (List T×V),l.length=es.length/\(∀e,e∈es->∃x,e.2= .t x/\I e.1 x)/\∀(i:Nat) (e:MapEntry) (kv:List T×V),l[i]?=some e->es[i]?=some kv->w8 Λ.lab Λ.w kag e.key kv.1/\zn Λ e.val kv.2:=by
  intro l
  induction l with
  |nil=>intro _;exact ⟨[],rfl,by simp,by simp⟩
  |cons e r ih=>
   intro hl;obtain ⟨cs,x,g1,g2,g3⟩:=hl e (by simp);obtain ⟨es,h1,h2,h3⟩:=ih fun y hy=>hl y (by simp [hy])
   refine ⟨(cs,.t x)::es,by simp [h1],fun y hy=>?_,fun i y kv a1 a2=>?_⟩
   ·rcases List.mem_cons.1 hy with rfl|hy
    ·exact ⟨x,rfl,g3⟩
    ·exact h2 y hy
   ·cases i with
    |zero=>simp at a1 a2;subst a1;subst a2;exact ⟨g1,.t g2⟩
    |succ i=>exact h3 i y kv (by simpa using a1) (by simpa using a2)
 obtain ⟨es,h1,h2,h3⟩:=hex ents.toList fun e he=>by
  obtain ⟨i,hi⟩:=List.mem_iff_getElem?.1 he;exact e5 i e (by rw [←Array.getElem?_toList];exact hi)
 refine ⟨⟨es,h2⟩,hr.zeg hql ⟨b,ents,clock,e1,e2,⟨by rw [←h1];simp,fun i e kv a1 a2=>h3 i e kv (by rw [Array.getElem?_toList];exact a1) a2,e3,e4,fun c bs hc=>by cases hc⟩⟩,hn⟩
theorem zO.name {l:Nat->Lab} {w:World} {v:Value} {cs:List T} (h:zO l w v (.ptr cs)):∃a,zO l w v (.ad a cs):=by
 cases h with
 |ptr _ b o vf hr hc h=>exact ⟨_,.ad cs b o vf hr hc h⟩
theorem Run.z71 {k k':List It} {c:zW} {st:St} {t j:Nat} {vs:List V} {cs:List T} (hk:ZT 200 k= .c c::k') (ht:look st.env t= .agg vs) (hj:vs[j]?=some (.t (.ptr cs)))
  (h:∀a,Run P n m R (.c c::k') ⟨yC st.env t (.agg (vs.set j (.t (.ad a cs)))),st.s⟩):Run P n m R k st:=by
 refine Run.all (ι:=Addr) (fun a=>⟨yC st.env t (.agg (vs.set j (.t (.ad a cs)))),st.s⟩) hk (fun C Λ ac hr hn=>?_) h;have h0:=hr.env t;rw [ht] at h0;generalize hu:ac.tmps.getD t undef=u at h0
 cases h0 with
 |@agg us _ hs hv=>
  have hlt:j<us.size:=by rw [hs];exact (List.getElem?_eq_some_iff.1 hj).1
  obtain ⟨a,ha⟩:=(hv j us[j] _ (by simp [hlt]) hj).Zv.name;refine ⟨a,hr.zef (hu▸ .agg (by simpa using hs) fun i v d h1 h2=>?_),hn⟩;rw [List.getElem?_set] at h2;split at h2
  ·rename_i e;subst e;split at h2
   ·cases h2
    have:v=us[j]:=by rw [Array.getElem?_eq_getElem hlt] at h1;exact (Option.some.inj h1).symm
    rw [this];exact .t ha
   ·cases h2
  ·exact hv i v d h1 h2
end
end Go.GB
namespace Go.GB.C15
open Go.GB Go.GB.C11
variable {P:Program} {es:List (List T×Int)} {sx:Option (Nat×List Nat)}
theorem z17 (H:yx P):z9 P 135 [.t (.lst []),.t (.lst [])] ⟨[],0⟩ {v:= .t (.bool true)}:=by
 refine z9.run H.i135 H.mixed Z Z ?_;refine fR Z ?_;refine p0 Z ?_;refine fM Z ?_;refine zx ([]:List Arg) (fun i (_:Unit)=>{env:=[(1,.t (.lst [])),(8,.t (.lst [])),(9,.t (.int .i64 0)),(10,.t (.int .i64 i))],s:=⟨[],0⟩}) (fun r i _=>r=[]) 0 () Z Z Z Z Z ?_ ?_
 ·intro _ hinv;refine fR Z ?_;refine Run.zj Z Z (by simp) ?_;refine fR Z ?_;refine Run.fin Z (z5.go ?_);exact .t Z
 ·intro i x r _ h1 hi hd hinv ih;cases hinv
theorem z3I (H:yx P):z9 P 110 [.t (.lst []),.t (.lst [])] ⟨[],0⟩ {v:= .t (.bool true)}:=by
 refine z9.run H.i110 H.mixed Z Z ?_;refine fR Z ?_;refine p0 Z ?_;refine fM Z ?_;refine p0 Z ?_;refine fM Z ?_;refine caG Z Z (fun hg=>⟨_,rfl,z17 H,rfl⟩) Z Z ?_;refine fM Z ?_;refine caG Z Z (fun hg=>⟨_,rfl,z17 H,rfl⟩) Z Z ?_;refine fM Z ?_;refine Run.fin Z (z5.go ?_);exact .t Z
theorem z39 (H:yx P) (ds:List Def) (q:Query) (t:Ref) (ht:t.Ok):z9 P 108 [.ptr 0 0,t.v,t.v] ⟨[(0,.cells [.t (.lst (ds.map Def.enc)),.t (.lst (q.ops.map Op.enc)),.t (.lst (q.z8.map zA.enc)),.mp 1]),(1,.map true (mE kI iV es) sx)],2⟩ {v:= .t (.bool true),rd:=true}:=by
 have hl:=ht.l;have h1:=z2s H.p13.toPr t.zq t.zq (by omega) (by omega);rw [decide_eq_true rfl] at h1;have h2:=z5y H.p13.toPr t t ht ht
 rw [show z0y t t=true from by simp [z0y]] at h2
 refine z9.run H.i108 H.mixed Z Z ?_;refine fR Z ?_;refine Mid.call (h1) Z Z Z Z ?_;refine fM Z ?_;refine Run.zj Z Z Z ?_;refine fR Z ?_;refine Mid.call (h2) Z Z Z Z ?_;refine fM Z ?_;refine Mid.Y1 Z (by first |rfl|(simp;done)) Z Z Z ?_;refine fM Z ?_;refine Mid.Y1 Z (by first |rfl|(simp;done)) Z Z Z ?_;refine Mid.Y1 Z (by first |rfl|(simp;done)) Z Z Z ?_;refine fM Z ?_;refine Run.fin Z (z5.wA Z Z Z (by simp [zG];simp [z3.bd,V.bds,V.bd,V.zL,V.zK]) (.t Z))
def sA:Sel:= .mk 1 [] [97] [] [] [] []
def sB:Sel:= .mk 1 [97] [98] [] [] [] []
def onQ:Str:=[81,117,101,114,121]
def z1P:Ref:=⟨[73,110,116],[]⟩
def dX:List Def:=[⟨1,onQ,[],[],[⟨[97],[],z1P,[]⟩,⟨[98],[],z1P,[]⟩],[],[]⟩]
theorem z3z:z1P.Ok:=⟨by decide,by decide⟩
theorem z2M:Zd dX:=by
 refine ⟨by decide,fun y hy=>?_,by decide⟩
 simp [dX] at hy;subst hy
 refine ⟨by decide,by decide,by simp,by decide,fun z hz=>?_,by decide,by simp,by decide,by simp,by decide,by simp⟩
 simp at hz
 rcases hz with rfl|rfl<;>exact ⟨by decide,by simp,z3z,by decide,by simp,by decide⟩
theorem tyA:Yh dX onQ [97]=(z1P,true):=rfl
theorem tyB:Yh dX onQ [98]=(z1P,true):=rfl
theorem z9i (H:yx P) (q:Query) (hq:q.Ok):
  z9 P 69 [.ptr 0 0,.agg [.t (.str onQ),.t (.ptr sA.cs),.t (.str onQ),.t (.ptr sB.cs),.t (.bool false)]] ⟨[(0,.cells [.t (.lst (dX.map Def.enc)),.t (.lst (q.ops.map Op.enc)),.t (.lst (q.z8.map zA.enc)),.mp 1]),(1,.map true (mE kI iV es) sx)],2⟩ {v:= .t (.bool true),rd:=true}:=by
 have h1:=Qg H dX z2M onQ [97];have h2:=Qg H dX z2M onQ [98];rw [tyA] at h1;rw [tyB] at h2;have hs:=z39 (es:=es) (sx:=sx) H dX q z1P z3z
 have e0:WG q [] z1P.name=[]:=by unfold WG;rw [YG]
 have hset:=z1j (es:=es) (sx:=sx) H dX q hq [] z1P.name ⟨by simp,by simp⟩ (by rw [e0];simp)
 rw [e0] at hset;refine z9.run H.i69 H.mixed Z Z ?_;refine fR Z ?_;refine Mid.call (h1) Z Z Z Z ?_;refine fM Z ?_;refine Mid.call (h2) Z Z Z Z ?_;refine fM Z ?_;refine Run.zj Z Z Z ?_;refine fR Z ?_
 refine Mid.ZD [0,1] (hs) Z Z Z Z (by simp [zG];simp [z3.bd,V.bds,V.bd,V.zL,V.zK]) (by repeat' (first |exact trivial|exact rfl|refine And.intro ?_ ?_|exact (congrArg some (z3.zF _ _ _ _ _ _)).symm|exact (congrArg some (z3.zN _ _ _ _)).symm|exact (congrArg some (z3.ren_cE _ _ _)).symm|(refine (congrArg some (z3.ren_gE ?_ _ _)).symm;intro _;rfl))) Z ?_
 refine fM Z ?_;refine Run.zj Z Z Z ?_;refine fR Z ?_;refine Mid.Y1 Z Z Z Z Z ?_;refine fM Z ?_;refine Mid.Y1 Z Z Z Z Z ?_;refine fM Z ?_;refine Mid.Y1 Z (by first |rfl|(simp;done)) Z Z Z ?_;refine Mid.Y1 Z (by first |rfl|(simp;done)) Z Z Z ?_;refine fM Z ?_;refine Run.zm Z Z Z ?_;refine fR Z ?_;refine Run.fin Z (z5.wA Z Z Z (by simp [zG];simp [z3.bd,V.bds,V.bd,V.zL,V.zK]) (.t Z))
theorem z94 (H:yx P) (q:Query) (hq:q.Ok):
  z9 P 69 [.ptr 0 0,.agg [.t (.str onQ),.t (.ptr sA.cs),.t (.str onQ),.t (.ptr sA.cs),.t (.bool false)]] ⟨[(0,.cells [.t (.lst (dX.map Def.enc)),.t (.lst (q.ops.map Op.enc)),.t (.lst (q.z8.map zA.enc)),.mp 1]),(1,.map true (mE kI iV es) sx)],2⟩ {v:= .t (.bool false),rd:=true}:=by
 have h1:=Qg H dX z2M onQ [97];have h2:=Qg H dX z2M onQ [97];rw [tyA] at h1;rw [tyA] at h2;have hs:=z39 (es:=es) (sx:=sx) H dX q z1P z3z
 have e0:WG q [] z1P.name=[]:=by unfold WG;rw [YG]
 have hset:=z1j (es:=es) (sx:=sx) H dX q hq [] z1P.name ⟨by simp,by simp⟩ (by rw [e0];simp)
 rw [e0] at hset;refine z9.run H.i69 H.mixed Z Z ?_;refine fR Z ?_;refine Mid.call (h1) Z Z Z Z ?_;refine fM Z ?_;refine Mid.call (h2) Z Z Z Z ?_;refine fM Z ?_;refine Run.zj Z Z Z ?_;refine fR Z ?_
 refine Mid.ZD [0,1] (hs) Z Z Z Z (by simp [zG];simp [z3.bd,V.bds,V.bd,V.zL,V.zK]) (by repeat' (first |exact trivial|exact rfl|refine And.intro ?_ ?_|exact (congrArg some (z3.zF _ _ _ _ _ _)).symm|exact (congrArg some (z3.zN _ _ _ _)).symm|exact (congrArg some (z3.ren_cE _ _ _)).symm|(refine (congrArg some (z3.ren_gE ?_ _ _)).symm;intro _;rfl))) Z ?_
 refine fM Z ?_;refine Run.zj Z Z Z ?_;refine fR Z ?_;refine Mid.Y1 Z Z Z Z Z ?_;refine fM Z ?_;refine Mid.Y1 Z Z Z Z Z ?_;refine fM Z ?_;refine Mid.z3p Z Z Z ?_;refine Mid.call (z3I H) Z Z Z Z ?_;refine fM Z ?_;refine Run.zj Z Z Z ?_;refine fR Z ?_
 refine Mid.ZD [0,1] (hset) Z Z Z Z (by simp [zG];simp [z3.bd,V.bds,V.bd,V.zL,V.zK]) (by repeat' (first |exact trivial|exact rfl|refine And.intro ?_ ?_|exact (congrArg some (z3.zF _ _ _ _ _ _)).symm|exact (congrArg some (z3.zN _ _ _ _)).symm|exact (congrArg some (z3.ren_cE _ _ _)).symm|(refine (congrArg some (z3.ren_gE ?_ _ _)).symm;intro _;rfl))) Z ?_
 refine fM Z ?_
 refine Mid.ZD [0,1] (hset) Z Z Z Z (by simp [zG];simp [z3.bd,V.bds,V.bd,V.zL,V.zK]) (by repeat' (first |exact trivial|exact rfl|refine And.intro ?_ ?_|exact (congrArg some (z3.zF _ _ _ _ _ _)).symm|exact (congrArg some (z3.zN _ _ _ _)).symm|exact (congrArg some (z3.ren_cE _ _ _)).symm|(refine (congrArg some (z3.ren_gE ?_ _ _)).symm;intro _;rfl))) Z ?_
 refine fM Z ?_;refine lM Z Z Z ?_;refine fM Z ?_;refine zx ([]:List (Str×Sel)) (fun i (_:Unit)=>{env:=[(0,.ptr 0 0),(9,.t (.bool (false||false))),(11,.t (.lst [])),(139,.t (.lst [])),(140,.t (.int .i64 0)),(141,.t (.int .i64 i))],s:=⟨[(0,.cells [.t (.lst (dX.map Def.enc)),.t (.lst (q.ops.map Op.enc)),.t (.lst (q.z8.map zA.enc)),.mp 1]),(1,.map true (mE kI iV es) sx)],2⟩}) (fun r i _=>r=[]) 2 () Z Z Z Z Z ?_ ?_
 ·intro _ hinv;refine fR Z ?_;refine Run.zj Z Z (by simp) ?_;refine fR Z ?_;refine Run.fin Z (z5.wA Z Z Z (by simp [zG];simp [z3.bd,V.bds,V.bd,V.zL,V.zK]) (.t Z))
 ·intro i x r _ h1 hi hd hinv ih;cases hinv
def IX:List T->T->Prop:=fun _ x=>∃z:Int,x=iV z
theorem z7q (l:List (List T×Int)):∀e,e∈mE kI iV l->∃x,e.2= .t x/\IX e.1 x:=by
 intro e he;simp only [mE,List.mem_map] at he;obtain ⟨y,_,rfl⟩:=he;exact ⟨_,rfl,y.2,rfl⟩
theorem z9c:∀(es:List (List T×V)),(∀e,e∈es->∃x,e.2= .t x/\IX e.1 x)->∃l,es=mE kI iV l
 |[],_=>⟨[],rfl⟩
 |e::r,h=>by
  obtain ⟨l,hl⟩:=z9c r fun x hx=>h x (List.mem_cons_of_mem _ hx);obtain ⟨x,h1,z,h2⟩:=h e (by simp);refine ⟨(e.1,z)::l,?_⟩;simp only [mE,List.map_cons,kI] at hl⊢;rw [hl,←h2,←h1]
theorem z9g {a b:Addr} {cs ds:List T} {v w:V}:z6y [.str,.ptr,.str,.ptr,.bool] [.str onQ,.ad a cs,.str onQ,.ad b ds,.bool false] v [([.str onQ,.ad a cs,.str onQ,.ad b ds,.bool false],w)]=some [([.str onQ,.ad a cs,.str onQ,.ad b ds,.bool false],v)]:=by
 simp [z6y,zT,ZL,T.eqb,KSh.ok]
theorem LeX.key {m m':Nat} {a b:Addr} {cs ds:List T} {s t:Str} {f:Bool}:LeX m m' (.agg [.t (.str s),.t (.ad a cs),.t (.str t),.t (.ad b ds),.t (.bool f)]) (.agg [.t (.str s),.t (.ptr cs),.t (.str t),.t (.ptr ds),.t (.bool f)]):=
 ⟨.agg [.t (.str s),.t (.ptr cs),.t (.str t),.t (.ptr ds),.t (.bool f)],LeV.agg rfl (fun j c d h1 h2=>by
  match j with
  |0=>simp at h1 h2;subst h1;subst h2;exact .rfl
  |1=>simp at h1 h2;subst h1;subst h2;exact .adP
  |2=>simp at h1 h2;subst h1;subst h2;exact .rfl
  |3=>simp at h1 h2;subst h1;subst h2;exact .adP
  |4=>simp at h1 h2;subst h1;subst h2;exact .rfl
  |j+5=>simp at h1),by simp [V.bd,V.bds],.rfl⟩
theorem z76 (H:yx P) (q:Query) (hq:q.Ok):
  z9 P 33 [.ptr 0 0,.agg [.t (.str onQ),.t (.ptr sA.cs),.t (.str onQ),.t (.ptr sB.cs),.t (.bool false)]] ⟨[(0,.cells [.t (.lst (dX.map Def.enc)),.t (.lst (q.ops.map Op.enc)),.t (.lst (q.z8.map zA.enc)),.mp 1]),(1,.map true (mE kI iV []) sx)],2⟩ {v:= .t (.bool true),ob:=[(1,.zP true IX)],rd:=true}:=by
 refine z9.run H.i33 H.mixed Z Z ?_;refine Run.z71 (t:=1) (j:=1) Z Z Z (fun a=>?_);refine Run.z71 (t:=1) (j:=3) Z Z Z (fun b=>?_)
 have hd:=(z9i (es:=[([.str onQ,.ad a sA.cs,.str onQ,.ad b sB.cs,.bool false],1)]) (sx:=none) H q hq).wk (vs:=[.ptr 0 0,.agg [.t (.str onQ),.t (.ad a sA.cs),.t (.str onQ),.t (.ad b sB.cs),.t (.bool false)]]) (s:=⟨[(0,.cells [.t (.lst (dX.map Def.enc)),.t (.lst (q.ops.map Op.enc)),.t (.lst (q.z8.map zA.enc)),.mp 1]),(1,.map true (mE kI iV [([.str onQ,.ad a sA.cs,.str onQ,.ad b sB.cs,.bool false],1)]) none)],2⟩) (Nat.le_refl _) (.cons (.same rfl) (.cons LeX.key .nil)) (by repeat' (first |exact trivial|exact LeX.t|exact LeX.top|exact LeX.zp (zLB rfl) (zLB rfl)|exact LeX.Z2|exact LeX.Z3|exact LeX.same rfl|exact LeX.tEq (by simp)|exact LeX.ownEq (by simp) (zLB rfl)|exact LeX.tEq (by congr 1<;>omega)|exact Or.inr ⟨zLB rfl,zLB rfl,rfl⟩|refine Or.inl ⟨zLB rfl,_,rfl,?_⟩|refine LeO.cells ?_|exact LeO.arr rfl|exact LeO.arr (by simp)|exact LeO.mE (by first |rfl|simp) (by first |exact Or.inl rfl|exact Or.inr rfl)|exact LeO.zE (by first |rfl|simp) (by first |exact Or.inl rfl|exact Or.inr rfl)|exact LeO.cE (by first |rfl|simp)|exact za.cE (by first |rfl|simp)|exact LeO.zJ (by assumption)|exact LeO.zP (fun _ _ h=>h)|refine LeO.map (by first |rfl|simp) ?_ (by first |exact Or.inl rfl|exact Or.inr rfl)|exact LeO.iter (by first |rfl|simp) (zLB rfl)|refine za.cons ?_ ?_|exact za.nil|refine And.intro ?_ ?_)) rfl rfl rfl
 refine fR Z ?_;refine Mid.z8R Z Z Z (rfl) Z ?_;refine fM Z ?_;refine Run.zj Z Z Z ?_;refine fR Z ?_;refine Mid.zae (fs:=mE kI iV [([.str onQ,.ad a sA.cs,.str onQ,.ad b sB.cs,.bool false],1)]) Z Z Z Z Z ?_;refine fM Z ?_
 refine Mid.ZD [0,1] (hd) Z Z Z Z (by simp [zG];simp [z3.bd,V.bds,V.bd,V.zL,V.zK]) (by repeat' (first |exact trivial|exact rfl|refine And.intro ?_ ?_|exact (congrArg some (z3.zF _ _ _ _ _ _)).symm|exact (congrArg some (z3.zN _ _ _ _)).symm|exact (congrArg some (z3.ren_cE _ _ _)).symm|(refine (congrArg some (z3.ren_gE ?_ _ _)).symm;intro _;rfl))) Z ?_
 refine fM Z ?_;refine Run.zm Z Z Z ?_;refine fR Z ?_;refine Mid.zae (fs:=mE kI iV [([.str onQ,.ad a sA.cs,.str onQ,.ad b sB.cs,.bool false],2)]) Z Z Z z9g Z ?_;refine fM Z ?_;refine Run.fin Z (z5.chg Z Z ?_ ?_)
 ·exact .t Z
 ·have hI:=z7q [([.str onQ,.ad a sA.cs,.str onQ,.ad b sB.cs,.bool false],2)];exact leSA
theorem z7f (H:yx P) (q:Query) (hq:q.Ok):
  z9 P 33 [.ptr 0 0,.agg [.t (.str onQ),.t (.ptr sA.cs),.t (.str onQ),.t (.ptr sA.cs),.t (.bool false)]] ⟨[(0,.cells [.t (.lst (dX.map Def.enc)),.t (.lst (q.ops.map Op.enc)),.t (.lst (q.z8.map zA.enc)),.mp 1]),(1,.map true (mE kI iV []) sx)],2⟩ {v:= .t (.bool false),ob:=[(1,.zP true IX)],rd:=true}:=by
 refine z9.run H.i33 H.mixed Z Z ?_;refine Run.z71 (t:=1) (j:=1) Z Z Z (fun a=>?_);refine Run.z71 (t:=1) (j:=3) Z Z Z (fun b=>?_)
 have hd:=(z94 (es:=[([.str onQ,.ad a sA.cs,.str onQ,.ad b sA.cs,.bool false],1)]) (sx:=none) H q hq).wk (vs:=[.ptr 0 0,.agg [.t (.str onQ),.t (.ad a sA.cs),.t (.str onQ),.t (.ad b sA.cs),.t (.bool false)]]) (s:=⟨[(0,.cells [.t (.lst (dX.map Def.enc)),.t (.lst (q.ops.map Op.enc)),.t (.lst (q.z8.map zA.enc)),.mp 1]),(1,.map true (mE kI iV [([.str onQ,.ad a sA.cs,.str onQ,.ad b sA.cs,.bool false],1)]) none)],2⟩) (Nat.le_refl _) (.cons (.same rfl) (.cons LeX.key .nil)) (by repeat' (first |exact trivial|exact LeX.t|exact LeX.top|exact LeX.zp (zLB rfl) (zLB rfl)|exact LeX.Z2|exact LeX.Z3|exact LeX.same rfl|exact LeX.tEq (by simp)|exact LeX.ownEq (by simp) (zLB rfl)|exact LeX.tEq (by congr 1<;>omega)|exact Or.inr ⟨zLB rfl,zLB rfl,rfl⟩|refine Or.inl ⟨zLB rfl,_,rfl,?_⟩|refine LeO.cells ?_|exact LeO.arr rfl|exact LeO.arr (by simp)|exact LeO.mE (by first |rfl|simp) (by first |exact Or.inl rfl|exact Or.inr rfl)|exact LeO.zE (by first |rfl|simp) (by first |exact Or.inl rfl|exact Or.inr rfl)|exact LeO.cE (by first |rfl|simp)|exact za.cE (by first |rfl|simp)|exact LeO.zJ (by assumption)|exact LeO.zP (fun _ _ h=>h)|refine LeO.map (by first |rfl|simp) ?_ (by first |exact Or.inl rfl|exact Or.inr rfl)|exact LeO.iter (by first |rfl|simp) (zLB rfl)|refine za.cons ?_ ?_|exact za.nil|refine And.intro ?_ ?_)) rfl rfl rfl
 refine fR Z ?_;refine Mid.z8R Z Z Z (rfl) Z ?_;refine fM Z ?_;refine Run.zj Z Z Z ?_;refine fR Z ?_;refine Mid.zae (fs:=mE kI iV [([.str onQ,.ad a sA.cs,.str onQ,.ad b sA.cs,.bool false],1)]) Z Z Z Z Z ?_;refine fM Z ?_
 refine Mid.ZD [0,1] (hd) Z Z Z Z (by simp [zG];simp [z3.bd,V.bds,V.bd,V.zL,V.zK]) (by repeat' (first |exact trivial|exact rfl|refine And.intro ?_ ?_|exact (congrArg some (z3.zF _ _ _ _ _ _)).symm|exact (congrArg some (z3.zN _ _ _ _)).symm|exact (congrArg some (z3.ren_cE _ _ _)).symm|(refine (congrArg some (z3.ren_gE ?_ _ _)).symm;intro _;rfl))) Z ?_
 refine fM Z ?_;refine Run.zj Z Z Z ?_;refine fR Z ?_;refine Run.fin Z (z5.chg Z Z ?_ ?_)
 ·exact .t Z
 ·have hI:=z7q [([.str onQ,.ad a sA.cs,.str onQ,.ad b sA.cs,.bool false],1)];exact leSA
end Go.GB.C15
namespace Go.GB.C15
open Go.GB Go.GB.C11
variable {P:Program} {es:List (List T×Int)} {sx:Option (Nat×List Nat)}
theorem z9U (H:yx P) (q:Query) (hq:q.Ok):z9 P 14 [yd dX,q.v,.t (.str onQ),sA.v,.t (.str onQ),(sB).v] ⟨[],0⟩ {v:= .t (.bool true)}:=by
 refine z9.run H.i14 H.mixed Z Z ?_
 refine Run.WA (f:=7) Z (by (repeat' (first |exact trivial|exact Bool.not_or_self _|exact qF _|exact qI _|exact grd3 _ _|exact qJ _ _|refine And.intro ?_ ?_|exact rfl|(simp;done)|(simp<;>omega)));done) ?_
 refine Run.z0t 2 Z (st':={env:=[(2,.t (.str onQ)),(4,.t (.str onQ)),(6,.ptr 0 0),(7,.ptr 1 0),(9,.t (.ptr sA.cs)),(11,.t (.ptr (sB).cs))],s:=⟨[(0,.cells [.t (.lst (dX.map Def.enc))]),(1,.cells [.t (.lst (q.ops.map Op.enc)),.t (.lst (q.z8.map zA.enc))])],2⟩}) ?_ Z Z Z (by repeat' (first |exact trivial|exact LeZ.le (zLB rfl) (.same rfl)|exact LeZ.zc1 (zLB rfl) rfl rfl|exact Or.inl ⟨zLB rfl,_,rfl,.le (.cells (.same rfl))⟩|refine And.intro ?_ ?_)) (by repeat' (first |exact trivial|exact LeZ.le (zLB rfl) (.same rfl)|exact LeZ.zc1 (zLB rfl) rfl rfl|exact Or.inl ⟨zLB rfl,_,rfl,.le (.cells (.same rfl))⟩|refine And.intro ?_ ?_))
 refine fR Z ?_
 refine Mid.yD [] (z0Z H dX q) Z Z Z Z (by simp [zG]) (by repeat' (first |exact trivial|exact rfl|refine And.intro ?_ ?_|exact (congrArg some (z3.zF _ _ _ _ _ _)).symm|exact (congrArg some (z3.zN _ _ _ _)).symm|exact (congrArg some (z3.ren_cE _ _ _)).symm|(refine (congrArg some (z3.ren_gE ?_ _ _)).symm;intro _;rfl))) Z Z (ob':=[(4,.map true (mE kI iV []) (some (0,[]))),(5,.cells [.t (.lst (dX.map Def.enc)),.t (.lst (q.ops.map Op.enc)),.t (.lst (q.z8.map zA.enc)),.mp 4])]) ((by simp only [wx,List.map_cons,List.map_nil,z3.zF];rfl)) Z Z ?_
 refine fM Z ?_
 refine Mid.yD [5,4] (z76 (sx:=some (0,[])) H q hq) Z Z Z Z (by simp [zG];simp [z3.bd,V.bds,V.bd,V.zL,V.zK]) (by repeat' (first |exact trivial|exact rfl|refine And.intro ?_ ?_|exact (congrArg some (z3.zF _ _ _ _ _ _)).symm|exact (congrArg some (z3.zN _ _ _ _)).symm|exact (congrArg some (z3.ren_cE _ _ _)).symm|(refine (congrArg some (z3.ren_gE ?_ _ _)).symm;intro _;rfl))) Z Z (ob':=[(4,.zP true IX)]) (rfl) Z Z ?_
 refine fM Z ?_;refine Run.fin Z (z5.go ?_);exact .t Z
theorem zaP (H:yx P) (q:Query) (hq:q.Ok):z9 P 14 [yd dX,q.v,.t (.str onQ),sA.v,.t (.str onQ),(sA).v] ⟨[],0⟩ {v:= .t (.bool false)}:=by
 refine z9.run H.i14 H.mixed Z Z ?_
 refine Run.WA (f:=7) Z (by (repeat' (first |exact trivial|exact Bool.not_or_self _|exact qF _|exact qI _|exact grd3 _ _|exact qJ _ _|refine And.intro ?_ ?_|exact rfl|(simp;done)|(simp<;>omega)));done) ?_
 refine Run.z0t 2 Z (st':={env:=[(2,.t (.str onQ)),(4,.t (.str onQ)),(6,.ptr 0 0),(7,.ptr 1 0),(9,.t (.ptr sA.cs)),(11,.t (.ptr (sA).cs))],s:=⟨[(0,.cells [.t (.lst (dX.map Def.enc))]),(1,.cells [.t (.lst (q.ops.map Op.enc)),.t (.lst (q.z8.map zA.enc))])],2⟩}) ?_ Z Z Z (by repeat' (first |exact trivial|exact LeZ.le (zLB rfl) (.same rfl)|exact LeZ.zc1 (zLB rfl) rfl rfl|exact Or.inl ⟨zLB rfl,_,rfl,.le (.cells (.same rfl))⟩|refine And.intro ?_ ?_)) (by repeat' (first |exact trivial|exact LeZ.le (zLB rfl) (.same rfl)|exact LeZ.zc1 (zLB rfl) rfl rfl|exact Or.inl ⟨zLB rfl,_,rfl,.le (.cells (.same rfl))⟩|refine And.intro ?_ ?_))
 refine fR Z ?_
 refine Mid.yD [] (z0Z H dX q) Z Z Z Z (by simp [zG]) (by repeat' (first |exact trivial|exact rfl|refine And.intro ?_ ?_|exact (congrArg some (z3.zF _ _ _ _ _ _)).symm|exact (congrArg some (z3.zN _ _ _ _)).symm|exact (congrArg some (z3.ren_cE _ _ _)).symm|(refine (congrArg some (z3.ren_gE ?_ _ _)).symm;intro _;rfl))) Z Z (ob':=[(4,.map true (mE kI iV []) (some (0,[]))),(5,.cells [.t (.lst (dX.map Def.enc)),.t (.lst (q.ops.map Op.enc)),.t (.lst (q.z8.map zA.enc)),.mp 4])]) ((by simp only [wx,List.map_cons,List.map_nil,z3.zF];rfl)) Z Z ?_
 refine fM Z ?_
 refine Mid.yD [5,4] (z7f (sx:=some (0,[])) H q hq) Z Z Z Z (by simp [zG];simp [z3.bd,V.bds,V.bd,V.zL,V.zK]) (by repeat' (first |exact trivial|exact rfl|refine And.intro ?_ ?_|exact (congrArg some (z3.zF _ _ _ _ _ _)).symm|exact (congrArg some (z3.zN _ _ _ _)).symm|exact (congrArg some (z3.ren_cE _ _ _)).symm|(refine (congrArg some (z3.ren_gE ?_ _ _)).symm;intro _;rfl))) Z Z (ob':=[(4,.zP true IX)]) (rfl) Z Z ?_
 refine fM Z ?_;refine Run.fin Z (z5.go ?_);exact .t Z
def w9 (sx:Option (Nat×List Nat)):Bool->z3
 |false=> .map true (mE kI iV []) sx
 |true=> .zP true IX
theorem zb7 (H:yx P) (q:Query) (hq:q.Ok):z9 P 66 [.ptr 0 0,.t (.lst ([(onQ,sA),(onQ,sB)].map Zx)),.fn 63 [(2,0)]] ⟨[(0,.cells [.t (.lst (dX.map Def.enc)),.t (.lst (q.ops.map Op.enc)),.t (.lst (q.z8.map zA.enc)),.mp 1]),(1,w9 sx false),(2,.cells [.t (.str onQ),.t (.ptr sA.cs)])],3⟩ {v:= .t (.bool true),ob:=[(1,.zP true IX)],rd:=true}:=by
 have s1:=we H onQ onQ sA sA;rw [show (Z7 sA==Z7 sA)=true from rfl] at s1;have s2:=we H onQ onQ sB sA;rw [show (Z7 sB==Z7 sA)=true from rfl] at s2;have hcl:=z76 (sx:=sx) H q hq;refine z9.run H.i66 H.mixed Z Z ?_;refine fR Z ?_;refine lM Z Z Z ?_;refine fM Z ?_;refine zx [(onQ,sA),(onQ,sB)] (fun i (B:Bool)=>{env:=[(0,.ptr 0 0),(1,.t (.lst ([(onQ,sA),(onQ,sB)].map Zx))),(2,.fn 63 [(2,0)]),(11,.t (.lst ([(onQ,sA),(onQ,sB)].map Zx))),(12,.t (.int .i64 2)),(13,.t (.int .i64 i))],s:=⟨[(0,.cells [.t (.lst (dX.map Def.enc)),.t (.lst (q.ops.map Op.enc)),.t (.lst (q.z8.map zA.enc)),.mp 1]),(1,w9 sx B),(2,.cells [.t (.str onQ),.t (.ptr sA.cs)])],3⟩}) (fun r i B=>i=0/\r=[(onQ,sA),(onQ,sB)]/\B=false) 3 false Z ⟨rfl,rfl,rfl⟩ Z Z Z ?_ ?_
 ·rintro B ⟨_,h,_⟩;cases h
 ·rintro i a r B h1 hi hd ⟨rfl,hr,rfl⟩ ih
  obtain ⟨rfl,rfl⟩:a=(onQ,sA)/\r=[(onQ,sB)]:=by simpa using hr
  refine fR Z ?_;refine Run.zm Z Z Z ?_;refine fR Z ?_;refine pu Z ?_;refine fM Z ?_;refine aL Z Z Z Z Z ?_;refine z7x Z Z Z Z ?_;refine lM Z Z Z ?_;refine fM Z ?_;refine zx [(onQ,sB)] (fun j (B:Bool)=>{env:=[(0,.ptr 0 0),(1,.t (.lst ([(onQ,sA),(onQ,sB)].map Zx))),(2,.fn 63 [(2,0)]),(8,.ptr 3 0),(11,.t (.lst ([(onQ,sA),(onQ,sB)].map Zx))),(12,.t (.int .i64 2)),(13,.t (.int .i64 0)),(21,.t (.lst ([(onQ,sB)].map Zx))),(22,.t (.int .i64 1)),(23,.t (.int .i64 j))],s:=⟨[(0,.cells [.t (.lst (dX.map Def.enc)),.t (.lst (q.ops.map Op.enc)),.t (.lst (q.z8.map zA.enc)),.mp 1]),(1,w9 sx B),(2,.cells [.t (.str onQ),.t (.ptr sA.cs)]),(3,.cells [.t (.str onQ),.t (.ptr sA.cs)])],4⟩}) (fun r j B=>r=[(onQ,sB)]/\B=false) 4 false Z ⟨rfl,rfl⟩ Z Z Z ?_ ?_
  ·rintro B ⟨h,_⟩;cases h
  ·rintro j c r' B k1 kj kd ⟨hr',rfl⟩ ihj
   obtain ⟨rfl,rfl⟩:c=(onQ,sB)/\r'=[]:=by simpa using hr'
   obtain rfl:j=0:=by simp at kj;omega
   refine fR Z ?_;refine Run.zm Z Z Z ?_;refine fR Z ?_;refine pu Z ?_;refine fM Z ?_
   refine Mid.Q8 [2] Z (s1) Z Z Z Z (by simp [zG];simp [z3.bd,V.bds,V.bd,V.zL,V.zK]) (by repeat' (first |exact trivial|exact rfl|refine And.intro ?_ ?_|exact (congrArg some (z3.zF _ _ _ _ _ _)).symm|exact (congrArg some (z3.zN _ _ _ _)).symm|exact (congrArg some (z3.ren_cE _ _ _)).symm|(refine (congrArg some (z3.ren_gE ?_ _ _)).symm;intro _;rfl))) Z ?_
   refine fM Z ?_;refine Mid.z3p Z Z Z ?_
   refine Mid.Q8 [2] Z (s2) Z Z Z Z (by simp [zG];simp [z3.bd,V.bds,V.bd,V.zL,V.zK]) (by repeat' (first |exact trivial|exact rfl|refine And.intro ?_ ?_|exact (congrArg some (z3.zF _ _ _ _ _ _)).symm|exact (congrArg some (z3.zN _ _ _ _)).symm|exact (congrArg some (z3.ren_cE _ _ _)).symm|(refine (congrArg some (z3.ren_gE ?_ _ _)).symm;intro _;rfl))) Z ?_
   refine fM Z ?_;refine Mid.z3p Z Z Z ?_
   refine Mid.yD [0,1] (hcl) Z Z Z Z (by simp [zG];simp [z3.bd,V.bds,V.bd,V.zL,V.zK]) (by repeat' (first |exact trivial|exact rfl|refine And.intro ?_ ?_|exact (congrArg some (z3.zF _ _ _ _ _ _)).symm|exact (congrArg some (z3.zN _ _ _ _)).symm|exact (congrArg some (z3.ren_cE _ _ _)).symm|(refine (congrArg some (z3.ren_gE ?_ _ _)).symm;intro _;rfl))) Z Z (ob':=[(1,.zP true IX)]) (rfl) Z Z ?_
   refine fM Z ?_;refine Run.zm Z Z Z ?_;refine fR Z ?_;refine Run.fin Z (z5.chg Z Z ?_ ?_)
   ·exact .t Z
   ·exact leSA
theorem zbs (H:yx P) (q:Query) (hq:q.Ok):z9 P 66 [.ptr 0 0,.t (.lst ([(onQ,sA),(onQ,sA)].map Zx)),.fn 63 [(2,0)]] ⟨[(0,.cells [.t (.lst (dX.map Def.enc)),.t (.lst (q.ops.map Op.enc)),.t (.lst (q.z8.map zA.enc)),.mp 1]),(1,w9 sx false),(2,.cells [.t (.str onQ),.t (.ptr sA.cs)])],3⟩ {v:= .t (.bool false),ob:=[(1,.zP true IX)],rd:=true}:=by
 have s1:=we H onQ onQ sA sA;rw [show (Z7 sA==Z7 sA)=true from rfl] at s1;have s2:=we H onQ onQ sA sA;rw [show (Z7 sA==Z7 sA)=true from rfl] at s2;have hcl:=z7f (sx:=sx) H q hq;refine z9.run H.i66 H.mixed Z Z ?_;refine fR Z ?_;refine lM Z Z Z ?_;refine fM Z ?_;refine zx [(onQ,sA),(onQ,sA)] (fun i (B:Bool)=>{env:=[(0,.ptr 0 0),(1,.t (.lst ([(onQ,sA),(onQ,sA)].map Zx))),(2,.fn 63 [(2,0)]),(11,.t (.lst ([(onQ,sA),(onQ,sA)].map Zx))),(12,.t (.int .i64 2)),(13,.t (.int .i64 i))],s:=⟨[(0,.cells [.t (.lst (dX.map Def.enc)),.t (.lst (q.ops.map Op.enc)),.t (.lst (q.z8.map zA.enc)),.mp 1]),(1,w9 sx B),(2,.cells [.t (.str onQ),.t (.ptr sA.cs)])],3⟩}) (fun r i B=>(i=0/\r=[(onQ,sA),(onQ,sA)]/\B=false)∨(i=1/\r=[(onQ,sA)]/\B=true)∨(i=2/\r=[]/\B=true)) 3 false Z (.inl ⟨rfl,rfl,rfl⟩) Z Z Z ?_ ?_
 ·rintro B hB
  obtain rfl:B=true:=by
   rcases hB with ⟨_,h,_⟩|⟨_,h,_⟩|⟨_,_,h⟩
   ·cases h
   ·cases h
   ·exact h
  refine fR Z ?_;refine Run.zj Z Z Z ?_;refine fR Z ?_;refine Run.fin Z (z5.chg Z Z ?_ ?_)
  ·exact .t Z
  ·exact leSA
 ·rintro i a r B h1 hi hd hB ih
  rcases hB with ⟨rfl,hr,rfl⟩|⟨rfl,hr,rfl⟩|⟨_,hr,_⟩
  ·obtain ⟨rfl,rfl⟩:a=(onQ,sA)/\r=[(onQ,sA)]:=by simpa using hr
   refine fR Z ?_;refine Run.zm Z Z Z ?_;refine fR Z ?_;refine pu Z ?_;refine fM Z ?_;refine aL Z Z Z Z Z ?_;refine z7x Z Z Z Z ?_;refine lM Z Z Z ?_;refine fM Z ?_;refine zx [(onQ,sA)] (fun j (B:Bool)=>{env:=[(0,.ptr 0 0),(1,.t (.lst ([(onQ,sA),(onQ,sA)].map Zx))),(2,.fn 63 [(2,0)]),(8,.ptr 3 0),(11,.t (.lst ([(onQ,sA),(onQ,sA)].map Zx))),(12,.t (.int .i64 2)),(13,.t (.int .i64 0)),(21,.t (.lst ([(onQ,sA)].map Zx))),(22,.t (.int .i64 1)),(23,.t (.int .i64 j))],s:=⟨[(0,.cells [.t (.lst (dX.map Def.enc)),.t (.lst (q.ops.map Op.enc)),.t (.lst (q.z8.map zA.enc)),.mp 1]),(1,w9 sx B),(2,.cells [.t (.str onQ),.t (.ptr sA.cs)]),(3,.cells [.t (.str onQ),.t (.ptr sA.cs)])],4⟩}) (fun r j B=>(j=0/\r=[(onQ,sA)]/\B=false)∨(r=[]/\B=true)) 4 false Z (.inl ⟨rfl,rfl,rfl⟩) Z Z Z ?_ ?_
   ·rintro B hB
    obtain rfl:B=true:=by
     rcases hB with ⟨_,h,_⟩|⟨_,h⟩
     ·cases h
     ·exact h
    refine fR Z ?_;refine Run.zj Z Z Z ?_;refine fR Z ?_;refine a64 Z Z Z ?_;refine fM Z ?_;exact zk 3 Z (ih true (.inr (.inl ⟨rfl,rfl,rfl⟩))) Z Z Z (he:=leEA) (hs:=leSA)
   ·rintro j c r' B k1 kj kd hB ihj
    obtain ⟨rfl,hr',rfl⟩:j=0/\c::r'=[(onQ,sA)]/\B=false:=by
     rcases hB with h|⟨h,_⟩
     ·exact h
     ·cases h
    obtain ⟨rfl,rfl⟩:c=(onQ,sA)/\r'=[]:=by simpa using hr'
    refine fR Z ?_;refine Run.zm Z Z Z ?_;refine fR Z ?_;refine pu Z ?_;refine fM Z ?_
    refine Mid.Q8 [2] Z (s1) Z Z Z Z (by simp [zG];simp [z3.bd,V.bds,V.bd,V.zL,V.zK]) (by repeat' (first |exact trivial|exact rfl|refine And.intro ?_ ?_|exact (congrArg some (z3.zF _ _ _ _ _ _)).symm|exact (congrArg some (z3.zN _ _ _ _)).symm|exact (congrArg some (z3.ren_cE _ _ _)).symm|(refine (congrArg some (z3.ren_gE ?_ _ _)).symm;intro _;rfl))) Z ?_
    refine fM Z ?_;refine Mid.z3p Z Z Z ?_
    refine Mid.Q8 [2] Z (s2) Z Z Z Z (by simp [zG];simp [z3.bd,V.bds,V.bd,V.zL,V.zK]) (by repeat' (first |exact trivial|exact rfl|refine And.intro ?_ ?_|exact (congrArg some (z3.zF _ _ _ _ _ _)).symm|exact (congrArg some (z3.zN _ _ _ _)).symm|exact (congrArg some (z3.ren_cE _ _ _)).symm|(refine (congrArg some (z3.ren_gE ?_ _ _)).symm;intro _;rfl))) Z ?_
    refine fM Z ?_;refine Mid.z3p Z Z Z ?_
    refine Mid.yD [0,1] (hcl) Z Z Z Z (by simp [zG];simp [z3.bd,V.bds,V.bd,V.zL,V.zK]) (by repeat' (first |exact trivial|exact rfl|refine And.intro ?_ ?_|exact (congrArg some (z3.zF _ _ _ _ _ _)).symm|exact (congrArg some (z3.zN _ _ _ _)).symm|exact (congrArg some (z3.ren_cE _ _ _)).symm|(refine (congrArg some (z3.ren_gE ?_ _ _)).symm;intro _;rfl))) Z Z (ob':=[(1,.zP true IX)]) (rfl) Z Z ?_
    refine fM Z ?_;refine Run.zj Z Z Z ?_;refine fR Z ?_;refine aL Z Z Z Z Z ?_;refine fM Z ?_;exact zk 4 Z (ihj true (.inr ⟨rfl,rfl⟩)) Z Z Z (he:=leEA) (hs:=leSA)
  ·obtain ⟨rfl,rfl⟩:a=(onQ,sA)/\r=[]:=by simpa using hr
   refine fR Z ?_;refine Run.zm Z Z Z ?_;refine fR Z ?_;refine pu Z ?_;refine fM Z ?_;refine aL Z Z Z Z Z ?_;refine z7x Z Z Z Z ?_;refine lM Z Z Z ?_;refine fM Z ?_;refine zx ([]:List (Str×Sel)) (fun j (B:Bool)=>{env:=[(0,.ptr 0 0),(1,.t (.lst ([(onQ,sA),(onQ,sA)].map Zx))),(2,.fn 63 [(2,0)]),(8,.ptr 3 0),(11,.t (.lst ([(onQ,sA),(onQ,sA)].map Zx))),(12,.t (.int .i64 2)),(13,.t (.int .i64 1)),(21,.t (.lst [])),(22,.t (.int .i64 0)),(23,.t (.int .i64 j))],s:=⟨[(0,.cells [.t (.lst (dX.map Def.enc)),.t (.lst (q.ops.map Op.enc)),.t (.lst (q.z8.map zA.enc)),.mp 1]),(1,w9 sx B),(2,.cells [.t (.str onQ),.t (.ptr sA.cs)]),(3,.cells [.t (.str onQ),.t (.ptr sA.cs)])],4⟩}) (fun r j B=>r=[]/\B=true) 4 true Z ⟨rfl,rfl⟩ Z Z Z ?_ ?_ (he:=leEA) (hs:=leSA)
   ·rintro B ⟨_,rfl⟩;refine fR Z ?_;refine Run.zj Z Z Z ?_;refine fR Z ?_;refine a64 Z Z Z ?_;refine fM Z ?_;exact zk 3 Z (ih true (.inr (.inr ⟨rfl,rfl,rfl⟩))) Z Z Z (he:=leEA) (hs:=leSA)
   ·rintro j c r' B k1 kj kd ⟨h,_⟩ ihj;cases h
  ·cases hr
end Go.GB.C15
namespace Go.GB.C15
open Go.GB Go.GB.C11
variable {P:Program} {es:List (List T×Int)} {sx:Option (Nat×List Nat)}
theorem zbU (q:Query) (y:Sel) (h3:¬ y.kind=3) (h2:¬ y.kind=2):WG q [sA,y] onQ=[(onQ,sA),(onQ,y)]:=by
 unfold WG;rw [w7 (by decide) (by decide),w7 h3 h2,YG];rfl
theorem zav (q:Query) (on:Str):Clean q dX [] on:=
 .mk (by unfold WG;rw [YG];simp) (by unfold WG;rw [YG];simp) .nil
theorem z5g (q:Query) (y:Sel) (h3:¬ y.kind=3) (h2:¬ y.kind=2) (hs:y.z7=[]):Zt q dX [sA,y] onQ:=
 .field (by decide) (by decide) (zav q _) (.field h3 h2 (by rw [hs];exact zav q _) .nil)
def fA:z4:=⟨28,[47,97]⟩
theorem z2L:sA.Ok:= .mk (by decide) (by decide) (by decide) (by decide) (by decide) (by decide) (by simp) (by simp) (by simp)
theorem z95:sB.Ok:= .mk (by decide) (by decide) (by decide) (by decide) (by decide) (by decide) (by simp) (by simp) (by simp)
theorem q6 {y:Sel} (hy:y.Ok):zU [sA,y]:=⟨by simp,fun x hx=>by simp at hx;rcases hx with rfl|rfl;exact z2L;exact hy⟩
theorem z8q (H:yx P) (q:Query) (hq:q.Ok):z9 P 30 [.ptr 0 0,.t (.lst ([sA,sB].map Sel.enc)),.t (.str onQ),.t (.str [])] ⟨[(0,.cells [.t (.lst (dX.map Def.enc)),.t (.lst (q.ops.map Op.enc)),.t (.lst (q.z8.map zA.enc)),.mp 1]),(1,.map true (mE kI iV []) sx)],2⟩ {v:= .t (.lst ([fA].map z4.enc)),ob:=[(1,.zP true IX)],rd:=true}:=by
 have hset:=z1j (es:=[]) (sx:=sx) H dX q hq [sA,sB] onQ (q6 z95) (by rw [zbU q sB (by decide) (by decide)];simp);rw [zbU q sB (by decide) (by decide)] at hset;have hx0:=wZ H onQ sA [(onQ,sA),(onQ,sB)] (by simp);rw [show QS (fun p:Str×Sel=>Z7 p.2==Z7 sA) [(onQ,sA),(onQ,sB)] 0=0 from rfl] at hx0;have hx1:=wZ H onQ sB [(onQ,sA),(onQ,sB)] (by simp);rw [show QS (fun p:Str×Sel=>Z7 p.2==Z7 sB) [(onQ,sA),(onQ,sB)] 0=0 from rfl] at hx1;have hso:=zb7 (sx:=sx) H q hq;refine z9.run H.i30 H.mixed Z Z ?_;refine fR Z ?_
 refine Mid.ZD [0,1] (hset) Z Z Z Z (by simp [zG];simp [z3.bd,V.bds,V.bd,V.zL,V.zK]) (by repeat' (first |exact trivial|exact rfl|refine And.intro ?_ ?_|exact (congrArg some (z3.zF _ _ _ _ _ _)).symm|exact (congrArg some (z3.zN _ _ _ _)).symm|exact (congrArg some (z3.ren_cE _ _ _)).symm|(refine (congrArg some (z3.ren_gE ?_ _ _)).symm;intro _;rfl))) Z ?_
 refine fM Z ?_;refine lM Z Z Z ?_;refine fM Z ?_;refine zx [(onQ,sA),(onQ,sB)] (fun i (B:Bool×List z4)=>{env:=[(0,.ptr 0 0),(1,.t (.lst ([sA,sB].map Sel.enc))),(2,.t (.str onQ)),(3,.t (.str [])),(9,.t (.lst ([(onQ,sA),(onQ,sB)].map Zx))),(10,.own 2 2 (B.2.map z4.enc)),(18,.t (.lst ([(onQ,sA),(onQ,sB)].map Zx))),(19,.t (.int .i64 2)),(20,.t (.int .i64 i))],s:=⟨[(0,.cells [.t (.lst (dX.map Def.enc)),.t (.lst (q.ops.map Op.enc)),.t (.lst (q.z8.map zA.enc)),.mp 1]),(1,w9 sx B.1),(2,.arr B.2.length)],3⟩}) (fun r i B=>(i=0/\r=[(onQ,sA),(onQ,sB)]/\B=(false,[]))∨(i=1/\r=[(onQ,sB)]/\B=(true,[fA]))∨(i=2/\r=[]/\B=(true,[fA]))) 2 (false,[]) Z (.inl ⟨rfl,rfl,rfl⟩) Z Z Z ?_ ?_ (he:=leEA) (hs:=leSA)
 ·rintro B hB
  obtain rfl:B=(true,[fA]):=by
   rcases hB with ⟨_,h,_⟩|⟨_,h,_⟩|⟨_,_,h⟩
   ·cases h
   ·cases h
   ·exact h
  refine fR Z ?_;refine Run.zj Z Z Z ?_;refine Run.zci (q:=1) (kag:=true) (I:=IX) Z Z (fun es hes=>?_);obtain ⟨l,rfl⟩:=z9c es hes;have hin:=(qz (es:=l) (sx:=none) H dX z2M q hq [sA,sB] (q6 z95)).1 onQ [] (z5g q sB (by decide) (by decide) rfl) (by decide);unfold z1q at hin;have hI:=z7q l;refine fR Z ?_
  refine Mid.ZD [0,1] (hin) Z Z Z Z (by simp [zG];simp [z3.bd,V.bds,V.bd,V.zL,V.zK]) (by repeat' (first |exact trivial|exact rfl|refine And.intro ?_ ?_|exact (congrArg some (z3.zF _ _ _ _ _ _)).symm|exact (congrArg some (z3.zN _ _ _ _)).symm|exact (congrArg some (z3.ren_cE _ _ _)).symm|(refine (congrArg some (z3.ren_gE ?_ _ _)).symm;intro _;rfl))) Z ?_
  skip;refine apM z4.enc [fA] ([]:List z4) Z Z Z Z Z ?_ (h1:=by first |omega|(simp;omega)|(simp;done)) (h2:=by first |omega|(simp;omega)|(simp;done));refine fM rfl ?_;refine Run.fin rfl (z5.chg rfl rfl ?_ ?_)
  ·exact .own Z
  ·exact leSA
 ·rintro i a r B h1 hi hd hB ih
  rcases hB with ⟨rfl,hr,rfl⟩|⟨rfl,hr,rfl⟩|⟨_,hr,_⟩
  ·obtain ⟨rfl,rfl⟩:a=(onQ,sA)/\r=[(onQ,sB)]:=by simpa using hr
   refine fR Z ?_;refine Run.zm Z Z Z ?_;refine fR Z ?_;refine pu Z ?_;refine fM Z ?_
   refine Mid.ZD [3] (hx0) Z Z Z Z (by simp [zG];simp [z3.bd,V.bds,V.bd,V.zL,V.zK]) (by repeat' (first |exact trivial|exact rfl|refine And.intro ?_ ?_|exact (congrArg some (z3.zF _ _ _ _ _ _)).symm|exact (congrArg some (z3.zN _ _ _ _)).symm|exact (congrArg some (z3.ren_cE _ _ _)).symm|(refine (congrArg some (z3.ren_gE ?_ _ _)).symm;intro _;rfl))) Z ?_
   refine fM Z ?_;refine gr Z ?_;refine fM Z ?_;refine Mid.z3p Z Z Z ?_
   refine Mid.yD [0,1,3] (hso) Z Z Z Z (by simp [zG];simp [z3.bd,w9,V.bds,V.bd,V.zK]) (by repeat' (first |exact trivial|exact rfl|refine And.intro ?_ ?_|exact (congrArg some (z3.zF _ _ _ _ _ _)).symm|exact (congrArg some (z3.zN _ _ _ _)).symm|exact (congrArg some (z3.ren_cE _ _ _)).symm|(refine (congrArg some (z3.ren_gE ?_ _ _)).symm;intro _;rfl))) Z Z (ob':=[(1,.zP true IX)]) (rfl) Z Z ?_
   refine fM Z ?_;refine Run.zm Z Z Z ?_;refine fR Z ?_;refine pu Z ?_;refine fM Z ?_;refine Mid.call (z3O H sA) Z Z Z Z ?_;refine pu Z ?_;refine fM Z ?_;refine apM z4.enc ([]:List z4) [fA] Z Z Z Z Z ?_ (h1:=by first |omega|(simp;omega)|(simp;done)) (h2:=by first |omega|(simp;omega)|(simp;done));refine fM rfl ?_;refine aL rfl rfl rfl rfl rfl ?_;refine fM rfl ?_;exact zk 3 rfl (ih (true,[fA]) (.inr (.inl ⟨rfl,rfl,rfl⟩))) rfl rfl rfl (he:=leEA) (hs:=leSA)
  ·obtain ⟨rfl,rfl⟩:a=(onQ,sB)/\r=[]:=by simpa using hr
   refine fR Z ?_;refine Run.zm Z Z Z ?_;refine fR Z ?_;refine pu Z ?_;refine fM Z ?_
   refine Mid.ZD [3] (hx1) Z Z Z Z (by simp [zG];simp [z3.bd,V.bds,V.bd,V.zL,V.zK]) (by repeat' (first |exact trivial|exact rfl|refine And.intro ?_ ?_|exact (congrArg some (z3.zF _ _ _ _ _ _)).symm|exact (congrArg some (z3.zN _ _ _ _)).symm|exact (congrArg some (z3.ren_cE _ _ _)).symm|(refine (congrArg some (z3.ren_gE ?_ _ _)).symm;intro _;rfl))) Z ?_
   refine fM Z ?_;refine gr Z ?_;refine fM Z ?_;refine Mid.Y1 Z (by first |rfl|(simp;done)) Z Z Z ?_;refine fM Z ?_;refine Run.zj Z Z Z ?_;refine fR Z ?_;refine aL Z Z Z Z Z ?_;refine fM Z ?_;exact zk 3 Z (ih (true,[fA]) (.inr (.inr ⟨rfl,rfl,rfl⟩))) Z Z Z (he:=leEA) (hs:=leSA)
  ·cases hr
theorem z80 (H:yx P) (q:Query) (hq:q.Ok):z9 P 30 [.ptr 0 0,.t (.lst ([sA,sA].map Sel.enc)),.t (.str onQ),.t (.str [])] ⟨[(0,.cells [.t (.lst (dX.map Def.enc)),.t (.lst (q.ops.map Op.enc)),.t (.lst (q.z8.map zA.enc)),.mp 1]),(1,.map true (mE kI iV []) sx)],2⟩ {v:= .t (.lst (([]:List z4).map z4.enc)),ob:=[(1,.zP true IX)],rd:=true}:=by
 have hset:=z1j (es:=[]) (sx:=sx) H dX q hq [sA,sA] onQ (q6 z2L) (by rw [zbU q sA (by decide) (by decide)];simp);rw [zbU q sA (by decide) (by decide)] at hset;have hx0:=wZ H onQ sA [(onQ,sA),(onQ,sA)] (by simp);rw [show QS (fun p:Str×Sel=>Z7 p.2==Z7 sA) [(onQ,sA),(onQ,sA)] 0=0 from rfl] at hx0;have hx1:=wZ H onQ sA [(onQ,sA),(onQ,sA)] (by simp);rw [show QS (fun p:Str×Sel=>Z7 p.2==Z7 sA) [(onQ,sA),(onQ,sA)] 0=0 from rfl] at hx1;have hso:=zbs (sx:=sx) H q hq;refine z9.run H.i30 H.mixed Z Z ?_;refine fR Z ?_
 refine Mid.ZD [0,1] (hset) Z Z Z Z (by simp [zG];simp [z3.bd,V.bds,V.bd,V.zL,V.zK]) (by repeat' (first |exact trivial|exact rfl|refine And.intro ?_ ?_|exact (congrArg some (z3.zF _ _ _ _ _ _)).symm|exact (congrArg some (z3.zN _ _ _ _)).symm|exact (congrArg some (z3.ren_cE _ _ _)).symm|(refine (congrArg some (z3.ren_gE ?_ _ _)).symm;intro _;rfl))) Z ?_
 refine fM Z ?_;refine lM Z Z Z ?_;refine fM Z ?_;refine zx [(onQ,sA),(onQ,sA)] (fun i (B:Bool×List z4)=>{env:=[(0,.ptr 0 0),(1,.t (.lst ([sA,sA].map Sel.enc))),(2,.t (.str onQ)),(3,.t (.str [])),(9,.t (.lst ([(onQ,sA),(onQ,sA)].map Zx))),(10,.own 2 2 (B.2.map z4.enc)),(18,.t (.lst ([(onQ,sA),(onQ,sA)].map Zx))),(19,.t (.int .i64 2)),(20,.t (.int .i64 i))],s:=⟨[(0,.cells [.t (.lst (dX.map Def.enc)),.t (.lst (q.ops.map Op.enc)),.t (.lst (q.z8.map zA.enc)),.mp 1]),(1,w9 sx B.1),(2,.arr B.2.length)],3⟩}) (fun r i B=>(i=0/\r=[(onQ,sA),(onQ,sA)]/\B=(false,[]))∨(i=1/\r=[(onQ,sA)]/\B=(true,[]))∨(i=2/\r=[]/\B=(true,[]))) 2 (false,[]) Z (.inl ⟨rfl,rfl,rfl⟩) Z Z Z ?_ ?_ (he:=leEA) (hs:=leSA)
 ·rintro B hB
  obtain rfl:B=(true,[]):=by
   rcases hB with ⟨_,h,_⟩|⟨_,h,_⟩|⟨_,_,h⟩
   ·cases h
   ·cases h
   ·exact h
  refine fR Z ?_;refine Run.zj Z Z Z ?_;refine Run.zci (q:=1) (kag:=true) (I:=IX) Z Z (fun es hes=>?_);obtain ⟨l,rfl⟩:=z9c es hes;have hin:=(qz (es:=l) (sx:=none) H dX z2M q hq [sA,sA] (q6 z2L)).1 onQ [] (z5g q sA (by decide) (by decide) rfl) (by decide);unfold z1q at hin;have hI:=z7q l;refine fR Z ?_
  refine Mid.ZD [0,1] (hin) Z Z Z Z (by simp [zG];simp [z3.bd,V.bds,V.bd,V.zL,V.zK]) (by repeat' (first |exact trivial|exact rfl|refine And.intro ?_ ?_|exact (congrArg some (z3.zF _ _ _ _ _ _)).symm|exact (congrArg some (z3.zN _ _ _ _)).symm|exact (congrArg some (z3.ren_cE _ _ _)).symm|(refine (congrArg some (z3.ren_gE ?_ _ _)).symm;intro _;rfl))) Z ?_
  skip;refine apM z4.enc ([]:List z4) ([]:List z4) Z Z Z Z Z ?_ (h1:=by first |omega|(simp;omega)|(simp;done)) (h2:=by first |omega|(simp;omega)|(simp;done));refine fM rfl ?_;refine Run.fin rfl (z5.chg rfl rfl ?_ ?_)
  ·exact .own Z
  ·exact leSA
 ·rintro i a r B h1 hi hd hB ih
  rcases hB with ⟨rfl,hr,rfl⟩|⟨rfl,hr,rfl⟩|⟨_,hr,_⟩
  ·obtain ⟨rfl,rfl⟩:a=(onQ,sA)/\r=[(onQ,sA)]:=by simpa using hr
   refine fR Z ?_;refine Run.zm Z Z Z ?_;refine fR Z ?_;refine pu Z ?_;refine fM Z ?_
   refine Mid.ZD [3] (hx0) Z Z Z Z (by simp [zG];simp [z3.bd,V.bds,V.bd,V.zL,V.zK]) (by repeat' (first |exact trivial|exact rfl|refine And.intro ?_ ?_|exact (congrArg some (z3.zF _ _ _ _ _ _)).symm|exact (congrArg some (z3.zN _ _ _ _)).symm|exact (congrArg some (z3.ren_cE _ _ _)).symm|(refine (congrArg some (z3.ren_gE ?_ _ _)).symm;intro _;rfl))) Z ?_
   refine fM Z ?_;refine gr Z ?_;refine fM Z ?_;refine Mid.z3p Z Z Z ?_
   refine Mid.yD [0,1,3] (hso) Z Z Z Z (by simp [zG];simp [z3.bd,w9,V.bds,V.bd,V.zK]) (by repeat' (first |exact trivial|exact rfl|refine And.intro ?_ ?_|exact (congrArg some (z3.zF _ _ _ _ _ _)).symm|exact (congrArg some (z3.zN _ _ _ _)).symm|exact (congrArg some (z3.ren_cE _ _ _)).symm|(refine (congrArg some (z3.ren_gE ?_ _ _)).symm;intro _;rfl))) Z Z (ob':=[(1,.zP true IX)]) (rfl) Z Z ?_
   refine fM Z ?_;refine Run.zj Z Z Z ?_;refine fR Z ?_;refine aL Z Z Z Z Z ?_;refine fM Z ?_;exact zk 3 Z (ih (true,[]) (.inr (.inl ⟨rfl,rfl,rfl⟩))) Z Z Z (he:=leEA) (hs:=leSA)
  ·obtain ⟨rfl,rfl⟩:a=(onQ,sA)/\r=[]:=by simpa using hr
   refine fR Z ?_;refine Run.zm Z Z Z ?_;refine fR Z ?_;refine pu Z ?_;refine fM Z ?_
   refine Mid.ZD [3] (hx1) Z Z Z Z (by simp [zG];simp [z3.bd,V.bds,V.bd,V.zL,V.zK]) (by repeat' (first |exact trivial|exact rfl|refine And.intro ?_ ?_|exact (congrArg some (z3.zF _ _ _ _ _ _)).symm|exact (congrArg some (z3.zN _ _ _ _)).symm|exact (congrArg some (z3.ren_cE _ _ _)).symm|(refine (congrArg some (z3.ren_gE ?_ _ _)).symm;intro _;rfl))) Z ?_
   refine fM Z ?_;refine gr Z ?_;refine fM Z ?_;refine Mid.Y1 Z (by first |rfl|(simp;done)) Z Z Z ?_;refine fM Z ?_;refine Run.zj Z Z Z ?_;refine fR Z ?_;refine aL Z Z Z Z Z ?_;refine fM Z ?_;exact zk 3 Z (ih (true,[]) (.inr (.inr ⟨rfl,rfl,rfl⟩))) Z Z Z (he:=leEA) (hs:=leSA)
  ·cases hr
def qX (y:Sel):Query:=⟨[⟨1,[],[],[sA,y]⟩],[]⟩
theorem z79 {y:Sel} (hy:y.Ok):(qX y).Ok where
 ol:=by simp [qX]
 fl:=by simp [qX]
 o:=by intro x hx;simp [qX] at hx;subst hx;exact ⟨by simp,by simp,by simp,q6 hy⟩
 f:=by intro x hx;simp [qX] at hx
theorem zbK (H:yx P):z9 P 11 [yd dX,(qX sB).v] ⟨[],0⟩ {v:= .t (.lst (([fA]:List z4).map z4.enc))}:=by
 have hcall:=z8q (sx:=some (0,[])) H (qX sB) (z79 z95);refine z9.run H.i11 H.mixed Z Z ?_;refine fR Z ?_
 refine Mid.yD [] (z0Z H dX (qX sB)) Z Z Z Z (by simp [zG]) (by repeat' (first |exact trivial|exact rfl|refine And.intro ?_ ?_|exact (congrArg some (z3.zF _ _ _ _ _ _)).symm|exact (congrArg some (z3.zN _ _ _ _)).symm|exact (congrArg some (z3.ren_cE _ _ _)).symm|(refine (congrArg some (z3.ren_gE ?_ _ _)).symm;intro _;rfl))) Z Z (ob':=[(4,.map true (mE kI iV []) (some (0,[]))),(5,.cells [.t (.lst (dX.map Def.enc)),.t (.lst ((qX sB).ops.map Op.enc)),.t (.lst ((qX sB).z8.map zA.enc)),.mp 4])]) ((by simp only [wx,List.map_cons,List.map_nil,z3.zF];rfl)) Z Z ?_
 refine fM Z ?_;refine lM Z Z Z ?_;refine fM Z ?_;refine zx (qX sB).ops (fun i (B:Bool×List z4)=>{env:=[(3,.ptr 1 0),(5,.ptr 5 0),(6,.own 6 2 (B.2.map z4.enc)),(15,.t (.lst ((qX sB).ops.map Op.enc))),(16,.t (.int .i64 1)),(17,.t (.int .i64 i))],s:=⟨[(0,.cells [.t (.lst (dX.map Def.enc))]),(1,.cells [.t (.lst ((qX sB).ops.map Op.enc)),.t (.lst ((qX sB).z8.map zA.enc))]),(4,w9 (some (0,[])) B.1),(5,.cells [.t (.lst (dX.map Def.enc)),.t (.lst ((qX sB).ops.map Op.enc)),.t (.lst ((qX sB).z8.map zA.enc)),.mp 4]),(6,.arr (B.2).length)],7⟩}) (fun r i B=>(i=0/\r=(qX sB).ops/\B=(false,[]))∨(r=[]/\B=(true,[fA]))) 6 (false,[]) Z (.inl ⟨rfl,rfl,rfl⟩) Z Z Z ?_ ?_ (he:=leEA) (hs:=leSA)
 ·rintro B hB
  obtain rfl:B=(true,[fA]):=by
   rcases hB with ⟨_,h,_⟩|⟨_,h⟩
   ·cases h
   ·exact h
  refine fR Z ?_;refine Run.zj Z Z Z ?_;refine fR Z ?_;refine lM Z Z Z ?_;refine fM Z ?_;refine zx ([]:List zA) (fun i (_:Unit)=>{env:=[(5,.ptr 5 0),(6,.own 6 2 (([fA]:List z4).map z4.enc)),(34,.t (.lst [])),(35,.t (.int .i64 0)),(36,.t (.int .i64 i))],s:=⟨[(0,.cells [.t (.lst (dX.map Def.enc))]),(1,.cells [.t (.lst ((qX sB).ops.map Op.enc)),.t (.lst ((qX sB).z8.map zA.enc))]),(4,w9 (some (0,[])) true),(5,.cells [.t (.lst (dX.map Def.enc)),.t (.lst ((qX sB).ops.map Op.enc)),.t (.lst ((qX sB).z8.map zA.enc)),.mp 4]),(6,.arr (([fA]:List z4)).length)],7⟩}) (fun r i _=>r=[]) 7 () Z Z Z Z Z ?_ ?_ (he:=leEA) (hs:=leSA)
  ·intro _ _;refine fR Z ?_;refine Run.zj Z Z Z ?_;refine fR Z ?_;refine Run.fin Z (z5.go ?_);exact .own Z
  ·intro i x r _ h1 hi hd h _;cases h
 ·rintro i x r B h1 hi hd hB ih
  obtain ⟨rfl,hr,rfl⟩:i=0/\x::r=(qX sB).ops/\B=(false,[]):=by
   rcases hB with h|⟨h,_⟩
   ·exact h
   ·cases h
  obtain ⟨rfl,rfl⟩:x=⟨1,[],[],[sA,sB]⟩/\r=[]:=by simpa [qX] using hr
  refine fR Z ?_;refine Run.zm Z Z Z ?_;refine fR Z ?_;refine pu Z ?_;refine fM Z ?_;refine Mid.call (z3E H.p13 1) Z Z Z Z ?_;refine fM Z ?_
  refine Mid.yD [5,4] (hcall) Z Z Z Z (by simp [zG];simp [z3.bd,V.bds,V.bd,V.zL,V.zK]) (by repeat' (first |exact trivial|exact rfl|refine And.intro ?_ ?_|exact (congrArg some (z3.zF _ _ _ _ _ _)).symm|exact (congrArg some (z3.zN _ _ _ _)).symm|exact (congrArg some (z3.ren_cE _ _ _)).symm|(refine (congrArg some (z3.ren_gE ?_ _ _)).symm;intro _;rfl))) Z Z (ob':=[(4,.zP true IX)]) (rfl) Z Z ?_
  skip;refine apM z4.enc ([]:List z4) ([fA]:List z4) Z Z Z Z Z ?_ (h1:=by first |omega|(simp;omega)|(simp;done)) (h2:=by first |omega|(simp;omega)|(simp;done));refine fM rfl ?_;refine aL rfl rfl rfl rfl rfl ?_;refine fM rfl ?_;exact zk 7 rfl (ih (true,[fA]) (.inr ⟨rfl,rfl⟩)) rfl rfl rfl (he:=leEA) (hs:=leSA)
theorem zbx (H:yx P):z9 P 11 [yd dX,(qX sA).v] ⟨[],0⟩ {v:= .t (.lst (([]:List z4).map z4.enc))}:=by
 have hcall:=z80 (sx:=some (0,[])) H (qX sA) (z79 z2L);refine z9.run H.i11 H.mixed Z Z ?_;refine fR Z ?_
 refine Mid.yD [] (z0Z H dX (qX sA)) Z Z Z Z (by simp [zG]) (by repeat' (first |exact trivial|exact rfl|refine And.intro ?_ ?_|exact (congrArg some (z3.zF _ _ _ _ _ _)).symm|exact (congrArg some (z3.zN _ _ _ _)).symm|exact (congrArg some (z3.ren_cE _ _ _)).symm|(refine (congrArg some (z3.ren_gE ?_ _ _)).symm;intro _;rfl))) Z Z (ob':=[(4,.map true (mE kI iV []) (some (0,[]))),(5,.cells [.t (.lst (dX.map Def.enc)),.t (.lst ((qX sA).ops.map Op.enc)),.t (.lst ((qX sA).z8.map zA.enc)),.mp 4])]) ((by simp only [wx,List.map_cons,List.map_nil,z3.zF];rfl)) Z Z ?_
 refine fM Z ?_;refine lM Z Z Z ?_;refine fM Z ?_;refine zx (qX sA).ops (fun i (B:Bool×List z4)=>{env:=[(3,.ptr 1 0),(5,.ptr 5 0),(6,.own 6 2 (B.2.map z4.enc)),(15,.t (.lst ((qX sA).ops.map Op.enc))),(16,.t (.int .i64 1)),(17,.t (.int .i64 i))],s:=⟨[(0,.cells [.t (.lst (dX.map Def.enc))]),(1,.cells [.t (.lst ((qX sA).ops.map Op.enc)),.t (.lst ((qX sA).z8.map zA.enc))]),(4,w9 (some (0,[])) B.1),(5,.cells [.t (.lst (dX.map Def.enc)),.t (.lst ((qX sA).ops.map Op.enc)),.t (.lst ((qX sA).z8.map zA.enc)),.mp 4]),(6,.arr (B.2).length)],7⟩}) (fun r i B=>(i=0/\r=(qX sA).ops/\B=(false,[]))∨(r=[]/\B=(true,[]))) 6 (false,[]) Z (.inl ⟨rfl,rfl,rfl⟩) Z Z Z ?_ ?_ (he:=leEA) (hs:=leSA)
 ·rintro B hB
  obtain rfl:B=(true,[]):=by
   rcases hB with ⟨_,h,_⟩|⟨_,h⟩
   ·cases h
   ·exact h
  refine fR Z ?_;refine Run.zj Z Z Z ?_;refine fR Z ?_;refine lM Z Z Z ?_;refine fM Z ?_;refine zx ([]:List zA) (fun i (_:Unit)=>{env:=[(5,.ptr 5 0),(6,.own 6 2 (([]:List z4).map z4.enc)),(34,.t (.lst [])),(35,.t (.int .i64 0)),(36,.t (.int .i64 i))],s:=⟨[(0,.cells [.t (.lst (dX.map Def.enc))]),(1,.cells [.t (.lst ((qX sA).ops.map Op.enc)),.t (.lst ((qX sA).z8.map zA.enc))]),(4,w9 (some (0,[])) true),(5,.cells [.t (.lst (dX.map Def.enc)),.t (.lst ((qX sA).ops.map Op.enc)),.t (.lst ((qX sA).z8.map zA.enc)),.mp 4]),(6,.arr (([]:List z4)).length)],7⟩}) (fun r i _=>r=[]) 7 () Z Z Z Z Z ?_ ?_ (he:=leEA) (hs:=leSA)
  ·intro _ _;refine fR Z ?_;refine Run.zj Z Z Z ?_;refine fR Z ?_;refine Run.fin Z (z5.go ?_);exact .own Z
  ·intro i x r _ h1 hi hd h _;cases h
 ·rintro i x r B h1 hi hd hB ih
  obtain ⟨rfl,hr,rfl⟩:i=0/\x::r=(qX sA).ops/\B=(false,[]):=by
   rcases hB with h|⟨h,_⟩
   ·exact h
   ·cases h
  obtain ⟨rfl,rfl⟩:x=⟨1,[],[],[sA,sA]⟩/\r=[]:=by simpa [qX] using hr
  refine fR Z ?_;refine Run.zm Z Z Z ?_;refine fR Z ?_;refine pu Z ?_;refine fM Z ?_;refine Mid.call (z3E H.p13 1) Z Z Z Z ?_;refine fM Z ?_
  refine Mid.yD [5,4] (hcall) Z Z Z Z (by simp [zG];simp [z3.bd,V.bds,V.bd,V.zL,V.zK]) (by repeat' (first |exact trivial|exact rfl|refine And.intro ?_ ?_|exact (congrArg some (z3.zF _ _ _ _ _ _)).symm|exact (congrArg some (z3.zN _ _ _ _)).symm|exact (congrArg some (z3.ren_cE _ _ _)).symm|(refine (congrArg some (z3.ren_gE ?_ _ _)).symm;intro _;rfl))) Z Z (ob':=[(4,.zP true IX)]) (rfl) Z Z ?_
  skip;refine apM z4.enc ([]:List z4) ([]:List z4) Z Z Z Z Z ?_ (h1:=by first |omega|(simp;omega)|(simp;done)) (h2:=by first |omega|(simp;omega)|(simp;done));refine fM rfl ?_;refine aL rfl rfl rfl rfl rfl ?_;refine fM rfl ?_;exact zk 7 rfl (ih (true,[]) (.inr ⟨rfl,rfl⟩)) rfl rfl rfl (he:=leEA) (hs:=leSA)
end Go.GB.C15
namespace Go.GB.C15
open Go.GB Go.GB.C11
variable {P:Program}
theorem z3C (H:yx P):z9 P 8 [] ⟨[],0⟩ {v:= .t (.bool true)}:=by
 have h1:=zbK H;have h2:=zbx H;have h3:=z9U H (qX sA) (z79 z2L);have h4:=zaP H (qX sA) (z79 z2L);have eA:Sel.enc sA=sA.cs:=Sel.Zf sA;have eB:Sel.enc sB=sB.cs:=Sel.Zf sB;refine z9.run H.i8 H.mixed Z Z ?_;refine fR Z ?_;refine Mid.call (h1) Z Z Z Z ?_;refine fM Z ?_;refine Mid.call (h2) Z Z Z Z ?_;refine fM Z ?_;refine lM Z Z Z ?_;refine fM Z ?_;refine gr Z ?_;refine fM Z ?_;refine gr Z ?_;refine fM Z ?_;refine lMG Z Z Z Z ?_;refine fM Z ?_;refine caG Z Z (fun hg=>⟨_,rfl,h3,rfl⟩) Z Z ?_;refine fM Z ?_;refine caG Z Z (fun hg=>⟨_,rfl,h4,rfl⟩) Z Z ?_;refine fM Z ?_;refine Run.fin Z (z5.go ?_);exact .t Z
end Go.GB.C15
namespace Go.GB.C15
open Go.GB Go.GB.C11
variable {P:Program}
theorem z1Q {q:Query} (hk:∀f,f∈q.z8->Wj f.z7) {c:Nat} (hN:(ZC q.z8 c).2<=4611686018427387904) {v:Str} {g:zA} (h:zd v (ZC q.z8 c).1=some g):Rng c (ZC q.z8 c).2 (tk g.z7)/\(tk g.z7).Nodup:=by
 obtain ⟨f,m,h1,rfl,h3,h4⟩:=qo _ _ _ (Zu h);have:=q9 f.z7 m (hk f h1) (by omega);exact ⟨(this.mono h3 h4).rng,this.nd⟩
theorem z4w {q:Query} (hk:∀f,f∈q.z8->Wj f.z7) (hN:z2f q<=4611686018427387904) {Rc:Str->Prop} (hcl:∀v f,zd v q.z8=some f->Rc v->SpA Rc f.z7):z9J (z22 q) Rc:=by
 unfold z2f at hN;refine ⟨fun n g hg hn=>⟨(z1Q hk hN hg).2,?_⟩,fun n m g g' hg hg' hn hm hnm=>?_⟩
 ·obtain ⟨f,k,h1,h2⟩:=z1T _ _ _ hg;rw [h2];exact (qB _ _ (hcl n f h1 hn)).spR
 ·obtain ⟨f,k,h1,e1,h3,h4,h5⟩:=QO _ _ g (Zu hg);have n1:=ZM hg;have n2:=ZM hg';obtain ⟨f',k',g1,e2,g3,g4,g5⟩:=h5 g' (Zu hg') (by rw [n1,n2];exact fun e=>hnm e.symm);have r1:=q9 f.z7 k (hk f h1) (by omega);have r2:=q9 f'.z7 k' (hk f' g1) (by omega);rw [e1,e2];exact r1.rng.dis r2.rng g5 (by omega) (by omega)
theorem z9w (n:Nat):(kd n).length<=23:=by
 have:=C29.z4U (n:Int);unfold kd;simp only [List.length_append,List.length_cons,List.length_nil];omega
theorem qb:∀(l:List Sel) (n:Nat),Sel.ws (zt l n).1<=13*Sel.ws l/\(zt l n).2<=n+Sel.ws l
 |[],n=>by rw [wh];simp [Sel.ws]
 |s::r,n=>by
  have hw:=Sel.z9R s;by_cases h:s.kind=1
  ·rw [yZ h];have h1:=qb s.z7 (n+1);have h2:=qb r (zt s.z7 (n+1)).2;have h3:=z9w n;simp only [Sel.ws,Sel.w]
   exact ⟨by omega,by omega⟩
  ·rw [Y0 h];have h1:=qb s.z7 n;have h2:=qb r (zt s.z7 n).2;simp only [Sel.ws,Sel.w]
   exact ⟨by omega,by omega⟩
termination_by l=>SizeOf.sizeOf l
decreasing_by
 all_goals first
  |(simp only [List.cons.sizeOf_spec];have:=Sel.zB s;omega)
theorem z52:∀(l:List Op) (n:Nat),(Zo l n).2<=n+yN l
 |[],n=>by simp [Zo]
 |o::r,n=>by
  have h1:=qb o.z7 n;have h2:=z52 r (zt o.z7 n).2;rw [W6];simp only [Zo];omega
theorem z7A:∀(l:List zA) (n:Nat),(ZC l n).2<=n+frW l
 |[],n=>by simp [ZC]
 |o::r,n=>by
  have h1:=qb o.z7 n;have h2:=z7A r (zt o.z7 n).2;rw [qe];simp only [ZC];omega
theorem z7r (q:Query):z2f q<=yN q.ops+frW q.z8:=by
 have h1:=z52 q.ops 0;have h2:=z7A q.z8 (Zo q.ops 0).2;unfold z2f;omega
theorem z2r {s:Sel} (h:s.Ok) {a:Str} (ha:a.length<=140737488355328) {l:List Sel} (hl:zU l):Sel.Ok (.mk s.kind a s.name s.on s.args s.zS l):=
 .mk ha h.nm h.on h.arl h.dl hl.1 h.ar h.d hl.2
theorem Qk:∀(l:List Sel) (n:Nat),(∀x,x∈l->x.Ok)->∀x,x∈(zt l n).1->x.Ok
 |[],n,_,x,hx=>by rw [wh] at hx;cases hx
 |s::r,n,h,x,hx=>by
  have hs:=h s (by simp);have hr:=fun y hy=>h y (List.mem_cons_of_mem _ hy);by_cases hk:s.kind=1
  ·rw [yZ hk] at hx
   rcases List.mem_cons.1 hx with rfl|hx
   ·exact z2r hs (by have:=z9w n;omega) ⟨by rw [(Zc _ _).2];exact hs.sl,Qk s.z7 _ hs.s⟩
   ·exact Qk r _ hr x hx
  ·rw [Y0 hk] at hx
   rcases List.mem_cons.1 hx with rfl|hx
   ·exact z2r hs hs.al ⟨by rw [(Zc _ _).2];exact hs.sl,Qk s.z7 _ hs.s⟩
   ·exact Qk r _ hr x hx
termination_by l=>SizeOf.sizeOf l
decreasing_by
 all_goals first
  |(simp only [List.cons.sizeOf_spec];have:=Sel.zB s;omega)
theorem z5f {l:List Sel} (h:zU l) (n:Nat):zU (zt l n).1:=⟨by rw [(Zc _ _).2];exact h.1,Qk l n h.2⟩
theorem zc8 {q:Query} (h:q.Ok):(z22 q).Ok:=by
 refine ⟨by show (Zo q.ops 0).1.length<=_;rw [(wP _ _).2];exact h.ol,fun x hx=>?_,by show (ZC q.z8 _).1.length*56<=_;rw [(wm _ _).2];exact h.fl,fun x hx=>?_⟩
 ·obtain ⟨f,m,h1,rfl,_⟩:=Q4 _ _ _ hx;have:=h.o f h1;exact ⟨this.nm,this.vl,this.v,z5f this.s m⟩
 ·obtain ⟨f,m,h1,rfl,_⟩:=qo _ _ _ hx;have:=h.f f h1;exact ⟨this.nm,this.on,z5f this.s m⟩
theorem zbd {ds:List Def} {q:Query} (hw:yN q.ops+frW q.z8<=1073741824) (hr:qS q=true) (hc:z4Y ds q=[]):z6s ds (z22 q):=by
 have hN:=z7r q;have hC:=zaq hc;obtain ⟨ko,kf⟩:=z8c hr;have hfo:∀f,f∈q.z8->W8 q f.z7=true:=fun f hf=>(hC.f f hf).1;have hNN:(ZC q.z8 (Zo q.ops 0).2).2=z2f q:=rfl;have hle:=wm q.z8 (Zo q.ops 0).2
 have hn:∀v f,zd v (z22 q).z8=some f->Rng 0 (z2f q) (tk f.z7):=fun v f hf k hk=>by
  obtain ⟨i,g1,g2,g3⟩:=(z1Q kf (by omega) hf).1 k hk
  exact ⟨i,by omega,by omega,g3⟩
 refine ⟨fun x hx=>?_,fun x hx=>?_⟩
 ·obtain ⟨f,m,h1,rfl,h3,h4⟩:=Q4 _ _ _ hx
  have hA:z30 (z22 q) (fun _=>True) 0 (Zo q.ops 0).2 (z2f q):=by
   refine ⟨z4w kf (by omega) fun _ f _ _=>SpA.zaV _,fun v g _ hg l hl=>hl.dis (z1Q kf (by omega) hg).1 (.inl (Nat.le_refl _)) (by omega) (by omega),hn,by omega,by omega⟩
  have h5:=(qb f.z7 m).1;have h6:=z1m h1
  exact ⟨(Yu hA f.z7 m h3 h4 (ko f h1) (SpA.zaV _)).2 _,by show f.name.length+Sel.ws (zt f.z7 m).1<=_;omega⟩
 ·obtain ⟨f,m,h1,rfl,h3,h4,h5⟩:=QO _ _ _ hx;have hlo:=(hC.f f h1).2.1;unfold qg at hlo;have hlo:=of_decide_eq_false hlo;obtain ⟨w1,w2⟩:=wR hfo q.z8.length f.z7 [] (WOk.start q) (hfo f h1)
  have hA:z30 (z22 q) (fun v=>v∈(wF q f.z7).1) m (zt f.z7 m).2 (z2f q):=by
   refine ⟨z4w kf (by omega) fun v g hg hv=>w2 v g hv (by simp) hg,fun v g hv hg l hl=>?_,hn,by omega,by omega⟩
   have hgn:=ZM hg;obtain ⟨f',k',g1,e2,g3,g4,g5⟩:=h5 g (Zu hg) (by rw [hgn];exact fun e=>hlo (e▸hv));have r2:=q9 f'.z7 k' (kf f' g1) (by omega);rw [e2];exact hl.dis r2.rng g5 (by omega) (by omega)
  have h6:=(qb f.z7 m).1;have h7:=z3Z h1
  exact ⟨(Yu hA f.z7 m (Nat.le_refl _) (Nat.le_refl _) (kf f h1) w1).2 _,by show f.name.length+Sel.ws (zt f.z7 m).1<=_;omega⟩
theorem zbC:∀l:List Op,l.length<=Y9 (l.map Op.enc)
 |[]=>by simp
 |o::r=>by
  have h1:=zbC r;simp only [List.map_cons,Y9,List.length_cons,Op.enc,yy,T.bulk];omega
theorem zen (H:yx P) (ds:List Def) (hD:Zd ds) (q:Query) (hq:q.Ok) (hw:yN q.ops+frW q.z8<=1073741824) (ho1:q.ops.length<=1048576):z9 P 5 [yd ds,q.v] ⟨[],0⟩ {v:= .t (.bool true)}:=by
 have hN:=z7r q;refine z4v H (z3C H) ds hD q hq (by omega) (by omega) ho1 (zc8 hq) fun he=>?_;unfold zc9 at he;simp only [Bool.and_eq_true] at he;exact zbd hw he.1.1.1.2 (zaf he.2)
end Go.GB.C15
namespace Go.GB
open Go.RowKit
def Qy:List Sh:=[.int .i64,.int .i64,.str,.num 0,.lst 16 [.str]]
def z7y:List Sh:= .str::Qy
def z0n:List Sh:=[.str,.lst 96 z7y]
def z74:List Sh:=[.str,.lst 8 [.int .i64]]
def z0T:List Sh:=[.str]++z74++[.bool]++Qy++[.lst 40 z0n]
def z6Q:List Sh:=[.str,.lst 168 z0T]++z74++[.lst 40 z0n]
def z54:List Sh:=[.str,.lst 40 z0n]
def zce:List Sh:=[.int .i64,.str,.lst 16 [.str],.lst 40 z0n,.lst 104 z6Q,.lst 40 z54,.lst 168 z0T]
def z96:List Sh:=[.lst 144 zce]
def YA:Nat->T->Prop
 |0,x=>∃l:List Val,x= .lst (l.map Val.enc)/\l.length*80<=B47/\∀v∈l,v.Ok
 |_,x=>∃l:List yO,x= .lst (l.map yO.enc)/\l.length*160<=B47/\∀p∈l,p.Ok/\p.on.length<=maxLen
theorem Zi:reachBytes<=140737488355328:=by decide
theorem z77 {Y:Nat->T->Prop} {x:T} {b:Nat} (h:(Sh.lst b [.str]).ok Y x):∃l:List Str,x= .lst (l.map sE)/\l.length*b<=reachBytes/\∀s∈l,s.length<=reachBytes:=by
 obtain ⟨xs,rfl,h1,_,h2⟩:=h
 obtain ⟨l,rfl,h3⟩:=yo (f:=sE) (Q:=fun s=>s.length<=reachBytes) xs fun c hc=>by
  obtain ⟨x,r,rfl,⟨s,rfl,hs⟩,h⟩:=Sh.zw (h2 c hc);obtain rfl:=Sh.ZZ h;exact ⟨s,rfl,hs⟩
 exact ⟨l,rfl,by simpa using h1,h3⟩
theorem zby {Y:Nat->T->Prop} {x:T} {b:Nat} (h:(Sh.lst b [.int .i64]).ok Y x):∃l:List Int,x= .lst (l.map nE)/\l.length*b<=reachBytes:=by
 obtain ⟨xs,rfl,h1,_,h2⟩:=h
 obtain ⟨l,rfl,h3⟩:=yo (f:=nE) (Q:=fun _=>True) xs fun c hc=>by
  obtain ⟨x,r,rfl,⟨s,rfl,hs⟩,h⟩:=Sh.zw (h2 c hc);obtain rfl:=Sh.ZZ h;exact ⟨s,rfl,trivial⟩
 exact ⟨l,rfl,by simpa using h1⟩
theorem yX {α:Type} {f:α->List T} {Q:α->Prop} {Y:Nat->T->Prop} {x:T} {b:Nat} {sh:List Sh} (hf:∀c,Sh.oks Y sh c->∃a,c=f a/\Q a) (h:(Sh.lst b sh).ok Y x):∃l:List α,x= .lst (l.map f)/\l.length*b<=reachBytes/\l.length<=maxLen/\∀a∈l,Q a:=by
 obtain ⟨xs,rfl,h1,h0,h2⟩:=h;obtain ⟨l,rfl,h3⟩:=yo (f:=f) (Q:=Q) xs fun c hc=>hf c (h2 c hc)
 exact ⟨l,rfl,by simpa using h1,by simpa using h0,h3⟩
theorem z1z {r:List Sh} {c:List T} (h:Sh.oks YA (Qy++r) c):∃(v:Val) (c':List T),c=v.cs++c'/\v.Ok/\Sh.oks YA r c':=by
 obtain ⟨x1,c,rfl,⟨k,rfl,_⟩,g1⟩:=Sh.zw h;obtain ⟨x2,c,rfl,⟨i,rfl,_⟩,g2⟩:=Sh.zw g1;obtain ⟨x3,c,rfl,⟨t,rfl,ht⟩,g3⟩:=Sh.zw g2;obtain ⟨x4,c,rfl,⟨its,rfl,hi1,hi2⟩,g4⟩:=Sh.zw g3;obtain ⟨x5,c,rfl,hk,g5⟩:=Sh.zw g4;obtain ⟨ks,rfl,hk1,hk2⟩:=z77 hk;have:=Zi
 refine ⟨.mk k i t its ks,c,rfl,.mk hi1 (by unfold B47;omega) hi2 (by omega) (fun x hx=>by have:=hk2 x hx;omega),g5⟩
theorem zbY {c:List T} (h:Sh.oks YA Qy c):∃v:Val,c=v.enc/\v.Ok:=by
 obtain ⟨v,c',rfl,h1,h2⟩:=z1z (r:=[]) (by simpa using h);obtain rfl:=Sh.ZZ h2
 exact ⟨v,by rw [Val.Zf,List.append_nil],h1⟩
theorem zcr {c:List T} (h:Sh.oks YA z7y c):∃a:Arg,c=a.enc/\a.Ok:=by
 obtain ⟨x,c,rfl,⟨n,rfl,_⟩,g1⟩:=Sh.zw h;obtain ⟨v,c',rfl,h1,h2⟩:=z1z (r:=[]) (by simpa using g1);obtain rfl:=Sh.ZZ h2
 exact ⟨⟨n,v⟩,by simp [Arg.enc,Val.cs],h1⟩
theorem zcn {c:List T} (h:Sh.oks YA z0n c):∃a:Dir,c=a.enc/\a.Ok:=by
 have:=Zi;obtain ⟨x,c,rfl,⟨n,rfl,hn⟩,g1⟩:=Sh.zw h;obtain ⟨x,c,rfl,hx,g2⟩:=Sh.zw g1;obtain rfl:=Sh.ZZ g2;obtain ⟨l,rfl,h1,_,h2⟩:=yX (fun c hc=>zcr hc) hx
 exact ⟨⟨n,l⟩,rfl,⟨by show l.length<=_;omega,h2,by show n.length<=_;omega⟩⟩
theorem z0W {b:Nat} (hb:0<b) {x:T} (h:(Sh.lst b z0n).ok YA x):∃l:List Dir,x= .lst (l.map Dir.enc)/\l.length<=140737488355328/\∀d∈l,d.Ok:=by
 have:=Zi;obtain ⟨l,rfl,h1,_,h2⟩:=yX (fun c hc=>zcn hc) h;refine ⟨l,rfl,?_,h2⟩;have:l.length<=l.length*b:=Nat.le_mul_of_pos_right _ hb;omega
theorem z60 {r:List Sh} {c:List T} (h:Sh.oks YA (z74++r) c):∃(v:Ref) (c':List T),c= .str v.name:: .lst (v.zq.map nE)::c'/\v.Ok/\Sh.oks YA r c':=by
 have:=Zi;obtain ⟨x1,c,rfl,⟨n,rfl,hn⟩,g1⟩:=Sh.zw h;obtain ⟨x5,c,rfl,hk,g2⟩:=Sh.zw g1;obtain ⟨ks,rfl,hk1⟩:=zby hk
 exact ⟨⟨n,ks⟩,c,rfl,⟨by show ks.length*8<=_;omega,by show n.length<=_;omega⟩,g2⟩
theorem z90 {c:List T} (h:Sh.oks YA z0T c):∃a:Input,c=a.enc/\a.Ok:=by
 have:=Zi;obtain ⟨x,c,rfl,⟨n,rfl,hn⟩,g1⟩:=Sh.zw h;obtain ⟨t,c,rfl,ht,g2⟩:=z60 g1;obtain ⟨x,c,rfl,⟨b,rfl⟩,g3⟩:=Sh.zw g2;obtain ⟨v,c,rfl,hv,g4⟩:=z1z g3;obtain ⟨x,c,rfl,hx,g5⟩:=Sh.zw g4;obtain rfl:=Sh.ZZ g5;obtain ⟨l,rfl,h1,h2⟩:=z0W (by decide) hx
 exact ⟨⟨n,t,b,v,l⟩,by simp [Input.enc,Val.cs],⟨ht,hv,h1,h2,by show n.length<=_;omega⟩⟩
theorem z2T {x:T} (h:(Sh.lst 168 z0T).ok YA x):∃l:List Input,x= .lst (l.map Input.enc)/\l.length<=140737488355328/\∀d∈l,d.Ok:=by
 have:=Zi;obtain ⟨l,rfl,h1,_,h2⟩:=yX (fun c hc=>z90 hc) h
 exact ⟨l,rfl,by omega,h2⟩
theorem zaI {c:List T} (h:Sh.oks YA z6Q c):∃a:Field,c=a.enc/\a.Ok:=by
 have:=Zi;obtain ⟨x,c,rfl,⟨n,rfl,hn⟩,g1⟩:=Sh.zw h;obtain ⟨x,c,rfl,hx,g2⟩:=Sh.zw g1;obtain ⟨ins,rfl,i1,i2⟩:=z2T hx;obtain ⟨t,c,rfl,ht,g3⟩:=z60 g2;obtain ⟨x,c,rfl,hx,g4⟩:=Sh.zw g3;obtain rfl:=Sh.ZZ g4;obtain ⟨l,rfl,h1,h2⟩:=z0W (by decide) hx
 exact ⟨⟨n,ins,t,l⟩,rfl,⟨i1,i2,ht,h1,h2,by show n.length<=_;omega⟩⟩
theorem z8p {c:List T} (h:Sh.oks YA z54 c):∃a:ZF,c=a.enc/\a.Ok:=by
 have:=Zi;obtain ⟨x,c,rfl,⟨n,rfl,hn⟩,g1⟩:=Sh.zw h;obtain ⟨x,c,rfl,hx,g2⟩:=Sh.zw g1;obtain rfl:=Sh.ZZ g2;obtain ⟨l,rfl,h1,h2⟩:=z0W (by decide) hx
 exact ⟨⟨n,l⟩,rfl,⟨h1,h2,by show n.length<=_;omega⟩⟩
theorem zcV {c:List T} (h:Sh.oks YA zce c):∃a:Def,c=a.enc/\a.Ok:=by
 have:=Zi;obtain ⟨x,c,rfl,⟨k,rfl,_⟩,g1⟩:=Sh.zw h;obtain ⟨x,c,rfl,⟨n,rfl,hn⟩,g2⟩:=Sh.zw g1;obtain ⟨x,c,rfl,hx,g3⟩:=Sh.zw g2;obtain ⟨im,rfl,a1,a2⟩:=z77 hx;obtain ⟨x,c,rfl,hx,g4⟩:=Sh.zw g3;obtain ⟨ds,rfl,b1,b2⟩:=z0W (by decide) hx;obtain ⟨x,c,rfl,hx,g5⟩:=Sh.zw g4;obtain ⟨fs,rfl,c1,_,c2⟩:=yX (fun c hc=>zaI hc) hx;obtain ⟨x,c,rfl,hx,g6⟩:=Sh.zw g5;obtain ⟨ms,rfl,d1,_,d2⟩:=yX (fun c hc=>z8p hc) hx;obtain ⟨x,c,rfl,hx,g7⟩:=Sh.zw g6;obtain ⟨is,rfl,e1,e2⟩:=z2T hx;obtain rfl:=Sh.ZZ g7
 exact ⟨⟨k,n,im,ds,fs,ms,is⟩,rfl,⟨by show im.length<=_;omega,b1,b2,by show fs.length<=_;omega,c2,by show ms.length<=_;omega,d2,e1,e2,by show n.length<=_;omega,fun y hy=>by have:=a2 y hy;omega⟩⟩
theorem zd4 {r:List Sh} {c:List T} (h:Sh.oks YA (z96++r) c):∃(l:List Def) (c':List T),c= .lst (l.map Def.enc)::c'/\Zd l/\Sh.oks YA r c':=by
 have:=Zi;obtain ⟨x,c,rfl,hx,g1⟩:=Sh.zw h;obtain ⟨l,rfl,h1,_,h2⟩:=yX (fun c hc=>zcV hc) hx
 exact ⟨l,c,rfl,⟨by omega,h2,by omega⟩,g1⟩
def spV (vt:TypeId) (e:TypeId):Option Nat:=if e=vt then some 0 else none
theorem zaC {P:Program} {vt:TypeId} (hb:P.bytesOf vt=80) (hs:Qd P (spV vt) 6 vt=some Qy):∀(n:Nat) (c:List T),WT P n vt c->∃v:Val,c=v.enc/\v.Ok:=by
 intro n
 induction n using Nat.strongRecOn with
 |_ n ih=>
  intro c h;refine zbY (ql (Y:=YA) n 6 vt Qy c (fun e i k xs hk he hr hl hc=>?_) hs h);unfold spV at he;split at he
  ·rename_i e1;subst e1;simp only [Option.some.injEq] at he;subst he;obtain ⟨l,rfl,h3⟩:=yo (f:=Val.enc) (Q:=Val.Ok) xs fun c hcm=>ih k hk c (hc c hcm);have:=Zi;rw [hb] at hr
   exact ⟨l,rfl,by unfold B47;simp at hr;omega,h3⟩
  ·cases he
theorem zbo {c:List T} (h:Sh.oks YA z96 c):∃l:List Def,c=[.lst (l.map Def.enc)]/\Zd l:=by
 obtain ⟨l,c',rfl,h1,h2⟩:=zd4 (r:=[]) h;obtain rfl:=Sh.ZZ h2;exact ⟨l,rfl,h1⟩
end Go.GB
namespace Go.GB.C11
open Go.GB
end Go.GB.C11
namespace Go.GB
open Go.RowKit
mutual
def Sh.low:Sh->Bool
 | .num i=>i==0
 | .lst _ s=>Sh.zbV s
 |_=>true
def Sh.zbV:List Sh->Bool
 |[]=>true
 |s::r=>s.low&&Sh.zbV r
end
mutual
theorem Sh.z0P {Y Z:Nat->T->Prop} (h:∀x,Y 0 x->Z 0 x):∀(s:Sh) (x:T),s.low=true->s.ok Y x->s.ok Z x
 | .num i,x,hl,hx=>by
  simp only [Sh.low,beq_iff_eq] at hl;subst hl;exact h x hx
 | .lst b s,x,hl,hx=>by
  obtain ⟨xs,h1,h2,h3,h4⟩:=hx;exact ⟨xs,h1,h2,h3,fun c hc=>Sh.z1M h s c (by simpa [Sh.low] using hl) (h4 c hc)⟩
 | .int k,x,hl,hx=>hx
 | .str,x,hl,hx=>hx
 | .bool,x,hl,hx=>hx
 | .any,x,hl,hx=>hx
theorem Sh.z1M {Y Z:Nat->T->Prop} (h:∀x,Y 0 x->Z 0 x):∀(s:List Sh) (c:List T),Sh.zbV s=true->Sh.oks Y s c->Sh.oks Z s c
 |[],[],_,_=>trivial
 |[],x::c,_,hx=>by simp [Sh.oks] at hx
 |s::r,[],_,hx=>by simp [Sh.oks] at hx
 |s::r,x::c,hl,hx=>by
  simp only [Sh.zbV,Bool.and_eq_true] at hl;simp only [Sh.oks] at hx⊢;exact ⟨Sh.z0P h s x hl.1 hx.1,Sh.z1M h r c hl.2 hx.2⟩
end
def YS:Nat->T->Prop
 |0,x=>YA 0 x
 |_,x=>∃l:List Sel,x= .lst (l.map Sel.enc)/\l.length*128<=B47/\∀v∈l,v.Ok
def z7l:List Sh:=[.int .i64,.str,.str,.str,.lst 96 z7y,.lst 40 z0n,.num 1]
def zck:List Sh:=[.str]++z74++[.bool]++Qy
def zdS:List Sh:=[.int .i64,.str,.lst 144 zck,.num 1]
def z8T:List Sh:=[.str,.str,.num 1]
def z7w:List Sh:=[.lst 72 zdS,.lst 56 z8T]
theorem z7m {c:List T} (h:Sh.oks YA z7y c):∃a:Arg,c=a.enc/\(a.Ok/\a.name.length<=140737488355328):=by
 have:=Zi;obtain ⟨x,c,rfl,⟨n,rfl,hn⟩,g1⟩:=Sh.zw h;obtain ⟨v,c',rfl,h1,h2⟩:=z1z (r:=[]) (by simpa using g1);obtain rfl:=Sh.ZZ h2
 exact ⟨⟨n,v⟩,by simp [Arg.enc,Val.cs],h1,by show n.length<=_;omega⟩
theorem zbH {c:List T} (h:Sh.oks YA z0n c):∃a:Dir,c=a.enc/\(a.Ok/\∀y,y∈a.args->y.name.length<=140737488355328):=by
 have:=Zi;obtain ⟨x,c,rfl,⟨n,rfl,hn⟩,g1⟩:=Sh.zw h;obtain ⟨x,c,rfl,hx,g2⟩:=Sh.zw g1;obtain rfl:=Sh.ZZ g2;obtain ⟨l,rfl,h1,_,h2⟩:=yX (fun c hc=>z7m hc) hx
 exact ⟨⟨n,l⟩,rfl,⟨by show l.length<=_;omega,fun y hy=>(h2 y hy).1,by show n.length<=_;omega⟩,fun y hy=>(h2 y hy).2⟩
theorem zcv {c:List T} (h:Sh.oks YS z7l c):∃s:Sel,c=s.enc/\s.Ok:=by
 have:=Zi;obtain ⟨x,c,rfl,⟨k,rfl,_⟩,g1⟩:=Sh.zw h;obtain ⟨x,c,rfl,⟨al,rfl,h1⟩,g2⟩:=Sh.zw g1;obtain ⟨x,c,rfl,⟨n,rfl,h2⟩,g3⟩:=Sh.zw g2;obtain ⟨x,c,rfl,⟨o,rfl,h3⟩,g4⟩:=Sh.zw g3;obtain ⟨x,c,rfl,hx,g5⟩:=Sh.zw g4;obtain ⟨as,rfl,a1,_,a2⟩:=yX (fun c hc=>z7m hc) (Sh.z0P (Y:=YS) (Z:=YA) (fun _ h=>h) _ _ (by decide) hx);obtain ⟨x,c,rfl,hx,g6⟩:=Sh.zw g5;obtain ⟨ds,rfl,d1,_,d2⟩:=yX (fun c hc=>zbH hc) (Sh.z0P (Y:=YS) (Z:=YA) (fun _ h=>h) _ _ (by decide) hx);obtain ⟨x,c,rfl,⟨ss,rfl,s1,s2⟩,g7⟩:=Sh.zw g6;obtain rfl:=Sh.ZZ g7
 exact ⟨.mk k al n o as ds ss,by rw [Sel.Zf];rfl,.mk (by omega) (by omega) (by omega) (by unfold B47;omega) (by omega) s1 a2 d2 s2⟩
def spS (vt st:TypeId) (e:TypeId):Option Nat:=if e=vt then some 0 else if e=st then some 1 else none
theorem zcB {P:Program} {vt st:TypeId} (hb:P.bytesOf vt=80) (hs:Qd P (spV vt) 6 vt=some Qy) (hbs:P.bytesOf st=128) (hss:Qd P (spS vt st) 12 st=some z7l):∀(n:Nat) (c:List T),WT P n st c->∃s:Sel,c=s.enc/\s.Ok:=by
 have hv:=zaC hb hs;intro n
 induction n using Nat.strongRecOn with
 |_ n ih=>
  intro c h;refine zcv (ql (Y:=YS) n 12 st z7l c (fun e i k xs hk he hr hl hc=>?_) hss h);have:=Zi;unfold spS at he;split at he
  ·rename_i e1;subst e1;simp only [Option.some.injEq] at he;subst he;obtain ⟨l,rfl,h3⟩:=yo (f:=Val.enc) (Q:=Val.Ok) xs fun c hcm=>hv k c (hc c hcm);rw [hb] at hr
   exact ⟨l,rfl,by unfold B47;simp at hr;omega,h3⟩
  ·split at he
   ·rename_i _ e1;subst e1;simp only [Option.some.injEq] at he;subst he;obtain ⟨l,rfl,h3⟩:=yo (f:=Sel.enc) (Q:=Sel.Ok) xs fun c hcm=>ih k hk c (hc c hcm);rw [hbs] at hr
    exact ⟨l,rfl,by unfold B47;simp at hr;omega,h3⟩
   ·cases he
theorem zel {P:Program} {vt st:TypeId} (hb:P.bytesOf vt=80) (hs:Qd P (spV vt) 6 vt=some Qy) (hbs:P.bytesOf st=128) (hss:Qd P (spS vt st) 12 st=some z7l):
  ∀e i n xs,spS vt st e=some i->xs.length*P.bytesOf e<=reachBytes->xs.length<=maxLen->(∀c∈xs,WT P n e c)->YS i (.lst xs):=by
 have hv:=zaC hb hs;have hp:=zcB hb hs hbs hss;intro e i k xs he hr hl hc;have:=Zi;unfold spS at he;split at he
 ·rename_i e1;subst e1;simp only [Option.some.injEq] at he;subst he;obtain ⟨l,rfl,h3⟩:=yo (f:=Val.enc) (Q:=Val.Ok) xs fun c hcm=>hv k c (hc c hcm);rw [hb] at hr
  exact ⟨l,rfl,by unfold B47;simp at hr;omega,h3⟩
 ·split at he
  ·rename_i _ e1;subst e1;simp only [Option.some.injEq] at he;subst he;obtain ⟨l,rfl,h3⟩:=yo (f:=Sel.enc) (Q:=Sel.Ok) xs fun c hcm=>hp k c (hc c hcm);rw [hbs] at hr
   exact ⟨l,rfl,by unfold B47;simp at hr;omega,h3⟩
  ·cases he
theorem zdh {c:List T} (h:Sh.oks YA zck c):∃a:Var,c=a.enc/\a.Ok:=by
 have:=Zi;obtain ⟨x,c,rfl,⟨n,rfl,hn⟩,g1⟩:=Sh.zw h;obtain ⟨t,c,rfl,ht,g2⟩:=z60 g1;obtain ⟨x,c,rfl,⟨b,rfl⟩,g3⟩:=Sh.zw g2;obtain ⟨v,c,rfl,hv,g4⟩:=z1z (r:=[]) (by simpa using g3);obtain rfl:=Sh.ZZ g4
 exact ⟨⟨n,t,b,v⟩,by simp [Var.enc,Val.cs],⟨by show n.length<=_;omega,ht,hv⟩⟩
theorem ze1 {c:List T} (h:Sh.oks YS zdS c):∃a:Op,c=a.enc/\a.Ok:=by
 have:=Zi;obtain ⟨x,c,rfl,⟨k,rfl,_⟩,g1⟩:=Sh.zw h;obtain ⟨x,c,rfl,⟨n,rfl,h1⟩,g2⟩:=Sh.zw g1;obtain ⟨x,c,rfl,hx,g3⟩:=Sh.zw g2;obtain ⟨vs,rfl,v1,_,v2⟩:=yX (fun c hc=>zdh hc) (Sh.z0P (Y:=YS) (Z:=YA) (fun _ h=>h) _ _ (by decide) hx);obtain ⟨x,c,rfl,⟨ss,rfl,s1,s2⟩,g4⟩:=Sh.zw g3;obtain rfl:=Sh.ZZ g4;unfold B47 at s1
 exact ⟨⟨k,n,vs,ss⟩,rfl,⟨by show n.length<=_;omega,by show vs.length<=_;omega,v2,s1,s2⟩⟩
theorem zbL {c:List T} (h:Sh.oks YS z8T c):∃a:zA,c=a.enc/\a.Ok:=by
 have:=Zi;obtain ⟨x,c,rfl,⟨n,rfl,h1⟩,g2⟩:=Sh.zw h;obtain ⟨x,c,rfl,⟨o,rfl,h2⟩,g3⟩:=Sh.zw g2;obtain ⟨x,c,rfl,⟨ss,rfl,s1,s2⟩,g4⟩:=Sh.zw g3;obtain rfl:=Sh.ZZ g4;unfold B47 at s1
 exact ⟨⟨n,o,ss⟩,rfl,⟨by show n.length<=_;omega,by show o.length<=_;omega,s1,s2⟩⟩
theorem z9K {r:List Sh} {c:List T} (h:Sh.oks YS (z7w++r) c):∃(q:Query) (c':List T),c= .lst (q.ops.map Op.enc):: .lst (q.z8.map zA.enc)::c'/\q.Ok/\Sh.oks YS r c':=by
 have:=Zi;obtain ⟨x,c,rfl,hx,g1⟩:=Sh.zw h;obtain ⟨os,rfl,o1,_,o2⟩:=yX (fun c hc=>ze1 hc) hx;obtain ⟨x,c,rfl,hx,g2⟩:=Sh.zw g1;obtain ⟨fs,rfl,f1,_,f2⟩:=yX (fun c hc=>zbL hc) hx
 exact ⟨⟨os,fs⟩,c,rfl,⟨by show os.length<=_;omega,o2,by show fs.length*56<=_;omega,f2⟩,g2⟩
theorem zdq {c:List T} (h:Sh.oks YS z7w c):∃q:Query,c=[.lst (q.ops.map Op.enc),.lst (q.z8.map zA.enc)]/\q.Ok:=by
 obtain ⟨q,c',rfl,h1,h2⟩:=z9K (r:=[]) h;obtain rfl:=Sh.ZZ h2;exact ⟨q,rfl,h1⟩
theorem zdG {c:List T} (h:Sh.oks YS z96 c):∃l:List Def,c=[.lst (l.map Def.enc)]/\Zd l:=
 zbo (Sh.z1M (Y:=YS) (Z:=YA) (fun _ h=>h) _ _ (by decide) h)
end Go.GB
namespace Go.GB
open Go.RowKit Go.WideShapes Go.ChangeShapes
end Go.GB
