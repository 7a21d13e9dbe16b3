/-
  YtpakhiccblfcmaaGreatP5: lemmas of this proof (part 5). No conditions.
-/
import Derived.Test.YtpakhiccblfcmaaGreatP4
import Derived.Maps.RangeRun
import Derived.Test.YtpakhiccblfcmaaGreatP3
set_option linter.all false
set_option maxRecDepth 100000
set_option maxHeartbeats 16000000
namespace Go.GB
abbrev Str:=List UInt8
def sE (s:Str):List T:=[.str s]
def nE (n:Int):List T:=[.int .i64 n]
theorem qC:Y7 [.str] sE:=⟨fun _=>rfl,fun x y h=>by simpa [sE,ZX,T.eqb] using h,fun x=>by simp [sE,ZX,T.eqb]⟩
inductive Val where
 |mk (kind int:Int) (text:Str) (items:List Val) (keys:List Str)
namespace Val
def kind:Val->Int| .mk k _ _ _ _=>k
def int:Val->Int| .mk _ k _ _ _=>k
def text:Val->Str| .mk _ _ k _ _=>k
def items:Val->List Val| .mk _ _ _ k _=>k
def keys:Val->List Str| .mk _ _ _ _ k=>k
mutual
def enc:Val->List T
 | .mk k i t its ks=>[.int .i64 k,.int .i64 i,.str t,.lst (z26 its),.lst (ks.map sE)]
def z26:List Val->List (List T)
 |[]=>[]
 |v::r=>v.enc::z26 r
end
theorem qQ:∀l:List Val,z26 l=l.map enc
 |[]=>by simp [z26]
 |v::r=>by simp [z26,qQ r]
def cs (v:Val):List T:=[.int .i64 v.kind,.int .i64 v.int,.str v.text,.lst (v.items.map enc),.lst (v.keys.map sE)]
theorem zw (v:Val):v.enc=v.cs:=by
 cases v;simp [enc,cs,kind,int,text,items,keys,qQ]
def v (x:Val):V:= .agg [.t (.int .i64 x.kind),.t (.int .i64 x.int),.t (.str x.text),.t (.lst (x.items.map enc)),.t (.lst (x.keys.map sE))]
theorem yE:∀(v:Val) {x:Val},x∈v.items->SizeOf.sizeOf x<SizeOf.sizeOf v
 | .mk k i t its ks,x,h=>by
  have:=List.sizeOf_lt_of_mem h;simp only [items] at this;simp only [Val.mk.sizeOf_spec];omega
end Val
structure Ref where
 name:Str
 zr:List Int
structure Arg where
 name:Str
 val:Val
def Arg.enc (a:Arg):List T:=[.str a.name,.int .i64 a.val.kind,.int .i64 a.val.int,.str a.val.text,.lst (a.val.items.map Val.enc),.lst (a.val.keys.map sE)]
structure Dir where
 name:Str
 args:List Arg
def Dir.enc (d:Dir):List T:=[.str d.name,.lst (d.args.map Arg.enc)]
structure Input where
 name:Str
 ty:Ref
 has:Bool
 YN:Val
 zX:List Dir
def Input.enc (x:Input):List T:=[.str x.name,.str x.ty.name,.lst (x.ty.zr.map nE),.bool x.has,.int .i64 x.YN.kind,.int .i64 x.YN.int,.str x.YN.text,.lst (x.YN.items.map Val.enc),.lst (x.YN.keys.map sE),.lst (x.zX.map Dir.enc)]
structure Field where
 name:Str
 args:List Input
 ty:Ref
 zX:List Dir
def Field.enc (f:Field):List T:=[.str f.name,.lst (f.args.map Input.enc),.str f.ty.name,.lst (f.ty.zr.map nE),.lst (f.zX.map Dir.enc)]
structure zN where
 name:Str
 zX:List Dir
def zN.enc (m:zN):List T:=[.str m.name,.lst (m.zX.map Dir.enc)]
structure Def where
 kind:Int
 name:Str
 implements:List Str
 zX:List Dir
 fields:List Field
 members:List zN
 ze:List Input
def Def.enc (d:Def):List T:=[.int .i64 d.kind,.str d.name,.lst (d.implements.map sE),.lst (d.zX.map Dir.enc),.lst (d.fields.map Field.enc),.lst (d.members.map zN.enc),.lst (d.ze.map Input.enc)]
structure Hop where
 on:Str
 key:Str
def Hop.enc (h:Hop):List T:=[.str h.on,.str h.key]
inductive za where
 |mk (key on name:Str) (args:List Arg) (ty:Ref) (label:Str) (initial:Int) (z5:List za)
namespace za
def key:za->Str| .mk k _ _ _ _ _ _ _=>k
def on:za->Str| .mk _ k _ _ _ _ _ _=>k
def name:za->Str| .mk _ _ k _ _ _ _ _=>k
def args:za->List Arg| .mk _ _ _ k _ _ _ _=>k
def ty:za->Ref| .mk _ _ _ _ k _ _ _=>k
def label:za->Str| .mk _ _ _ _ _ k _ _=>k
def initial:za->Int| .mk _ _ _ _ _ _ k _=>k
def z5:za->List za| .mk _ _ _ _ _ _ _ k=>k
mutual
def enc:za->List T
 | .mk k o n a t l i ps=>[.str k,.str o,.str n,.lst (a.map Arg.enc),.str t.name,.lst (t.zr.map nE),.str l,.int .i64 i,.lst (z26 ps)]
def z26:List za->List (List T)
 |[]=>[]
 |v::r=>v.enc::z26 r
end
theorem qQ:∀l:List za,z26 l=l.map enc
 |[]=>by simp [z26]
 |v::r=>by simp [z26,qQ r]
def cs (v:za):List T:=[.str v.key,.str v.on,.str v.name,.lst (v.args.map Arg.enc),.str v.ty.name,.lst (v.ty.zr.map nE),.str v.label,.int .i64 v.initial,.lst (v.z5.map enc)]
theorem zw (v:za):v.enc=v.cs:=by
 cases v;simp [enc,cs,key,on,name,args,ty,label,initial,z5,qQ]
theorem z76:∀(v:za) {x:za},x∈v.z5->SizeOf.sizeOf x<SizeOf.sizeOf v
 | .mk k o n a t l i ps,x,h=>by
  have:=List.sizeOf_lt_of_mem h;simp only [z5] at this;simp only [za.mk.sizeOf_spec];omega
end za
def B47:Nat:=140737488355328
inductive Val.Ok:Val->Prop where
 |mk {k i:Int} {t:Str} {its:List Val} {ks:List Str} (h1:its.length*80<=B47) (h2:ks.length*16<=B47) (h3:∀x,x∈its->Val.Ok x) (h4:t.length<=140737488355328) (h5:∀x,x∈ks->x.length<=140737488355328):Val.Ok (.mk k i t its ks)
namespace Val.Ok
theorem il {v:Val} (h:v.Ok):v.items.length*80<=140737488355328:=by cases h with|mk h1 h2 h3=>exact h1
theorem kl {v:Val} (h:v.Ok):v.keys.length*16<=140737488355328:=by cases h with|mk h1 h2 h3=>exact h2
theorem it {v:Val} (h:v.Ok):∀x,x∈v.items->x.Ok:=by cases h with|mk h1 h2 h3=>exact h3
theorem tl {v:Val} (h:v.Ok):v.text.length<=140737488355328:=by cases h with|mk h1 h2 h3 h4=>exact h4
theorem kt {v:Val} (h:v.Ok):∀x,x∈v.keys->x.length<=140737488355328:=by cases h with|mk h1 h2 h3 h4 h5=>exact h5
end Val.Ok
def Val.zero:Val:= .mk 0 0 [] [] []
theorem Val.ZD:Val.zero.Ok:= .mk (by decide) (by decide) (by simp) (by decide) (by simp)
def Arg.Ok (a:Arg):Prop:=a.val.Ok
structure Dir.Ok (d:Dir):Prop where
 l:d.args.length<=140737488355328
 a:∀x,x∈d.args->x.Ok
 nm:d.name.length<=140737488355328
structure Ref.Ok (r:Ref):Prop where
 l:r.zr.length*8<=140737488355328
 nm:r.name.length<=140737488355328
structure Input.Ok (x:Input):Prop where
 t:x.ty.Ok
 v:x.YN.Ok
 l:x.zX.length<=140737488355328
 d:∀y,y∈x.zX->y.Ok
 nm:x.name.length<=140737488355328
structure Field.Ok (x:Field):Prop where
 al:x.args.length<=140737488355328
 a:∀y,y∈x.args->y.Ok
 t:x.ty.Ok
 l:x.zX.length<=140737488355328
 d:∀y,y∈x.zX->y.Ok
 nm:x.name.length<=140737488355328
structure zN.Ok (x:zN):Prop where
 l:x.zX.length<=140737488355328
 d:∀y,y∈x.zX->y.Ok
 nm:x.name.length<=140737488355328
structure Def.Ok (x:Def):Prop where
 il:x.implements.length<=140737488355328
 dl:x.zX.length<=140737488355328
 d:∀y,y∈x.zX->y.Ok
 fl:x.fields.length<=140737488355328
 f:∀y,y∈x.fields->y.Ok
 ml:x.members.length<=140737488355328
 m:∀y,y∈x.members->y.Ok
 nl:x.ze.length<=140737488355328
 n:∀y,y∈x.ze->y.Ok
 nm:x.name.length<=140737488355328
 im:∀y,y∈x.implements->y.length<=140737488355328
structure Z8 (ds:List Def):Prop where
 l:ds.length<=140737488355328
 d:∀y,y∈ds->y.Ok
 lb:ds.length*144<=140737488355328
inductive za.Ok:za->Prop where
 |mk {k o n:Str} {a:List Arg} {t:Ref} {l:Str} {i:Int} {ps:List za} (h1:a.length*96<=B47) (h2:∀x,x∈a->x.Ok) (h3:t.Ok) (h4:ps.length*160<=B47) (h5:∀x,x∈ps->za.Ok x):za.Ok (.mk k o n a t l i ps)
namespace za.Ok
theorem al {v:za} (h:v.Ok):v.args.length*96<=140737488355328:=by cases h with|mk h1=>exact h1
theorem aa {v:za} (h:v.Ok):∀x,x∈v.args->x.Ok:=by cases h with|mk h1 h2=>exact h2
theorem t {v:za} (h:v.Ok):v.ty.Ok:=by cases h with|mk h1 h2 h3=>exact h3
theorem pl {v:za} (h:v.Ok):v.z5.length*160<=140737488355328:=by cases h with|mk h1 h2 h3 h4=>exact h4
theorem p {v:za} (h:v.Ok):∀x,x∈v.z5->x.Ok:=by cases h with|mk h1 h2 h3 h4 h5=>exact h5
end za.Ok
def Def.v (d:Def):V:= .agg [.t (.int .i64 d.kind),.t (.str d.name),.t (.lst (d.implements.map sE)),.t (.lst (d.zX.map Dir.enc)),.t (.lst (d.fields.map Field.enc)),.t (.lst (d.members.map zN.enc)),.t (.lst (d.ze.map Input.enc))]
def Def.zero:Def:=⟨0,[],[],[],[],[],[]⟩
theorem Def.ZD:Def.zero.Ok:=⟨by decide,by decide,by simp [Def.zero],by decide,by simp [Def.zero],by decide,by simp [Def.zero],by decide,by simp [Def.zero],by decide,by simp [Def.zero]⟩
def Field.v (f:Field):V:= .agg [.t (.str f.name),.t (.lst (f.args.map Input.enc)),.t (.str f.ty.name),.t (.lst (f.ty.zr.map nE)),.t (.lst (f.zX.map Dir.enc))]
def Field.zero:Field:=⟨[],[],⟨[],[]⟩,[]⟩
theorem Field.ZD:Field.zero.Ok:=⟨by decide,by simp [Field.zero],⟨by decide,by decide⟩,by decide,by simp [Field.zero],by decide⟩
def yS (l:List Def):V:= .agg [.t (.lst (l.map Def.enc))]
def Ref.v (r:Ref):V:= .agg [.t (.str r.name),.t (.lst (r.zr.map nE))]
def za.v (v:za):V:= .agg [.t (.str v.key),.t (.str v.on),.t (.str v.name),.t (.lst (v.args.map Arg.enc)),.t (.str v.ty.name),.t (.lst (v.ty.zr.map nE)),.t (.str v.label),.t (.int .i64 v.initial),.t (.lst (v.z5.map za.enc))]
namespace za
mutual
def cnt:za->Nat
 | .mk _ _ _ _ _ _ _ ps=>1+zQ ps
def zQ:List za->Nat
 |[]=>0
 |p::r=>cnt p+zQ r
end
theorem WD (p:za):p.cnt=1+zQ p.z5:=by cases p;simp [cnt,z5]
theorem z2W:∀l:List za,l.length<=zQ l
 |[]=>by simp
 |p::r=>by
  have:=z2W r;have:=WD p;simp only [List.length_cons,zQ];omega
end za
section
variable {P:Program} {n m:Nat} {R:St->Prop} {draw:Bool} {all:List AO} {after:List (List Nat)} {live:List Nat} {k:List It} {b b':Nat} {fl:List (Bool×Bool)} {ops:List AO} {st st':St} {d:Option Nat}
theorem Mid.Zl {α:Type} {f:α->List T} {l:List α} {e:α} {c:List T} {sz j:Nat} {x i:Ar} {v:V} {kd:IntKind} (hf:f e=c) (hx:rd true st x=(v,[])) (hv:v.zA=some (.lst (l.map f))) (hi:rd true st i=(.t (.int kd j),[])) (hc:l[j]?=some e) (hl:(Nat.beq c.length sz&&!(Nat.beq sz 0))=true)
  (hs:zO st d (.t (.ptr c)) some=some st') (h':Mid P n m R draw all after live k b ((false,false)::fl) ops st'):Mid P n m R draw all after live k b fl (⟨d,none,.ia sz x i⟩::ops) st:=by
 subst hf;exact Mid.zg hx hv hi hc hl hs h'
theorem Mid.wB {α:Type} {f:α->List T} {l:List α} {e:α} {c:List T} {sz j:Nat} {s:Nat} {want gc:Bool} {x i:Ar} {v:V} {kd:IntKind} {p1 p2:List Bool} (hf:f e=c) (hg:ZU want (look st.env s)=some gc) (hx:rd gc st x=(v,p1)) (hv:v.zA=some (.lst (l.map f))) (hi:rd gc st i=(.t (.int kd j),p2)) (hc:l[j]?=some e) (hl:(Nat.beq c.length sz&&!(Nat.beq sz 0))=true)
  (hp1:Z7 (p1.map fun p=>!gc||p)) (hp2:Z7 (p2.map fun p=>!gc||p)) (hs:zO st d (.gd gc (.t (.ptr c))) some=some st') (h':Mid P n m R draw all after live k b ((false,false)::fl) ops st'):Mid P n m R draw all after live k b fl (⟨d,some (s,want),.ia sz x i⟩::ops) st:=by
 subst hf;exact Mid.z5X hg hx hv hi hc hl hp1 hp2 hs h'
end
end Go.GB
namespace Go.GB
open Go.ChangeMaps (setBlock)
section
variable {P:Program} {o:Oper} {st:St}
theorem z6b {w w1:World} {b:Nat} {ob:Obj} (h:w1=w∨w1=w.drew):YB w (setBlock w1 b ob) b:=by
 rcases h with rfl|rfl
 ·exact ⟨rfl,rfl,rfl,by simp [setBlock],fun c hc=>by simp [setBlock,Ne.symm hc]⟩
 ·exact ⟨rfl,rfl,rfl,by show (w.heap.setIfInBounds b ob).size=w.heap.size;simp,fun c hc=>by show (w.heap.setIfInBounds b ob)[c]?=w.heap[c]?;simp [Ne.symm hc]⟩
theorem zeg {x:Operand} {x':Ar} {k q c:Nat} {seen bs:List Nat} {kag:Bool} {es:List (List T×V)} (hop:o.op= .next x false) (hx:opA x=some x') (hxv:x'.u st= .ptr k 0)
  (hit:zi st.s.sto k=some (.iter q c seen c)) (hes:zi st.s.sto q=some (.map kag es (some (c,bs)))) {C:Ctx} {Λ:L} {a:Act} {next:Act->World->Prop} {Q:Exit->Act->World->Prop} (hr:Rel C Λ st a)
  (h0:(∀s,s∈bs->s∈seen)->∀v,zu Λ v (.tup [.t (.bool false)])->next (a.put o.dst v) Λ.w)
  (h1:∀(i:Nat) (e:List T×V) (s:Nat),es[i]?=some e->bs[i]?=some s->s∉seen->∀v (Λ':L),Kp Λ Λ'->Λ'.nxt=Λ.nxt->Z5 Λ' (st.s.app {v:= .top,ob:=[(k,.iter q c (seen++[s]) c)]})->
   zu Λ' v (.tup [.t (.bool true),z1D kag e.1,e.2])->(∀k,y3 Λ k->y3 Λ' k)->next (a.put o.dst v) Λ'.w):o.wp P a Λ.w next Q:=by
 have hx1:=hr.opu hx;rw [hxv] at hx1;generalize hex:a.eval x=u at hx1;obtain ⟨hkn,b,bm,e1,e2,e3,e4⟩:=hr.s.sto k _ hit;obtain ⟨ents,clock,hh,hM⟩:=hr.s.wK hes e3;obtain ⟨rfl,k2⟩:=hM.known c bs rfl
 have hold:∀y∈ents.toList,y.born<clock:=by
  intro y hy;obtain ⟨i,hi⟩:=List.mem_iff_getElem?.1 hy;exact hM.born i y (by simpa using hi)
 cases hx1 with
 |@ptr b' _ _ hkl hb'=>
  obtain rfl:=hr.s.inj b' b k hb' e1
  rcases run_next_at (P:=P) Λ.w o.type b' bm clock clock seen.toArray ents clock e2 hh hold (Nat.le_refl _) with ⟨g0,hrun⟩|⟨e,he,w1,hw1,hrun⟩
  ·have hrun':(execOp a.eval o).run P Λ.w= .ok (.value (.tuple #[.bool false])) Λ.w:=by
    simp only [execOp,hop,hex];simp only [Sem.run_bind,hrun,Result.andThen_ok,Sem.run_pure]
   unfold Oper.wp;rw [hrun'];refine h0 (fun s hs=>?_) _ (.tup Z fun j u d h1 h2=>?_)
   ·rw [←k2] at hs;obtain ⟨y,hy,rfl⟩:=List.mem_map.1 hs;have:=all_seen ents seen.toArray g0 y hy;simpa using this
   ·match j,h1,h2 with
    |0,h1,h2=>simp at h1 h2;subst h1;subst h2;exact .t (.bool _)
  ·obtain ⟨hem,hes'⟩:=mem_left he;obtain ⟨i,hi⟩:=List.mem_iff_getElem?.1 hem
   have hi':ents[i]?=some e:=by simpa using hi
   have hil:i<es.length:=by rw [←hM.size];exact (Array.getElem?_eq_some_iff.1 hi').1
   have hee:es[i]?=some es[i]:=by simp [hil]
   have hbb:bs[i]?=some e.born:=by rw [←k2,List.getElem?_map,hi];rfl
   have hns:e.born∉seen:=by simpa using hes'
   obtain ⟨q1,q2⟩:=hM.at_ i e _ hi' hee
   have hrun':(execOp a.eval o).run P Λ.w= .ok (.value (.tuple #[.bool true,e.key,e.val])) (setBlock w1 b' (.mapIter (some bm) clock (seen.toArray.push e.born) clock)):=by
    simp only [execOp,hop,hex];simp only [Sem.run_bind,hrun,Result.andThen_ok,Sem.run_pure]
   unfold Oper.wp;rw [hrun'];have hwr:=z6b (w:=Λ.w) (w1:=w1) (b:=b') (ob:= .mapIter (some bm) clock (seen.toArray.push e.born) clock) hw1;have hkp:=Kp.wrote hwr hb'
   have hat:(setBlock w1 b' (.mapIter (some bm) clock (seen.toArray.push e.born) clock)).heap[b']?=some (.mapIter (some bm) clock (seen++[e.born]).toArray clock):=by
    have hlt:b'<Λ.w.heap.size:=QU e2
    rw [show (seen++[e.born]).toArray=seen.toArray.push e.born from by simp]
    rcases hw1 with rfl|rfl
    ·show (Λ.w.heap.setIfInBounds b' _)[b']?=_;simp [hlt]
    ·show (Λ.w.heap.setIfInBounds b' _)[b']?=_;simp [hlt]
   refine h1 i _ _ hee hbb hns _ _ hkp Z ?_ (.tup Z fun j u d h1 h2=>?_) (fun k h=>⟨h.obj,h.arr,h.fro,h.fob,h.far,h.frf⟩)
   ·refine hr.s.step hkp Z (fun j ob hj=>?_) hr.s.inj (fun c hc=>hr.s.new c (by rw [hwr.size] at hc;exact hc)) hr.s.bnd hr.s.frz (Zf.wrote hwr hb');simp only [S.app,Zq] at hj;rw [Zi] at hj;split at hj
    ·rename_i e;subst e;simp at hj;subst hj;exact .inr ⟨hkn,b',bm,hb',hat,e3,e4⟩
    ·rename_i hne;refine .inl ⟨hj,fun c hc=>?_,rfl⟩
     have:c≠b':=by rintro rfl;rw [hb'] at hc;simp at hc;exact hne hc
     exact hwr.old c this
   ·match j,h1,h2 with
    |0,h1,h2=>simp at h1 h2;subst h1;subst h2;exact .t (.bool _)
    |1,h1,h2=>simp at h1 h2;subst h1;subst h2;exact q1.z1D.mono hkp
    |2,h1,h2=>simp at h1 h2;subst h1;subst h2;exact q2.mono hkp
theorem zdS {ops:Array Oper} {d:Nat} {x:Ar} (h:z3v P ops o=some ⟨some d,none,.nw (.nxt x)⟩):o.guard=none/\o.dst=some d/\∃y,o.op= .next y false/\opA y=some x:=by
 unfold z3v at h;split at h
 ·cases h
 ·rename_i op hop;split at h
  ·rename_i hg;simp only [Option.some.injEq,AO.mk.injEq,true_and] at h;obtain ⟨h1,rfl⟩:=h;refine ⟨hg,h1,?_⟩
   rcases wE hop with h2|⟨nop,h2,h3⟩
   ·exfalso;unfold y5 at h2
    (repeat' split at h2)<;>simp [Option.bind_eq_some_iff] at h2
    all_goals try (obtain ⟨_,_,_,_,h2⟩:=h2;split at h2<;>simp [Option.bind_eq_some_iff] at h2;done)
   ·simp only [AOp.nw.injEq] at h2;subst h2;unfold z6H at h3
    (repeat' split at h3)<;>simp [Option.bind_eq_some_iff] at h3
    exact ⟨_,by assumption,h3⟩
  ·split at h<;>simp at h
theorem Sat.nxt {n m:Nat} {Q:Yz->St->Prop} {d:Nat} {x:Ar} {rest:List AO} {after:List (List Nat)} {live:List Nat} {k q c:Nat} {seen bs:List Nat} {kag:Bool} {es:List (List T×V)} (hxv:x.u st= .ptr k 0)
  (hit:zi st.s.sto k=some (.iter q c seen c)) (hes:zi st.s.sto q=some (.map kag es (some (c,bs))))
  (h0:(∀s,s∈bs->s∈seen)->evR P st.s.nxt (st.app (some d) {v:= .tup [.t (.bool false)]}) rest [(true,true)] (fun b st' fl=>z4j false [] [] fl st'.env/\Q .normal (z1y live b st')))
  (h1:∀(i:Nat) (e:List T×V) (s:Nat),es[i]?=some e->bs[i]?=some s->s∉seen->
   evR P st.s.nxt (st.app (some d) {v:= .tup [.t (.bool true),z1D kag e.1,e.2],ob:=[(k,.iter q c (seen++[s]) c)]}) rest [(true,true)] (fun b st' fl=>z4j false [] [] fl st'.env/\Q .normal (z1y live b st'))):
  Sat P n m (.region false (⟨some d,none,.nw (.nxt x)⟩::rest) after live) st Q:=by
 intro code g1 g2 g3 C Λ a g4 g5 g6 g7 g8;have:=ZP g1;simp only [zW.bare] at this;obtain ⟨id,os,rfl,hres,haft,_⟩:=this
 have hd:z8W C os:=by
  intro j p d hp hpd;simp only [codeOk,Array.all_eq_true'] at g2;have:=g2 p (Array.mem_of_getElem? hp);rw [hpd] at this;rw [g5];simpa using this
 obtain ⟨hlen,hat⟩:=qt hres
 have h0lt:0<os.size:=by rw [←Array.length_toList,hlen];simp
 have ho:os[0]?=some os[0]:=by simp [h0lt]
 obtain ⟨q1,q2,y,q3,q4⟩:=zdS (hat 0 os[0] _ (by simp) rfl);have hdn:d<C.n:=hd 0 _ d ho q2
 have hfree:∀k,st.s.nxt<=k->y3 Λ k/\zi st.s.sto k=none:=by
  intro k hk;refine ⟨g7.s.free (by omega),?_⟩
  cases ha:zi st.s.sto k with
  |none=>rfl
  |some o=>have:=(g7.s.sto k o ha).1;omega
 refine wp_region ?_;rw [List.range_eq_range',←Array.length_toList,hlen,List.length_cons,List.range'_succ,wpOps_cons]
 have hw:Region.wanted os[0] (yielded os a.tmps)=true:=by simp [Region.wanted,q1]
 simp only [wpOp,ho,hw,if_true];refine .inl ?_
 have fin:∀(st1:St) (Λ1:L) (a1:Act),Rel C Λ1 st1 a1->Λ1.nxt=Λ.nxt->(∀k,st.s.nxt<=k->y3 Λ1 k/\zi st1.s.sto k=none)->
   evR P st.s.nxt st1 rest [(true,true)] (fun b st' fl=>z4j false [] [] fl st'.env/\Q .normal (z1y live b st'))->wpOps P os (z80 C Q) (List.range' (0+1) rest.length) a1 Λ1.w:=by
  intro st1 Λ1 a1 hr1 hn1 hf1 h;obtain ⟨outs,b',st',hch,hq⟩:=z0C h;have hle:=Ch.le hch;have hr':=hr1.up (m:=b') (by omega)
  exact z59 (Q:=z80 C Q) g4 hd hres b' rest 1 st.s.nxt st1 outs (Λ1.up b') a1 Z hch hr' Z (Nat.le_refl _) (fun k k1 k2=>⟨⟨(hf1 k k1).1.obj,(hf1 k k1).1.arr,(hf1 k k1).1.fro,(hf1 k k1).1.fob,(hf1 k k1).1.far,(hf1 k k1).1.frf⟩,(hf1 k k1).2⟩)
   fun a' Λ' k1 k2=>⟨.normal,_,Λ',rfl,hq.2,k1.yo live b',k2,rfl⟩
 refine zeg q3 q4 hxv hit hes g7 (fun hs v hv=>?_) (fun i e s he hb hn v Λ' k1 k2 k3 k4 k5=>?_)
 ·have:=g7.step (Λ':=Λ) (Kp.refl _) (d:=some d) (fun z hz=>by simp at hz;subst hz;exact hdn) (v:=v) (o:={v:= .tup [.t (.bool false)]}) hv g7.s
  rw [q2];exact fin _ Λ _ this Z hfree (h0 hs)
 ·have:=g7.step k1 (d:=some d) (fun z hz=>by simp at hz;subst hz;exact hdn) (v:=v) (o:={v:= .tup [.t (.bool true),z1D kag e.1,e.2],ob:=[(k,.iter q c (seen++[s]) c)]}) k4 k3
  rw [q2];refine fin _ Λ' _ this k2 (fun j hj=>?_) (h1 i e s he hb hn);obtain ⟨f1,f2⟩:=hfree j hj;refine ⟨k5 j f1,?_⟩;show zi (Yc st.s.sto k _) j=none;rw [Zi];split
  ·rename_i e;subst e;rw [hit] at f2;cases f2
  ·exact f2
theorem Run.nxt {n m:Nat} {R:St->Prop} {κ ν:Type} {ek:κ->List T} {ev:ν->T} {b d:Nat} {x:Ar} {rest:List AO} {after:List (List Nat)} {live:List Nat} {K K':List It} {k q c:Nat} {seen bs:List Nat} {kag:Bool} {l:List (κ×ν)}
  (hk:yd 200 K= .c (.region false (⟨some d,none,.nw (.nxt x)⟩::rest) after live)::K') (hb:Yu st.s.nxt some=some b) (hxv:x.u st= .ptr k 0)
  (hit:zi st.s.sto k=some (.iter q c seen c)) (hes:zi st.s.sto q=some (.map kag (mE ek ev l) (some (c,bs))))
  (h0:(∀s,s∈bs->s∈seen)->Mid P n m R false [] [] live K' b [(true,true)] rest (st.app (some d) {v:= .tup [.t (.bool false)]}))
  (h1:∀(i:Nat) (e:κ×ν) (s:Nat),l[i]?=some e->bs[i]?=some s->s∉seen->
   Mid P n m R false [] [] live K' b [(true,true)] rest (st.app (some d) {v:= .tup [.t (.bool true),z1D kag (ek e.1),.t (ev e.2)],ob:=[(k,.iter q c (seen++[s]) c)]})):Run P n m R K st:=by
 rw [YY] at hb;simp at hb;subst hb;refine Run.adv 200 hk ?_;unfold Run;simp only [ZR];unfold Mid at h0 h1;unfold Run at h0 h1;refine Sat.nxt hxv hit hes h0 (fun i e s he hbs hn=>?_);simp only [mE,List.getElem?_map,Option.map_eq_some_iff] at he;obtain ⟨z,hz,rfl⟩:=he;exact h1 i z s hz hbs hn
end
end Go.GB
namespace Go.GB
section
variable {P:Program} {n m:Nat} {R:St->Prop} {draw:Bool} {all:List AO} {after:List (List Nat)} {live:List Nat} {k:List It} {b b':Nat} {fl:List (Bool×Bool)} {ops:List AO} {st st':St} {d:Option Nat}
variable {κ ν:Type} {ks:List KSh} {kag:Bool} {ek:κ->List T} {ev:ν->T} {l:List (κ×ν)} {sx:Option (Nat×List Nat)} {q:Nat} {x y:Ar}
theorem Mid.zcG {c:Nat} {bs:List Nat} {es:List (List T×V)} (hx:x.u st= .mp q) (hq:zi st.s.sto q=some (.map kag es (some (c,bs))))
  (hst:Yl b st d {v:= .ptr b 0,ob:=[(b,.iter q c [] c)],n:=1,rd:=true} (fun b' st'=>some (b',st'))=some (b',st'))
  (h':Mid P n m R draw all after live k b' ((true,true)::fl) ops st'):Mid P n m R draw all after live k b fl (⟨d,none,.qu x⟩::ops) st:=by
 refine Mid.opX Z ?_;simp only [ZZ,Option.some.injEq,Prod.mk.injEq] at hst;obtain ⟨rfl,rfl⟩:=hst;simp only [evX,hx,hq];exact h'
theorem z64 {z:Nat} {e:κ×ν}:∀{l:List (κ×ν)} {bs:List Nat} {i:Nat},l[i]?=some e->bs[i]?=some z->bs.Nodup->z0l z (mE ek ev l) bs=some (ek e.1,.t (ev e.2))
 |[],_,i,h,_,_=>by simp at h
 |_::_,[],i,_,h,_=>by simp at h
 |w::r,s::bs,0,h1,h2,_=>by
  simp at h1 h2;subst h1;subst h2;simp [mE,z0l]
 |w::r,s::bs,i+1,h1,h2,hn=>by
  have hm:z∈bs:=zMG (by simpa using h2)
  have hne:¬ s=z:=by rintro rfl;exact (List.nodup_cons.1 hn).1 hm
  have:=z64 (l:=r) (bs:=bs) (i:=i) (by simpa using h1) (by simpa using h2) (List.nodup_cons.1 hn).2;simp only [mE,List.map_cons,z0l,hne,if_false];exact this
theorem Mid.zfy {kk s c i z:Nat} {seen bs:List Nat} {e:κ×ν} (hx:rd true st x=(.ptr kk 0,[])) (hit:zi st.s.sto kk=some (.iter q s seen c)) (hq:zi st.s.sto q=some (.map kag (mE ek ev l) (some (c,bs))))
  (hz:seen.getLast?=some z) (hl:l[i]?=some e) (hb:bs[i]?=some z) (hn:bs.Nodup) (hs:zO st d (.tup [z1D kag (ek e.1),.t (ev e.2)]) some=some st')
  (h':Mid P n m R draw all after live k b ((true,false)::fl) ops st'):Mid P n m R draw all after live k b fl (⟨d,none,.nw (.z5V x)⟩::ops) st:=by
 refine Mid.zdO (v:= .tup [z1D kag (ek e.1),.t (ev e.2)]) (ps:=[true,true]) ?_ (z2X hx) ⟨rfl,rfl,trivial⟩ hs h';simp only [zh,Zr,hx,hit,hq,hz,z64 (i:=i) (z:=z) hl hb hn];simp [hn]
theorem zfL {α:Type} {f:α->List T} {l:List α} {sz s:Nat} {want gc:Bool} {x hi:Ar} {v:V} {kd:IntKind} {j:Nat} {p1 p2:List Bool} (hg:ZU want (look st.env s)=some gc) (hx:rd gc st x=(v,p1)) (hv:v.zA=some (.lst (l.map f))) (hh:rd gc st hi=(.t (.int kd j),p2)) (hs:zO st d (.gd gc (.t (.lst ((l.take j).map f)))) some=some st')
  (h':Mid P n m R draw all after live k b ((false,false)::fl) ops st') (hj:j<=l.length:=by omega) (hsz:∀x,(f x).length=sz:=by intros;rfl) (hp1:Z7 (p1.map fun p=>!gc||p):=by (repeat' (first |exact trivial|exact Bool.not_or_self _|exact yK _|exact yJ _|exact grd3 _ _|exact yL _ _|refine And.intro ?_ ?_|exact rfl|(simp;done)|(simp<;>omega)));done) (hp2:Z7 (p2.map fun p=>!gc||p):=by (repeat' (first |exact trivial|exact Bool.not_or_self _|exact yK _|exact yJ _|exact grd3 _ _|exact yL _ _|refine And.intro ?_ ?_|exact rfl|(simp;done)|(simp<;>omega)));done):Mid P n m R draw all after live k b fl (⟨d,some (s,want),.sll sz x none (some hi)⟩::ops) st:=
 Mid.z82 (v:= .t (.lst ((l.take j).map f))) (ps:=p1++([]++(p2++[true,true,true,true]))) hg (by simp only [zh,hx,hv,bnd,hh];simp [hj,ZF,hsz]) (Y2 hx hv) (by simp only [List.map_append,w8];exact ⟨hp1,trivial,hp2,by simp [Z7]⟩) hs h'
theorem lF1 {α:Type} {f:α->List T} {l:List α} {sz:Nat} {x lo:Ar} {v:V} {kd:IntKind} (hx:rd true st x=(v,[])) (hv:v.zA=some (.lst (l.map f))) (hh:rd true st lo=(.t (.int kd 1),[])) (hs:zO st d (.t (.lst ((l.drop 1).map f))) some=some st')
  (h':Mid P n m R draw all after live k b ((false,false)::fl) ops st') (hj:1<=l.length:=by first |omega|(simp;done)|(simp<;>omega)) (hsz:∀x,(f x).length=sz:=by intros;rfl):Mid P n m R draw all after live k b fl (⟨d,none,.sll sz x (some lo) none⟩::ops) st:=
 Mid.zdJ (j:=1) hx hv hh hj hsz hs h'
section
variable [DecidableEq κ]
def YO (k:κ):List (κ×ν)->List (κ×ν)
 |[]=>[]
 |e::r=>if k=e.1 then r else e::YO k r
theorem z5Y (he:Y7 ks ek) (k:κ):∀(l:List (κ×ν)),Qr (ek k) (mE ek ev l)=mE ek ev (YO k l)
 |[]=>rfl
 |e::r=>by
  have:=z5Y he k r;simp only [mE] at this;simp only [mE,List.map_cons,Qr,he.iff,YO,decide_eq_true_eq,this]
  split<;>rfl
theorem Mid.zfT (k':κ) (hx:x.u st= .mp q) (hq:zi st.s.sto q=some (.map kag (mE ek ev l) sx)) (hc:q7 ks kag (y.u st)=some (ek k')) (he:Y7 ks ek)
  (hst:Yl b st d {v:= .top,ob:=[(q,.map kag (mE ek ev (YO k' l)) (z3Q (l.findIdx? (fun e=>decide (k'=e.1))) sx))],rd:=true} (fun b' st'=>some (b',st'))=some (b',st'))
  (h':Mid P n m R draw all after live k b' ((true,true)::fl) ops st'):Mid P n m R draw all after live k b fl (⟨d,none,.nw (.zam ks kag x y)⟩::ops) st:=by
 refine Mid.opX Z ?_;simp only [ZZ,Option.some.injEq,Prod.mk.injEq] at hst;obtain ⟨rfl,rfl⟩:=hst;simp only [evX,yf,hx,hc,hq,z5Y he,z2T he];exact ⟨⟨trivial,wF he l⟩,h'⟩
theorem Mid.zgq {i c:Nat} {bs:List Nat} {e:κ×ν} (hx:x.u st= .mp q) (hq:zi st.s.sto q=some (.map kag (mE ek ev l) (some (c,bs)))) (hl:l[i]?=some e) (hn:(l.map (·.1)).Nodup) (hc:q7 ks kag (y.u st)=some (ek e.1)) (he:Y7 ks ek)
  (hst:Yl b st d {v:= .top,ob:=[(q,.map kag (mE ek ev (l.eraseIdx i)) (some (c,bs.eraseIdx i)))],rd:=true} (fun b' st'=>some (b',st'))=some (b',st'))
  (h':Mid P n m R draw all after live k b' ((true,true)::fl) ops st'):Mid P n m R draw all after live k b fl (⟨d,none,.nw (.zam ks kag x y)⟩::ops) st:=by
 have key:∀(l:List (κ×ν)) (i:Nat),l[i]?=some e->(l.map (·.1)).Nodup->YO e.1 l=l.eraseIdx i/\l.findIdx? (fun w=>decide (e.1=w.1))=some i:=by
  intro l
  induction l with
  |nil=>intro i h _;simp at h
  |cons w r ih=>
   intro i h hn;simp only [List.map_cons,List.nodup_cons] at hn
   cases i with
   |zero=>simp at h;subst h;simp [YO,List.findIdx?_cons]
   |succ i=>
    have h':r[i]?=some e:=by simpa using h
    have hne:¬ e.1=w.1:=by
     intro heq;exact hn.1 (List.mem_map.2 ⟨e,zMG h',heq⟩)
    obtain ⟨h1,h2⟩:=ih i h' hn.2;simp [YO,hne,h1,List.findIdx?_cons,h2]
 obtain ⟨h1,h2⟩:=key l i hl hn;refine Mid.zfT e.1 hx hq hc he ?_ h';rw [h1,h2];exact hst
theorem QL {k k':κ}:∀{l:List (κ×ν)},(l.map (·.1)).Nodup->Z6 k' (YO k l)=if k'=k then none else Z6 k' l
 |[],_=>by simp [YO,Z6]
 |e::r,hn=>by
  simp only [List.map_cons,List.nodup_cons] at hn;have ih:=QL (k:=k) (k':=k') hn.2
  have hnone:Z6 e.1 r=none:=by
   have:∀(r:List (κ×ν)),e.1∉r.map (·.1)->Z6 e.1 r=none:=by
    intro r
    induction r with
    |nil=>intro _;rfl
    |cons w r ih2=>
     intro h;simp only [List.map_cons,List.mem_cons,not_or] at h;simp only [Z6];rw [if_neg h.1];exact ih2 h.2
   exact this r hn.1
  simp only [YO];by_cases h:k=e.1
  ·subst h;simp only [if_true,Z6];by_cases h2:k'=e.1
   ·subst h2;simp [hnone]
   ·simp [h2]
  ·simp only [h,if_false,Z6,ih];by_cases h2:k'=e.1
   ·subst h2;have:¬ e.1=k:=fun h'=>h h'.symm;simp [this]
   ·simp [h2]
theorem z4s {k:κ} {v:ν}:∀{l:List (κ×ν)},(l.map (·.1)).Nodup->((yl k v l).map (·.1)).Nodup/\∀y,y∈(yl k v l).map (·.1)↔y=k∨y∈l.map (·.1)
 |[],_=>by simp [yl]
 |e::r,hn=>by
  simp only [List.map_cons,List.nodup_cons] at hn;obtain ⟨h1,h2⟩:=z4s (k:=k) (v:=v) hn.2;simp only [yl];split
  ·rename_i h;subst h;simp only [List.map_cons,List.nodup_cons]
   exact ⟨hn,fun y=>by simp⟩
  ·rename_i h;simp only [List.map_cons,List.nodup_cons];refine ⟨⟨fun hm=>?_,h1⟩,fun y=>?_⟩
   ·rcases (h2 _).1 hm with h'|h'
    ·exact h h'.symm
    ·exact hn.1 h'
   ·simp only [List.mem_cons,h2];constructor
    ·rintro (h|h|h)
     ·exact .inr (.inl h)
     ·exact .inl h
     ·exact .inr (.inr h)
    ·rintro (h|h|h)
     ·exact .inr (.inl h)
     ·exact .inl h
     ·exact .inr (.inr h)
end
end
end Go.GB
namespace Go.GB.C11
open Go.GB
structure Pr (P:Program):Prop where
 mixed:P.follows .mixedOrders=true
 i34:zd P 34=some (n34,c34.bare,r34)
 i50:zd P 50=some (n50,c50.bare,r50)
 i143:zd P 143=some (n143,c143.bare,r143)
 i114:zd P 114=some (n114,c114.bare,r114)
 i136:zd P 136=some (n136,c136.bare,r136)
 i63:zd P 63=some (n63,c63.bare,r63)
 i37:zd P 37=some (n37,c37.bare,r37)
 i101:zd P 101=some (n101,c101.bare,r101)
 i85:zd P 85=some (n85,c85.bare,r85)
 i116:zd P 116=some (n116,c116.bare,r116)
 i60:zd P 60=some (n60,c60.bare,r60)
 i61:zd P 61=some (n61,c61.bare,r61)
 i73:zd P 73=some (n73,c73.bare,r73)
 i74:zd P 74=some (n74,c74.bare,r74)
 i75:zd P 75=some (n75,c75.bare,r75)
 i86:zd P 86=some (n86,c86.bare,r86)
 i129:zd P 129=some (n129,c129.bare,r129)
 i126:zd P 126=some (n126,c126.bare,r126)
 i142:zd P 142=some (n142,c142.bare,r142)
 i91:zd P 91=some (n91,c91.bare,r91)
 i92:zd P 92=some (n92,c92.bare,r92)
 i93:zd P 93=some (n93,c93.bare,r93)
 i94:zd P 94=some (n94,c94.bare,r94)
 i109:zd P 109=some (n109,c109.bare,r109)
 i110:zd P 110=some (n110,c110.bare,r110)
 i111:zd P 111=some (n111,c111.bare,r111)
 i41:zd P 41=some (n41,c41.bare,r41)
 i139:zd P 139=some (n139,c139.bare,r139)
 i98:zd P 98=some (n98,c98.bare,r98)
 i54:zd P 54=some (n54,c54.bare,r54)
 i117:zd P 117=some (n117,c117.bare,r117)
 i118:zd P 118=some (n118,c118.bare,r118)
 i119:zd P 119=some (n119,c119.bare,r119)
 i120:zd P 120=some (n120,c120.bare,r120)
 i121:zd P 121=some (n121,c121.bare,r121)
 i122:zd P 122=some (n122,c122.bare,r122)
 i133:zd P 133=some (n133,c133.bare,r133)
 i134:zd P 134=some (n134,c134.bare,r134)
 i135:zd P 135=some (n135,c135.bare,r135)
 i103:zd P 103=some (n103,c103.bare,r103)
 i99:zd P 99=some (n99,c99.bare,r99)
 i141:zd P 141=some (n141,c141.bare,r141)
variable {P:Program}
def zf (n:Str):List Def->Option Def
 |[]=>none
 |d::r=>if (d.name==n)=true then some d else zf n r
theorem ZG {n:Str}:∀{l:List Def} {d:Def},zf n l=some d->d∈l
 |[],d,h=>by simp [zf] at h
 |x::r,d,h=>by
  simp only [zf] at h;split at h
  ·cases h;exact List.mem_cons_self ..
  ·exact List.mem_cons_of_mem _ (ZG h)
def Zb (n:Str):List Field->Option Field
 |[]=>none
 |d::r=>if (d.name==n)=true then some d else Zb n r
theorem w7 {n:Str}:∀{l:List Field} {d:Field},Zb n l=some d->d∈l
 |[],d,h=>by simp [Zb] at h
 |x::r,d,h=>by
  simp only [Zb] at h;split at h
  ·cases h;exact List.mem_cons_self ..
  ·exact List.mem_cons_of_mem _ (w7 h)
theorem z8H (H:Pr P) (ds:List Def) (hl:ds.length<=140737488355328) (n:Str):z7 P 60 [yS ds,.t (.str n)] ⟨[],0⟩ {v:= .tup [((zf n ds).getD Def.zero).v,.t (.bool (zf n ds).isSome)]}:=by
 refine z7.run H.i60 H.mixed Z Z ?_;refine fR Z ?_;refine lM Z Z Z ?_;refine fM Z ?_;refine zD ds (fun i (_:Unit)=>{env:=[(1,.t (.str n)),(4,.ptr 1 0),(9,.t (.lst (ds.map Def.enc))),(10,.t (.int .i64 ds.length)),(11,.t (.int .i64 i))],s:=⟨[(1,.cells [.t (.int .i64 0),.t (.str []),.zI,.zI,.zI,.zI,.zI])],2⟩}) (fun r i _=>zf n ds=zf n r) 2 () Z Z Z Z Z ?_ ?_
 ·intro _ hinv;refine fR Z ?_;refine Run.zj Z Z (by simp) ?_;refine fR Z ?_
  have e:zf n ds=none:=by rw [hinv];rfl
  rw [e];refine Run.fin Z (z3.go ?_);exact .wM (.agg (.cons (.t Z) (.cons (.t Z) (.cons (.nil Z) (.cons (.nil Z) (.cons (.nil Z) (.cons (.nil Z) (.cons (.nil Z) .nil)))))))) (.t Z)
 ·intro i x r _ h1 hi hd hinv ih;refine fR Z ?_;refine Run.zm Z Z (by simp;omega) ?_;refine fR Z ?_;refine Mid.zg Z Z Z h1 Z Z ?_;refine fM Z ?_;refine Run.cond Z Z (fun h=>?_) (fun h=>?_)
  ·refine fR Z ?_
   have e:zf n ds=some x:=by rw [hinv];simp only [zf];rw [if_pos h]
   rw [e];refine Run.fin Z (z3.go ?_);exact .wM (.le (.same Z)) (.t Z)
  ·refine fR Z ?_;refine aL Z Z Z Z Z ?_;refine fM Z ?_
   have h':¬ (x.name==n)=true:=by rw [h];simp
   exact zn 2 Z (ih () (by rw [hinv];simp only [zf];rw [if_neg h'])) Z Z Z
theorem yh (H:Pr P) (ds:List Def) (hl:ds.length<=140737488355328) (n:Str):z7 P 37 [yS ds,.t (.str n)] ⟨[],0⟩ {v:= .tup [((zf n ds).getD Def.zero).v,.t (.bool (zf n ds).isSome)]}:=by
 refine z7.run H.i37 H.mixed Z Z ?_;refine fR Z ?_;refine zD ds (fun i (_:Unit)=>{env:=[(1,.t (.str n)),(2,.ptr 0 0),(4,.ptr 1 0),(6,.t (.int .i64 i))],s:=⟨[(0,.cells [.t (.lst (ds.map Def.enc))]),(1,.cells [.t (.int .i64 0),.t (.str []),.zI,.zI,.zI,.zI,.zI])],2⟩}) (fun r i _=>zf n (ds)=zf n r) 2 () Z Z Z Z Z ?_ ?_
 ·intro _ hinv;refine fR Z ?_;refine lM Z Z Z ?_;refine fM Z ?_;refine Run.zj Z Z (by simp) ?_;refine fR Z ?_
  have e:zf n (ds)=none:=by rw [hinv];rfl
  rw [e];refine Run.fin Z (z3.go ?_);exact .wM (.agg (.cons (.t Z) (.cons (.t Z) (.cons (.nil Z) (.cons (.nil Z) (.cons (.nil Z) (.cons (.nil Z) (.cons (.nil Z) .nil)))))))) (.t Z)
 ·intro i x r _ h1 hi hd hinv ih;refine fR Z ?_;refine lM Z Z Z ?_;refine fM Z ?_;refine Run.zm Z Z (by simp;omega) ?_;refine fR Z ?_;refine Mid.zg Z Z Z h1 Z Z ?_;refine fM Z ?_;refine Run.cond Z Z (fun h=>?_) (fun h=>?_)
  ·refine fR Z ?_;refine Mid.zg Z Z Z h1 Z Z ?_;refine fM Z ?_
   have e:zf n (ds)=some x:=by rw [hinv];simp only [zf];rw [if_pos h]
   rw [e];refine Run.fin Z (z3.go ?_);exact .wM (.le (.same Z)) (.t Z)
  ·refine fR Z ?_;refine aL Z Z Z Z Z ?_;refine fM Z ?_
   have h':¬ (x.name==n)=true:=by rw [h];simp
   exact zn 2 Z (ih () (by rw [hinv];simp only [zf];rw [if_neg h'])) Z Z Z
theorem qK (H:Pr P) (d:Def) (hl:d.fields.length<=140737488355328) (n:Str):z7 P 101 [d.v,.t (.str n)] ⟨[],0⟩ {v:= .tup [((Zb n d.fields).getD Field.zero).v,.t (.bool (Zb n d.fields).isSome)]}:=by
 refine z7.run H.i101 H.mixed Z Z ?_;refine fR Z ?_;refine zD d.fields (fun i (_:Unit)=>{env:=[(1,.t (.str n)),(2,.ptr 0 0),(4,.ptr 1 0),(6,.t (.int .i64 i))],s:=⟨[(0,.cells [.t (.int .i64 d.kind),.t (.str d.name),.t (.lst (d.implements.map sE)),.t (.lst (d.zX.map Dir.enc)),.t (.lst (d.fields.map Field.enc)),.t (.lst (d.members.map zN.enc)),.t (.lst (d.ze.map Input.enc))]),(1,.cells [.t (.str []),.zI,.t (.str []),.zI,.zI])],2⟩}) (fun r i _=>Zb n (d.fields)=Zb n r) 2 () Z Z Z Z Z ?_ ?_
 ·intro _ hinv;refine fR Z ?_;refine lM Z Z Z ?_;refine fM Z ?_;refine Run.zj Z Z (by simp) ?_;refine fR Z ?_
  have e:Zb n (d.fields)=none:=by rw [hinv];rfl
  rw [e];refine Run.fin Z (z3.go ?_);exact .wM (.agg (.cons (.t Z) (.cons (.nil Z) (.cons (.t Z) (.cons (.nil Z) (.cons (.nil Z) .nil)))))) (.t Z)
 ·intro i x r _ h1 hi hd hinv ih;refine fR Z ?_;refine lM Z Z Z ?_;refine fM Z ?_;refine Run.zm Z Z (by simp;omega) ?_;refine fR Z ?_;refine Mid.zg Z Z Z h1 Z Z ?_;refine fM Z ?_;refine Run.cond Z Z (fun h=>?_) (fun h=>?_)
  ·refine fR Z ?_;refine Mid.zg Z Z Z h1 Z Z ?_;refine fM Z ?_
   have e:Zb n (d.fields)=some x:=by rw [hinv];simp only [Zb];rw [if_pos h]
   rw [e];refine Run.fin Z (z3.go ?_);exact .wM (.le (.same Z)) (.t Z)
  ·refine fR Z ?_;refine aL Z Z Z Z Z ?_;refine fM Z ?_
   have h':¬ (x.name==n)=true:=by rw [h];simp
   exact zn 2 Z (ih () (by rw [hinv];simp only [Zb];rw [if_neg h'])) Z Z Z
def Zc (s:Str):List Str->Int->Int
 |[],_=>-1
 |x::r,i=>if (s==x)=true then i else Zc s r (i+1)
theorem z2F (H:Pr P) (l:List Str) (hl:l.length<=140737488355328) (s:Str):z7 P 109 [.t (.lst (l.map sE)),.t (.str s)] ⟨[],0⟩ {v:= .t (.int .i64 (Zc s l 0))}:=by
 refine z7.run H.i109 H.mixed Z Z ?_;refine fR Z ?_;refine lM Z Z Z ?_;refine fM Z ?_;refine zD l (fun i (_:Unit)=>{env:=[(0,.t (.lst (l.map sE))),(1,.t (.str s)),(7,.t (.int .i64 l.length)),(8,.t (.int .i64 i))],s:=⟨[],0⟩}) (fun r i _=>Zc s l 0=Zc s r i) 0 () Z Z Z Z Z ?_ ?_
 ·intro _ hinv;refine fR Z ?_;refine Run.zj Z Z (by simp) ?_;refine fR Z ?_;refine Run.fin Z (z3.go ?_);exact .t (by rw [hinv];simp [Zc])
 ·intro i x r _ h1 hi hd hinv ih;refine fR Z ?_;refine Run.zm Z Z (by simp;omega) ?_;refine fR Z ?_;refine Mid.zg Z Z Z h1 Z Z ?_;refine fM Z ?_;refine Run.cond Z Z (fun h=>?_) (fun h=>?_)
  ·refine fR Z ?_;refine Run.fin Z (z3.go ?_);exact .t (by rw [hinv];simp only [Zc];rw [if_pos h])
  ·refine fR Z ?_;refine aL Z Z Z Z Z ?_;refine fM Z ?_
   have h':¬ (s==x)=true:=by rw [h];simp
   exact zn 0 Z (ih () (by rw [hinv];simp only [Zc];rw [if_neg h'];rfl)) Z Z Z
theorem Wk (s:Str):∀(l:List Str) (i:Int),0<=i->(decide (Zc s l i≥0))=decide (s∈l)
 |[],i,_=>by simp [Zc]
 |x::r,i,hi=>by
  by_cases h:s=x
  ·subst h;simp [Zc,hi]
  ·have h':¬ (s==x)=true:=by simpa using h
   have e:Zc s (x::r) i=Zc s r (i+1):=by simp only [Zc];rw [if_neg h']
   rw [e,Wk s r (i+1) (by omega)];simp [h]
theorem qB (H:Pr P) (l:List Str) (hl:l.length<=140737488355328) (s:Str):z7 P 85 [.t (.lst (l.map sE)),.t (.str s)] ⟨[],0⟩ {v:= .t (.bool (decide (s∈l)))}:=by
 refine z7.run H.i85 H.mixed Z Z ?_;refine fR Z ?_;refine Mid.call (z2F H l hl s) Z Z Z Z ?_;refine fM Z ?_;refine Run.fin Z (z3.go ?_);exact .t (by rw [←Wk s l 0 (by omega)])
end Go.GB.C11
namespace Go.GB.C11
open Go.GB
variable {P:Program}
theorem z6i (a b:Int):(a !=b)=!(a==b):=rfl
theorem z4W (H:Pr P) (l:List Str) (hl:l.length<=140737488355328) (s:Str):z7 P 74 [.t (.lst (l.map sE)),.t (.str s)] ⟨[],0⟩ {v:= .t (.bool (decide (s∈l)))}:=by
 refine z7.run H.i74 H.mixed Z Z ?_;refine fR Z ?_;refine zD l (fun i (_:Unit)=>{env:=[(0,.t (.lst (l.map sE))),(1,.t (.str s)),(5,.t (.int .i64 i))],s:=⟨[],0⟩}) (fun r i _=>decide (s∈l)=decide (s∈r)) 0 () Z Z Z Z Z ?_ ?_
 ·intro _ hinv;refine fR Z ?_;refine lM Z Z Z ?_;refine fM Z ?_;refine Run.zj Z Z (by simp) ?_;refine fR Z ?_;refine Run.fin Z (z3.go ?_);exact .t (by rw [hinv];simp)
 ·intro i x r _ h1 hi hd hinv ih;refine fR Z ?_;refine lM Z Z Z ?_;refine fM Z ?_;refine Run.zm Z Z (by simp;omega) ?_;refine fR Z ?_;refine Mid.zg Z Z Z h1 Z Z ?_;refine fM Z ?_;refine Run.cond Z Z (fun h=>?_) (fun h=>?_)
  ·have h':x=s:=by simpa using h
   refine fR Z ?_;refine Run.fin Z (z3.go ?_);exact .t (by rw [hinv];simp [h'])
  ·have h':¬ x=s:=by simpa using h
   have h2:¬ s=x:=fun e=>h' e.symm;refine fR Z ?_;refine aL Z Z Z Z Z ?_;refine fM Z ?_;exact zn 0 Z (ih () (by rw [hinv];simp [h2])) Z Z Z
def wV (l:List zN) (n:Str):Bool:=l.any fun m=>m.name==n
theorem z3E (H:Pr P) (t:Def) (hl:t.members.length<=140737488355328) (n:Str):z7 P 75 [t.v,.t (.str n)] ⟨[],0⟩ {v:= .t (.bool (wV t.members n))}:=by
 refine z7.run H.i75 H.mixed Z Z ?_;refine fR Z ?_;refine zD t.members (fun i (_:Unit)=>{env:=[(1,.t (.str n)),(2,.ptr 0 0),(5,.t (.int .i64 i))],s:=⟨[(0,.cells [.t (.int .i64 t.kind),.t (.str t.name),.t (.lst (t.implements.map sE)),.t (.lst (t.zX.map Dir.enc)),.t (.lst (t.fields.map Field.enc)),.t (.lst (t.members.map zN.enc)),.t (.lst (t.ze.map Input.enc))])],1⟩}) (fun r i _=>wV t.members n=wV r n) 1 () Z Z Z Z Z ?_ ?_
 ·intro _ hinv;refine fR Z ?_;refine lM Z Z Z ?_;refine fM Z ?_;refine Run.zj Z Z (by simp) ?_;refine fR Z ?_;refine Run.fin Z (z3.go ?_);exact .t (by rw [hinv];rfl)
 ·intro i x r _ h1 hi hd hinv ih;refine fR Z ?_;refine lM Z Z Z ?_;refine fM Z ?_;refine Run.zm Z Z (by simp;omega) ?_;refine fR Z ?_;refine Mid.zg Z Z Z h1 Z Z ?_;refine fM Z ?_;refine Run.cond Z Z (fun h=>?_) (fun h=>?_)
  ·refine fR Z ?_;refine Run.fin Z (z3.go ?_);exact .t (by rw [hinv];simp only [wV,List.any_cons,h,Bool.true_or])
  ·refine fR Z ?_;refine aL Z Z Z Z Z ?_;refine fM Z ?_;exact zn 1 Z (ih () (by rw [hinv];simp only [wV,List.any_cons,h,Bool.false_or])) Z Z Z
theorem Qq (H:Pr P) (t:Def) (ht:t.Ok) (n:Str):z7 P 61 [t.v,.t (.str n)] ⟨[],0⟩ {v:= .t (.bool (decide (n∈t.implements)))}:=by
 refine z7.run H.i61 H.mixed Z Z ?_;refine fR Z ?_;refine Mid.call (qB H t.implements ht.il n) Z Z Z Z ?_;refine fM Z ?_;refine Run.fin Z (z3.go ?_);exact .t Z
def ZA (pre:List Def) (n:Str):Bool:=!(pre.any fun x=>x.name==n)
theorem zbj (H:Pr P) (ds:List Def) (hl:ds.length<=140737488355328) (i:Nat) (x:Def) (h:ds[i]?=some x):z7 P 73 [yS ds,.t (.int .i64 i)] ⟨[],0⟩ {v:= .t (.bool (ZA (ds.take i) x.name))}:=by
 have hi:i<ds.length:=(List.getElem?_eq_some_iff.1 h).1
 have hlt:(ds.take i).length=i:=by simp;omega
 refine z7.run H.i73 H.mixed Z Z ?_;refine fR Z ?_;refine zD (ds.take i) (fun j (_:Unit)=>{env:=[(1,.t (.int .i64 i)),(2,.ptr 0 0),(5,.t (.int .i64 j))],s:=⟨[(0,.cells [.t (.lst (ds.map Def.enc))])],1⟩}) (fun r j _=>ZA (ds.take i) x.name=ZA r x.name) 1 () Z Z Z Z Z ?_ ?_
 ·intro _ hinv;refine fR Z ?_;refine Run.zj Z Z (by rw [hlt];simp) ?_;refine fR Z ?_;refine Run.fin Z (z3.go ?_);exact .t (by rw [hinv];rfl)
 ·intro j y r _ h2 hj hd hinv ih
  have h2':ds[j]?=some y:=by rw [List.getElem?_take] at h2;split at h2;exact h2;cases h2
  have hj':j<i:=by omega
  refine fR Z ?_;refine Run.zm Z Z (by simp;omega) ?_;refine fR Z ?_;refine Mid.zg Z Z Z h2' Z Z ?_;refine fM Z ?_;refine Mid.zg Z Z Z h Z Z ?_;refine fM Z ?_;refine Run.cond Z Z (fun he=>?_) (fun he=>?_)
  ·refine fR Z ?_;refine Run.fin Z (z3.go ?_);exact .t (by rw [hinv];simp only [ZA,List.any_cons,he,Bool.true_or,Bool.not_true])
  ·refine fR Z ?_;refine aL Z Z Z Z Z ?_;refine fM Z ?_;exact zn 1 Z (ih () (by rw [hinv];simp only [ZA,List.any_cons,he,Bool.false_or])) Z Z Z
def isP (t:Def) (nm:Str) (o:Def):Bool:=(t.kind==1&&o.name==nm)||(t.kind==2&&decide (nm∈o.implements))||(t.kind==3&&wV t.members o.name)
def Yr (t:Def) (nm:Str):List Def->List Def->List Str
 |_,[]=>[]
 |pre,o::r=>if (o.kind==1&&ZA pre o.name&&isP t nm o)=true then o.name::Yr t nm (pre++[o]) r else Yr t nm (pre++[o]) r
def y4 (ds:List Def) (nm:Str):List Str:=
 match zf nm ds with
 |none=>[]
 |some t=>Yr t nm [] ds
theorem z02 {ds:List Def} (hD:Z8 ds) (n:Str):((zf n ds).getD Def.zero).Ok:=by
 cases h:zf n ds with
 |none=>exact Def.ZD
 |some t=>exact hD.d t (ZG h)
theorem z0i (H:Pr P) (ds:List Def) (hD:Z8 ds) (nm:Str):z7 P 50 [yS ds,.t (.str nm)] ⟨[],0⟩ {v:= .t (.lst ((y4 ds nm).map sE))}:=by
 have hl:=hD.l;have hlb:=hD.lb;have hT:=z02 hD nm
 have hpos:y4 ds nm=if (zf nm ds).isSome=true then Yr ((zf nm ds).getD Def.zero) nm [] ds else []:=by
  unfold y4;cases zf nm ds<;>rfl
 refine z7.run H.i50 H.mixed Z Z ?_;refine fR Z ?_;refine Mid.call (yh H ds hl nm) Z Z Z Z ?_;refine fM Z ?_;generalize (zf nm ds).isSome=b at hpos;generalize (zf nm ds).getD Def.zero=t at hpos hT
 refine zD ds (fun i (B:List Str)=>{env:=[(1,.t (.str nm)),(2,.ptr 0 0),(5,.own 2 1 (B.map sE)),(6,.ptr 1 0),(7,.t (.bool b)),(8,.t (.int .i64 i))],s:=⟨[(0,.cells [.t (.lst (ds.map Def.enc))]),(1,.cells [.t (.int .i64 t.kind),.t (.str t.name),.t (.lst (t.implements.map sE)),.t (.lst (t.zX.map Dir.enc)),.t (.lst (t.fields.map Field.enc)),.t (.lst (t.members.map zN.enc)),.t (.lst (t.ze.map Input.enc))]),(2,.arr B.length)],3⟩}) (fun r i B=>B.length<=i/\(b=false->B=[])/\y4 ds nm=if b=true then B++Yr t nm (ds.take i) r else []) 2 [] Z ⟨by simp,fun _=>rfl,by rw [hpos];simp⟩ rfl rfl rfl ?_ ?_
 ·rintro B ⟨_,hB0,hB⟩
  cases b with
  |true=>
   obtain rfl:B=y4 ds nm:=by rw [hB];simp [Yr]
   refine fR Z ?_;refine lM Z Z Z ?_;refine fM Z ?_;refine Run.zj Z Z (by simp) ?_;refine fR Z ?_;refine Run.fin Z (z3.go ?_);exact .own Z
  |false=>
   obtain rfl:B=[]:=hB0 rfl
   have hB':y4 ds nm=[]:=by simpa using hB
   refine fR Z ?_;refine lM Z Z Z ?_;refine fM Z ?_;refine Run.zj Z Z (by simp) ?_;refine fR Z ?_;rw [hB'];refine Run.fin Z (z3.go ?_);exact .own Z
 ·rintro i x r B h1 hi hd ⟨hBl,hB0,hB⟩ ih;have hBl':B.length<=i:=hBl
  have htk:ds.take i++[x]=ds.take (i+1):=by rw [List.take_add_one,h1];rfl
  have hx:=hD.d x (zMG h1)
  cases b with
  |true=>
   have hB':y4 ds nm=B++Yr t nm (ds.take i) (x::r):=by simpa using hB
   refine fR Z ?_;refine lM Z Z Z ?_;refine fM Z ?_;refine Run.zm Z Z (by simp;omega) ?_;refine fR Z ?_;refine Mid.zg Z Z Z h1 Z Z ?_;refine fM Z ?_;refine caG Z Z (fun hg=>⟨_,rfl,zbj H ds hl i x h1,rfl⟩) Z Z ?_;refine fM Z ?_;refine Run.cond Z Z (fun hc=>?_) (fun hc=>?_)
   ·have hn:(x.kind==1&&ZA (ds.take i) x.name&&isP t nm x)=false:=by
     have:(x.kind==1&&ZA (ds.take i) x.name)=false:=by rw [z6i] at hc;revert hc;cases (x.kind==1)<;>cases (ZA (ds.take i) x.name)<;>simp
     rw [this];rfl
    refine fR Z ?_;refine aL Z Z Z Z Z ?_;refine fM Z ?_;exact zn 3 Z (ih B ⟨by omega,by simp,by rw [hB'];simp only [Yr,hn];rw [htk];rfl⟩) rfl rfl rfl
   ·have hn:(x.kind==1&&ZA (ds.take i) x.name)=true:=by rw [z6i] at hc;revert hc;cases (x.kind==1)<;>cases (ZA (ds.take i) x.name)<;>simp
    refine fR Z ?_;refine caG Z Z (fun hg=>⟨_,rfl,z4W H x.implements hx.il nm,rfl⟩) Z Z ?_;refine fM Z ?_;refine caG Z Z (fun hg=>⟨_,rfl,z3E H t hT.ml x.name,rfl⟩) Z Z ?_;refine fM Z ?_;refine Run.cond Z Z (fun hp=>?_) (fun hp=>?_)
    ·have hp':isP t nm x=true:=by simpa [isP] using hp
     refine fR Z ?_;refine apM sE B [x.name] Z Z Z Z Z ?_;refine fM Z ?_;refine aL Z Z Z Z Z ?_;refine fM Z ?_;exact zn 3 Z (ih (B++[x.name]) ⟨by simp;omega,by simp,by rw [hB'];simp only [Yr,hn,hp'];rw [htk];simp⟩) rfl rfl rfl
    ·have hp':isP t nm x=false:=by simpa [isP] using hp
     refine fR Z ?_;refine aL Z Z Z Z Z ?_;refine fM Z ?_;exact zn 3 Z (ih B ⟨by omega,by simp,by rw [hB'];simp only [Yr,hn,hp'];rw [htk];simp⟩) rfl rfl rfl
  |false=>
   obtain rfl:B=[]:=hB0 rfl
   have hB':y4 ds nm=[]:=by simpa using hB
   refine fR Z ?_;refine lM Z Z Z ?_;refine fM Z ?_;refine Run.zj Z Z (by simp) ?_;refine fR Z ?_;rw [hB'];refine Run.fin Z (z3.go ?_);exact .own Z
end Go.GB.C11
namespace Go.GB.C11
open Go.GB
variable {P:Program}
def bE (b:Bool):T:= .bool b
def yk (M:List (Str×Bool)) (k:Str):Bool:=(Z6 k M).isSome
theorem z0Y (M:List (Str×Bool)) (x:Str) (k:Str):yk (yl x true M) k=(x==k||yk M k):=by
 unfold yk;rw [Wj];by_cases h:k=x
 ·subst h;simp
 ·have h':¬ x=k:=fun e=>h e.symm;simp [h,h']
structure MOk (M:List (Str×Bool)):Prop where
 nd:(M.map (·.1)).Nodup
 tr:∀e,e∈M->e.2=true
theorem MOk.nil:MOk []:=⟨by simp,by simp⟩
theorem zat {M:List (Str×Bool)} {x:Str} {v:Bool}:∀{e:Str×Bool},e∈yl x v M->e=(x,v)∨e∈M:=by
 induction M with
 |nil=>intro e h;simp [yl] at h;exact .inl h
 |cons a r ih=>
  intro e h;simp only [yl] at h;split at h
  ·rcases List.mem_cons.1 h with h|h
   ·exact .inl h
   ·exact .inr (List.mem_cons_of_mem _ h)
  ·rcases List.mem_cons.1 h with h|h
   ·exact .inr (h▸List.mem_cons_self ..)
   ·rcases ih h with h|h
    ·exact .inl h
    ·exact .inr (List.mem_cons_of_mem _ h)
theorem MOk.yl {M:List (Str×Bool)} (h:MOk M) (x:Str):MOk (yl x true M):=
 ⟨(z4s h.nd).1,fun e he=>by rcases zat he with rfl|he;rfl;exact h.tr e he⟩
theorem zbQ {M:List (Str×Bool)} {k:Str} (h:yk M k=true):∃e,e∈M/\e.1=k:=by
 unfold yk at h
 induction M with
 |nil=>simp [Z6] at h
 |cons a r ih=>
  simp only [Z6] at h;split at h
  ·rename_i e;exact ⟨a,List.mem_cons_self ..,e.symm⟩
  ·obtain ⟨e,h1,h2⟩:=ih h;exact ⟨e,List.mem_cons_of_mem _ h1,h2⟩
theorem MOk.get {M:List (Str×Bool)} (h:MOk M) (k:Str):(Z6 k M).getD false=yk M k:=by
 have h2:=h.tr;unfold yk
 induction M with
 |nil=>rfl
 |cons a r ih=>
  simp only [Z6];split
  ·simp [h2 a (List.mem_cons_self ..)]
  ·exact ih ⟨(List.nodup_cons.1 (by simpa using h.nd)).2,fun e he=>h2 e (List.mem_cons_of_mem _ he)⟩ fun e he=>h2 e (List.mem_cons_of_mem _ he)
theorem z6B {κ ν:Type} [DecidableEq κ] {e:κ×ν}:∀{l:List (κ×ν)} {i:Nat},l[i]?=some e->(l.map (·.1)).Nodup->YO e.1 l=l.eraseIdx i
 |[],i,h,_=>by simp at h
 |w::r,0,h,hn=>by simp at h;subst h;simp [YO]
 |w::r,i+1,h,hn=>by
  simp only [List.map_cons,List.nodup_cons] at hn
  have h':r[i]?=some e:=by simpa using h
  have hne:¬ e.1=w.1:=fun heq=>hn.1 (List.mem_map.2 ⟨e,zMG h',heq⟩);simp [YO,hne,z6B h' hn.2]
theorem z27 {M:List (Str×Bool)} (hM:MOk M) {e:Str×Bool} {i:Nat} (h:M[i]?=some e) (k:Str):yk (M.eraseIdx i) k=(yk M k&&!(k==e.1)):=by
 unfold yk;rw [←z6B h hM.nd,QL hM.nd];by_cases hk:k=e.1
 ·simp [hk]
 ·simp [hk]
theorem z9Z {M:List (Str×Bool)} (hM:MOk M) (x k:Str):yk (YO x M) k=(yk M k&&!(k==x)):=by
 unfold yk;rw [QL hM.nd];by_cases hk:k=x
 ·simp [hk]
 ·simp [hk]
theorem z9X {M:List (Str×Bool)} (x:Str):(YO x M).Sublist M:=by
 induction M with
 |nil=>exact List.Sublist.refl _
 |cons a r ih=>
  simp only [YO];split
  ·exact List.sublist_cons_self ..
  ·exact ih.cons_cons _
theorem MOk.sub {M M':List (Str×Bool)} (h:MOk M) (hs:M'.Sublist M):MOk M':=
 ⟨h.nd.sublist (hs.map _),fun e he=>h.tr e (hs.subset he)⟩
theorem z05:∀{bs:List Nat} {i j s:Nat},bs.Nodup->bs[i]?=some s->bs[j]?=some s->i=j
 |[],i,j,s,_,h,_=>by simp at h
 |b::r,0,0,s,_,_,_=>rfl
 |b::r,0,j+1,s,hn,h1,h2=>by
  simp at h1;subst h1;exact absurd (zMG (by simpa using h2)) (List.nodup_cons.1 hn).1
 |b::r,i+1,0,s,hn,h1,h2=>by
  simp at h2;subst h2;exact absurd (zMG (by simpa using h1)) (List.nodup_cons.1 hn).1
 |b::r,i+1,j+1,s,hn,h1,h2=>by
  exact congrArg (· +1) (z05 (List.nodup_cons.1 hn).2 (by simpa using h1) (by simpa using h2))
def z0d (bs seen:List Nat):Nat:=bs.countP fun s=>!decide (s∈seen)
theorem zd8 (bs seen:List Nat) (s:Nat):z0d bs (seen++[s])<=z0d bs seen:=by
 unfold z0d;refine List.countP_mono_left fun x _ h=>?_;simp at h⊢;exact h.1
theorem z91 {s:Nat} {seen:List Nat} (hs:s∉seen):∀{bs:List Nat},s∈bs->z0d bs (seen++[s])<z0d bs seen
 |[],h=>by cases h
 |b::r,h=>by
  have hle:=zd8 r seen s;unfold z0d at hle⊢;simp only [List.countP_cons]
  rcases List.mem_cons.1 h with rfl|h
  ·simp [hs];simp at hle;omega
  ·have ih:=z91 hs h;unfold z0d at ih
   have:(if (!decide (b∈seen++[s]))=true then 1 else 0)<=(if (!decide (b∈seen))=true then 1 else 0):=by
    by_cases hb:b∈seen
    ·simp [hb]
    ·by_cases hbs:b=s<;>simp [hb,hbs]
   omega
theorem z7u (bs seen:List Nat) (i:Nat):z0d (bs.eraseIdx i) seen<=z0d bs seen:=(List.eraseIdx_sublist ..).countP_le
theorem z0N {α β:Type}:∀(l:List α) (r:List β) (i:Nat),(l.eraseIdx i).zip (r.eraseIdx i)=(l.zip r).eraseIdx i
 |[],r,i=>by simp
 |a::l,[],i=>by cases i<;>simp
 |a::l,b::r,0=>by simp
 |a::l,b::r,i+1=>by simp [z0N l r i]
structure Lp (M:List (Str×Bool)) (bad:Str->Bool) (b:List (Str×Bool)×List Nat×List Nat):Prop where
 ok:MOk b.1
 len:b.2.1.length=b.1.length
 nd:b.2.1.Nodup
 i1:∀k,yk b.1 k=true->yk M k=true
 i2:∀k,yk M k=true->bad k=false->yk b.1 k=true
 i3:∀p,p∈b.1.zip b.2.1->p.2∈b.2.2->bad p.1.1=false
theorem Lp.yo {M:List (Str×Bool)} {bad:Str->Bool} {L:List (Str×Bool)} {bs seen:List Nat} (h:Lp M bad (L,bs,seen)) {i s:Nat} {e:Str×Bool} (he:L[i]?=some e) (hs:bs[i]?=some s) (hb:bad e.1=false):Lp M bad (L,bs,seen++[s]):=by
 refine ⟨h.ok,h.len,h.nd,h.i1,h.i2,fun p hp hps=>?_⟩
 rcases List.mem_append.1 hps with hps|hps
 ·exact h.i3 p hp hps
 ·simp at hps;obtain ⟨j,hj⟩:=List.mem_iff_getElem?.1 hp;obtain ⟨h1,h2⟩:=List.getElem?_zip_eq_some.1 hj;rw [hps] at h2;have:=z05 h.nd hs h2;subst this;simp only at h1;rw [he] at h1;simp at h1;rw [←h1];exact hb
theorem Lp.drop {M:List (Str×Bool)} {bad:Str->Bool} {L:List (Str×Bool)} {bs seen:List Nat} (h:Lp M bad (L,bs,seen)) {i s:Nat} {e:Str×Bool} (he:L[i]?=some e) (hs:bs[i]?=some s) (hb:bad e.1=true):Lp M bad (L.eraseIdx i,bs.eraseIdx i,seen++[s]):=by
 have hlen:bs.length=L.length:=h.len;have hok:MOk L:=h.ok
 refine ⟨hok.sub (List.eraseIdx_sublist ..),by show (bs.eraseIdx i).length=(L.eraseIdx i).length;rw [List.length_eraseIdx,List.length_eraseIdx,hlen],List.Nodup.sublist (List.eraseIdx_sublist ..) h.nd,fun k hk=>?_,fun k hk hkb=>?_,fun p hp hps=>?_⟩
 ·have hk':yk (L.eraseIdx i) k=true:=hk;rw [z27 hok he] at hk';simp at hk';exact h.i1 k hk'.1
 ·show yk (L.eraseIdx i) k=true;rw [z27 hok he];have h1:=h.i2 k hk hkb
  have hne:¬ k=e.1:=by rintro rfl;rw [hb] at hkb;cases hkb
  simp [hne];exact h1
 ·have hp':p∈(L.zip bs).eraseIdx i:=by rw [←z0N];exact hp
  have hpm:p∈L.zip bs:=(List.eraseIdx_sublist ..).subset hp'
  rcases List.mem_append.1 hps with hps|hps
  ·exact h.i3 p hpm hps
  ·exfalso;simp at hps
   have hz:(bs.eraseIdx i)=((L.zip bs).eraseIdx i).map (·.2):=by
    rw [←z0N];rw [List.map_snd_zip (by rw [List.length_eraseIdx,List.length_eraseIdx,hlen];exact Nat.le_refl _)]
   have hmem:s∈bs.eraseIdx i:=by rw [hz,←hps];exact List.mem_map.2 ⟨p,hp',rfl⟩
   obtain ⟨j,hj⟩:=List.mem_iff_getElem?.1 hmem;rw [List.getElem?_eraseIdx] at hj;split at hj
   ·have:=z05 h.nd hs hj;omega
   ·have:=z05 h.nd hs hj;omega
theorem Lp.last {M:List (Str×Bool)} {bad:Str->Bool} {L:List (Str×Bool)} {bs seen:List Nat} (h:Lp M bad (L,bs,seen)) (hall:∀s,s∈bs->s∈seen) (k:Str):yk L k=(yk M k&&!(bad k)):=by
 have hlen:bs.length=L.length:=h.len;by_cases hk:yk L k=true
 ·obtain ⟨e,he,rfl⟩:=zbQ hk;obtain ⟨i,hi⟩:=List.mem_iff_getElem?.1 he
  have hil:i<bs.length:=by rw [hlen];exact (List.getElem?_eq_some_iff.1 hi).1
  have hz:(L.zip bs)[i]?=some (e,bs[i]):=List.getElem?_zip_eq_some.2 ⟨hi,by simp [hil]⟩
  have:=h.i3 (e,bs[i]) (zMG hz) (hall _ (by simp));have h1:=h.i1 e.1 hk;simp only at this;rw [hk,h1,this];rfl
 ·have hk':yk L k=false:=by simpa using hk
  rw [hk'];by_cases h1:yk M k=true
  ·by_cases h2:bad k=false
   ·exact absurd (h.i2 k h1 h2) hk
   ·have:bad k=true:=by simpa using h2
    simp [this]
  ·have:yk M k=false:=by simpa using h1
   simp [this]
end Go.GB.C11
namespace Go.GB.C11
open Go.GB
variable {P:Program}
theorem z6A (a b:Str):(a==b)=(b==a):=by
 rw [Bool.eq_iff_iff];simp only [beq_iff_eq];exact eq_comm
def z2u (t:Def) (nm:Str) (ds:List Def) (k:Str):Bool:=
 (t.kind==1&&nm==k)||(t.kind==2&&ds.any (fun x=>decide (nm∈x.implements)&&x.name==k))||(t.kind==3&&wV t.members k)
def z7G (t:Def) (nm:Str) (ds:List Def) (k:Str):Bool:=
 !(zf k ds).isSome||((zf k ds).getD Def.zero).kind !=1||(t.kind==2&&!(decide (nm∈((zf k ds).getD Def.zero).implements)))
theorem z3h:∀{ds:List Def} {i:Nat} {x:Def},ds[i]?=some x->ZA (ds.take i) x.name=true->zf x.name ds=some x
 |[],i,x,h,_=>by simp at h
 |y::r,0,x,h,_=>by simp at h;subst h;simp [zf]
 |y::r,i+1,x,h,hf=>by
  have hne:¬ (y.name==x.name)=true:=by
   intro e;simp [ZA,e] at hf
  simp only [zf];rw [if_neg hne];refine z3h (i:=i) (by simpa using h) ?_;simp only [ZA,List.take_succ_cons,List.any_cons] at hf⊢
  have:(y.name==x.name)=false:=by simpa using hne
  rw [this,Bool.false_or] at hf;exact hf
theorem z8E {ds:List Def} {t:Def} {nm:Str} {i:Nat} {x:Def} (h:ds[i]?=some x) (hf:ZA (ds.take i) x.name=true):(z2u t nm ds x.name&&!(z7G t nm ds x.name))=(x.kind==1&&isP t nm x):=by
 have e:=z3h h hf;have hm:x∈ds:=zMG h;unfold z7G z2u isP;rw [e];simp only [Option.isSome_some,Option.getD_some,Bool.not_true,Bool.false_or,z6i];by_cases h2:t.kind=2
 ·have h1:¬ t.kind=1:=by omega
  have h3:¬ t.kind=3:=by omega
  by_cases hx:nm∈x.implements
  ·have:(ds.any fun y=>decide (nm∈y.implements)&&y.name==x.name)=true:=List.any_eq_true.2 ⟨x,hm,by simp [hx]⟩
   simp [h2,hx,this]
  ·simp [h2,hx]
 ·have e1:(nm==x.name)=(x.name==nm):=z6A _ _
  have h2':(t.kind==2)=false:=by simpa using h2
  simp only [h2',e1,Bool.false_and,Bool.or_false,Bool.and_comm]
  cases (t.kind==1&&x.name==nm)<;>cases (t.kind==3&&wV t.members x.name)<;>cases (x.kind==1)<;>rfl
theorem z4t (nm:Str):∀(r pre:List Def),Yr Def.zero nm pre r=[]
 |[],pre=>rfl
 |o::r,pre=>by
  have:isP Def.zero nm o=false:=rfl;simp only [Yr,this,Bool.and_false,Bool.false_eq_true,if_false];exact z4t nm r _
theorem z97 (ds:List Def) (nm:Str):y4 ds nm=Yr ((zf nm ds).getD Def.zero) nm [] ds:=by
 unfold y4
 cases zf nm ds with
 |none=>simp [z4t]
 |some t=>rfl
theorem z1f (l:List Def) (x:Def) (k:Str):ZA (l++[x]) k=(ZA l k&&!(x.name==k)):=by
 simp [ZA,List.any_append,Bool.not_or]
theorem z16 (H:Pr P) (ds:List Def) (hD:Z8 ds) (nm:Str):z7 P 34 [yS ds,.t (.str nm)] ⟨[],0⟩ {v:= .t (.lst ((y4 ds nm).map sE))}:=by
 have hl:=hD.l;have hlb:=hD.lb;have hT:=z02 hD nm;have hpos:=z97 ds nm;refine z7.run H.i34 H.mixed Z Z ?_;refine fR Z ?_;refine Mid.call (z8H H ds hl nm) Z Z Z Z ?_;refine fM Z ?_;generalize (zf nm ds).getD Def.zero=t at hT hpos
 have tail:∀M:List (Str×Bool),MOk M->(∀k,yk M k=z2u t nm ds k)->Run P n34 (⟨[],0⟩:S).nxt (z3 ⟨[],0⟩ {v:= .t (.lst ((y4 ds nm).map sE))} r34 Yz.ret)
   [It.c (.region false [⟨some 60,none,.mv (.s 7)⟩,⟨some 61,none,.qu (.s 60)⟩] [] [1,2,5,7,61]),It.c c34_23,It.c c34_13]
   {env:=[(1,.t (.str nm)),(2,.ptr 0 0),(5,.ptr 1 0),(7,.mp 2)],s:=⟨[(0,.cells [.t (.lst (ds.map Def.enc))]),(1,.cells [.t (.int .i64 t.kind),.t (.str t.name),.t (.lst (t.implements.map sE)),.t (.lst (t.zX.map Dir.enc)),.t (.lst (t.fields.map Field.enc)),.t (.lst (t.members.map zN.enc)),.t (.lst (t.ze.map Input.enc))]),(2,.map false (mE sE bE M) none)],3⟩}:=by
  intro M hM hMk;refine Run.z8F (q:=2) Z Z (fun cl bs hbl hbn hblt=>?_);refine fR Z ?_;refine Mid.zcG Z Z Z ?_;refine Mid.z44 Z ?_
  refine z30 (β:=List (Str×Bool)×List Nat×List Nat) (fun b=>{env:=[(1,.t (.str nm)),(2,.ptr 0 0),(5,.ptr 1 0),(7,.mp 2),(61,.ptr 3 0)],s:=⟨[(0,.cells [.t (.lst (ds.map Def.enc))]),(1,.cells [.t (.int .i64 t.kind),.t (.str t.name),.t (.lst (t.implements.map sE)),.t (.lst (t.zX.map Dir.enc)),.t (.lst (t.fields.map Field.enc)),.t (.lst (t.members.map zN.enc)),.t (.lst (t.ze.map Input.enc))]),(2,.map false (mE sE bE b.1) (some (cl,b.2.1))),(3,.iter 2 cl b.2.2 cl)],4⟩})
   (Lp M (z7G t nm ds)) (fun b=>z0d b.2.1 b.2.2) 4 (M,bs,[]) rfl ⟨hM,by simpa [mE] using hbl,hbn,fun _ h=>h,fun _ h _=>h,fun p hp h=>by cases h⟩ rfl rfl rfl ?_
  rintro ⟨L,bs',seen⟩ hinv ih;refine Run.nxt Z Z Z Z Z (fun hall=>?_) (fun i e s he hs hns=>?_)
  ·have hG:=hinv.last hall;have hLok:MOk L:=hinv.ok;refine fM Z ?_;refine Run.zj Z Z Z ?_;refine fR Z ?_;refine lM Z Z Z ?_;refine fM Z ?_
   refine zD ds (fun i (B:List Str×List (Str×Bool))=>{env:=[(7,.mp 2),(15,.own 4 1 (B.1.map sE)),(93,.t (.lst (ds.map Def.enc))),(94,.t (.int .i64 ds.length)),(95,.t (.int .i64 i))],s:=⟨[(2,.map false (mE sE bE B.2) none),(4,.arr B.1.length)],5⟩}) (fun r i B=>B.1.length<=i/\MOk B.2/\(∀k,yk B.2 k=(yk L k&&ZA (ds.take i) k))/\y4 ds nm=B.1++Yr t nm (ds.take i) r) 4 ([],L) Z ⟨by simp,hLok,by intro k;simp [ZA],by rw [hpos];simp⟩ rfl rfl rfl ?_ ?_
   ·rintro ⟨B,N⟩ ⟨_,_,_,hB⟩
    obtain rfl:B=y4 ds nm:=by rw [hB];simp [Yr]
    refine fR Z ?_;refine Run.zj Z Z (by simp) ?_;refine fR Z ?_;refine Run.fin Z (z3.go ?_);exact .own Z
   ·rintro i x r ⟨B,N⟩ h1 hi hd ⟨hBl,hN,hNk,hB⟩ ih2;have hBl':B.length<=i:=hBl;have hNok:MOk N:=hN
    have htk:ds.take i++[x]=ds.take (i+1):=by rw [List.take_add_one,h1];rfl
    have hx:=hNk x.name;refine fR Z ?_;refine Run.zm Z Z (by simp;omega) ?_;refine fR Z ?_;refine Mid.zg Z Z Z h1 Z Z ?_;refine fM Z ?_;refine Mid.z8I (x.name) Z Z Z Z Z (qC) Z ?_;refine fM Z ?_;rw [hNok.get];refine Run.cond Z Z (fun hc=>?_) (fun hc=>?_)
    ·have hc2:yk L x.name=true/\ZA (ds.take i) x.name=true:=by
      have:yk N x.name=true:=hc;rw [this] at hx;simpa using hx.symm
     have hg:(x.kind==1&&isP t nm x)=true:=by rw [←z8E h1 hc2.2,←hMk,←hG];exact hc2.1
     have hsel:(x.kind==1&&ZA (ds.take i) x.name&&isP t nm x)=true:=by
      rw [hc2.2,Bool.and_true];exact hg
     refine fR Z ?_;refine apM sE B [x.name] Z Z Z Z Z ?_;refine fM Z ?_;refine Mid.zfT x.name Z Z Z qC Z ?_;refine fM Z ?_;refine aL Z Z Z Z Z ?_;refine fM Z ?_
     exact zn 5 Z (ih2 (B++[x.name],YO x.name N) ⟨by simp;omega,hNok.sub (z9X _),by
      intro k;show yk (YO x.name N) k=_;rw [z9Z hNok,show yk N k=_ from hNk k,←htk,z1f]
      rw [z6A k x.name,Bool.and_assoc],by rw [hB];simp only [Yr];rw [if_pos hsel,htk];simp⟩) rfl rfl rfl
    ·have hcN:yk N x.name=false:=hc
     have hsel:¬ (x.kind==1&&ZA (ds.take i) x.name&&isP t nm x)=true:=by
      intro hs;simp only [Bool.and_eq_true] at hs
      have hg:(x.kind==1&&isP t nm x)=true:=by rw [hs.1.1,hs.2];rfl
      rw [←z8E h1 hs.1.2,←hMk,←hG] at hg;rw [hcN,hg,hs.1.2] at hx;cases hx
     refine fR Z ?_;refine aL Z Z Z Z Z ?_;refine fM Z ?_
     exact zn 5 Z (ih2 (B,N) ⟨by omega,hNok,by
      intro k;show yk N k=_;rw [show yk N k=_ from hNk k,←htk,z1f];by_cases e:x.name=k
      ·subst e;rw [show yk N x.name=_ from hNk x.name] at hcN;rw [hcN];simp
      ·have e':(x.name==k)=false:=by simpa using e
       rw [e'];simp,by rw [hB];simp only [Yr];rw [if_neg hsel,htk]⟩) rfl rfl rfl
  ·have hbn':bs'.Nodup:=hinv.nd;have hLok:MOk L:=hinv.ok;have hsm:s∈bs':=zMG hs;have hO:=z02 hD e.1;have hil:=hO.il;have hlt:z0d bs' (seen++[s])<z0d bs' seen:=z91 hns hsm;refine fM Z ?_;refine Run.zm Z Z Z ?_;refine fR Z ?_;refine Mid.zfy (i:=i) (z:=s) Z Z Z (by simp) he hs hbn' Z ?_;refine fM Z ?_;refine Mid.call (z8H H ds hl e.1) Z Z Z Z ?_;refine fM Z ?_;refine caG Z Z (fun hg=>⟨_,rfl,Qq H ((zf e.1 ds).getD Def.zero) hO nm,rfl⟩) Z Z ?_;refine fM Z ?_;refine Run.cond Z Z (fun hb=>?_) (fun hb=>?_)
   ·have hb':z7G t nm ds e.1=true:=by simpa [z7G,z6i] using hb
    refine fR Z ?_;refine Mid.zgq (i:=i) Z Z he hLok.nd Z qC Z ?_;refine fM Z ?_;exact zn 4 Z (ih (L.eraseIdx i,bs'.eraseIdx i,seen++[s]) (by have:=z7u bs' (seen++[s]) i;show z0d (bs'.eraseIdx i) (seen++[s])<z0d bs' seen;omega) (hinv.drop he hs hb')) Z Z Z
   ·have hb':z7G t nm ds e.1=false:=by simpa [z7G,z6i] using hb
    skip;exact zn 4 Z (ih (L,bs',seen++[s]) hlt (hinv.yo he hs hb')) Z Z Z
 refine Mid.z7d sE bE Z ?_;refine fM Z ?_;refine Run.cond Z Z (fun h1=>?_) (fun h1=>?_)
 ·have h1':t.kind=1:=by simpa using h1
  refine fR Z ?_;refine Mid.zd4 nm Z Z Z Z qC Z ?_;refine Mid.z44 Z ?_;exact YK 3 Z (tail (yl nm true []) (MOk.nil.yl nm) (by intro k;rw [z0Y];simp [z2u,h1',yk,Z6])) Z Z Z
 ·have h1':¬ t.kind=1:=by simpa using h1
  refine fR Z ?_;refine Run.cond Z Z (fun h2=>?_) (fun h2=>?_)
  ·have h2':t.kind=2:=by simpa using h2
   refine fR Z ?_;refine lM Z Z Z ?_;refine fM Z ?_
   refine zD ds (fun i (M:List (Str×Bool))=>{env:=[(1,.t (.str nm)),(2,.ptr 0 0),(5,.ptr 1 0),(7,.mp 2),(34,.t (.lst (ds.map Def.enc))),(35,.t (.int .i64 ds.length)),(36,.t (.int .i64 i))],s:=⟨[(0,.cells [.t (.lst (ds.map Def.enc))]),(1,.cells [.t (.int .i64 t.kind),.t (.str t.name),.t (.lst (t.implements.map sE)),.t (.lst (t.zX.map Dir.enc)),.t (.lst (t.fields.map Field.enc)),.t (.lst (t.members.map zN.enc)),.t (.lst (t.ze.map Input.enc))]),(2,.map false (mE sE bE M) none)],3⟩}) (fun r i M=>MOk M/\∀k,(yk M k||r.any (fun x=>decide (nm∈x.implements)&&x.name==k))=ds.any (fun x=>decide (nm∈x.implements)&&x.name==k)) 3 [] Z ⟨MOk.nil,fun k=>by simp [yk,Z6]⟩ rfl rfl rfl ?_ ?_
   ·rintro M ⟨hM,hMk⟩;refine fR Z ?_;refine Run.zj Z Z (by simp) ?_;exact YK 3 Z (tail M hM (by intro k;have:=hMk k;simp only [List.any_nil,Bool.or_false] at this;rw [this];simp [z2u,h2'])) Z Z Z
   ·rintro i x r M hx1 hi hd ⟨hM,hMk⟩ ih;have hxo:=hD.d x (zMG hx1);refine fR Z ?_;refine Run.zm Z Z (by simp;omega) ?_;refine fR Z ?_;refine Mid.zg Z Z Z hx1 Z Z ?_;refine fM Z ?_;refine Mid.call (Qq H x hxo nm) Z Z Z Z ?_;refine fM Z ?_;refine Run.cond Z Z (fun hc=>?_) (fun hc=>?_)
    ·refine fR Z ?_;refine Mid.zd4 (x.name) Z Z Z Z (qC) Z ?_;refine fM Z ?_;refine aL Z Z Z Z Z ?_;refine fM Z ?_
     exact zn 3 Z (ih (yl x.name true M) ⟨hM.yl _,fun k=>by
      rw [←hMk k,z0Y];have:decide (nm∈x.implements)=true:=hc;simp only [List.any_cons,this,Bool.true_and]
      cases (x.name==k)<;>cases (yk M k)<;>simp⟩) rfl rfl rfl
    ·refine fR Z ?_;refine aL Z Z Z Z Z ?_;refine fM Z ?_
     exact zn 3 Z (ih M ⟨hM,fun k=>by
      rw [←hMk k];have:decide (nm∈x.implements)=false:=hc
      simp only [List.any_cons,this,Bool.false_and,Bool.false_or]⟩) rfl rfl rfl
  ·have h2':¬ t.kind=2:=by simpa using h2
   refine fR Z ?_;refine Run.cond Z Z (fun h3=>?_) (fun h3=>?_)
   ·have h3':t.kind=3:=by simpa using h3
    have hml:=hT.ml;refine fR Z ?_;refine lM Z Z Z ?_;refine fM Z ?_
    refine zD t.members (fun i (M:List (Str×Bool))=>{env:=[(1,.t (.str nm)),(2,.ptr 0 0),(5,.ptr 1 0),(7,.mp 2),(50,.t (.lst (t.members.map zN.enc))),(51,.t (.int .i64 t.members.length)),(52,.t (.int .i64 i))],s:=⟨[(0,.cells [.t (.lst (ds.map Def.enc))]),(1,.cells [.t (.int .i64 t.kind),.t (.str t.name),.t (.lst (t.implements.map sE)),.t (.lst (t.zX.map Dir.enc)),.t (.lst (t.fields.map Field.enc)),.t (.lst (t.members.map zN.enc)),.t (.lst (t.ze.map Input.enc))]),(2,.map false (mE sE bE M) none)],3⟩}) (fun r i M=>MOk M/\∀k,(yk M k||wV r k)=wV t.members k) 3 [] Z ⟨MOk.nil,fun k=>by simp [yk,Z6]⟩ rfl rfl rfl ?_ ?_
    ·rintro M ⟨hM,hMk⟩;refine fR Z ?_;refine Run.zj Z Z (by simp) ?_;exact YK 3 Z (tail M hM (by intro k;have:=hMk k;simp only [wV,List.any_nil,Bool.or_false] at this;rw [this];simp [z2u,h3',wV])) Z Z Z
    ·rintro i x r M hx1 hi hd ⟨hM,hMk⟩ ih;refine fR Z ?_;refine Run.zm Z Z (by simp;omega) ?_;refine fR Z ?_;refine Mid.zg Z Z Z hx1 Z Z ?_;refine fM Z ?_;refine Mid.zd4 (x.name) Z Z Z Z (qC) Z ?_;refine fM Z ?_;refine aL Z Z Z Z Z ?_;refine fM Z ?_
     exact zn 3 Z (ih (yl x.name true M) ⟨hM.yl _,fun k=>by
      rw [←hMk k,z0Y];simp only [wV,List.any_cons]
      cases (x.name==k)<;>cases (yk M k)<;>simp⟩) rfl rfl rfl
   ·have h3':¬ t.kind=3:=by simpa using h3
    exact YK 3 Z (tail [] MOk.nil (by intro k;simp [z2u,yk,Z6,h1',h2',h3'])) Z Z Z
end Go.GB.C11
namespace Go.GB.C29
open Go.GB
structure wa (P:Program):Prop where
 p26:C26.Pr P
 p11:C11.Pr P
 mixed:P.follows .mixedOrders=true
 i8:zd P 8=some (n8,c8.bare,r8)
 i10:zd P 10=some (n10,c10.bare,r10)
 i14:zd P 14=some (n14,c14.bare,r14)
 i22:zd P 22=some (n22,c22.bare,r22)
 i21:zd P 21=some (n21,c21.bare,r21)
 i23:zd P 23=some (n23,c23.bare,r23)
 i24:zd P 24=some (n24,c24.bare,r24)
 i25:zd P 25=some (n25,c25.bare,r25)
 i27:zd P 27=some (n27,c27.bare,r27)
 i39:zd P 39=some (n39,c39.bare,r39)
 i40:zd P 40=some (n40,c40.bare,r40)
 i41:zd P 41=some (n41,c41.bare,r41)
 i42:zd P 42=some (n42,c42.bare,r42)
 i43:zd P 43=some (n43,c43.bare,r43)
 i45:zd P 45=some (n45,c45.bare,r45)
 i46:zd P 46=some (n46,c46.bare,r46)
 i47:zd P 47=some (n47,c47.bare,r47)
 i68:zd P 68=some (n68,c68.bare,r68)
 i71:zd P 71=some (n71,c71.bare,r71)
 i72:zd P 72=some (n72,c72.bare,r72)
variable {P:Program}
def yz (k:Int):Str:=if k=1 then [81,117,101,114,121] else if k=2 then [77,117,116,97,116,105,111,110] else if k=3 then [83,117,98,115,99,114,105,112,116,105,111,110] else []
theorem z4c (f:FuncId) (hi:zd P f=some (n23,c23.bare,r23)) (hm:P.follows .mixedOrders=true) (k:Int):z7 P f [.t (.int .i64 k)] ⟨[],0⟩ {v:= .t (.str (yz k))}:=by
 refine z7.run hi hm Z Z ?_;refine fR Z ?_;refine Run.cond Z Z (fun h1=>?_) (fun h1=>?_)
 ·have h':k=1:=by simpa using h1
  refine fR Z ?_;refine Run.fin Z (z3.go ?_);exact .t (by unfold yz;rw [if_pos h'])
 ·have h1':¬ k=1:=by simpa using h1
  refine fR Z ?_;refine Run.cond Z Z (fun h2=>?_) (fun h2=>?_)
  ·have h':k=2:=by simpa using h2
   refine fR Z ?_;refine Run.fin Z (z3.go ?_);exact .t (by unfold yz;rw [if_neg h1',if_pos h'])
  ·have h2':¬ k=2:=by simpa using h2
   refine fR Z ?_;refine Run.cond Z Z (fun h3=>?_) (fun h3=>?_)
   ·have h':k=3:=by simpa using h3
    refine fR Z ?_;refine Run.fin Z (z3.go ?_);exact .t (by unfold yz;rw [if_neg h1',if_neg h2',if_pos h'])
   ·have h':¬ k=3:=by simpa using h3
    refine fR Z ?_;refine Run.fin Z (z3.go ?_);exact .t (by unfold yz;rw [if_neg h1',if_neg h2',if_neg h'])
theorem zcO (H:wa P) (k:Int):z7 P 23 [.t (.int .i64 k)] ⟨[],0⟩ {v:= .t (.str (yz k))}:=z4c 23 H.i23 H.mixed k
theorem zb0 (H:wa P) (k:Int):z7 P 27 [.t (.int .i64 k)] ⟨[],0⟩ {v:= .t (.str (yz k))}:=z4c 27 H.i27 H.mixed k
theorem z9z (H:wa P) (l:List Arg) (hl:l.length*96<=140737488355328):z7 P 40 [.t (.lst (l.map Arg.enc))] ⟨[],0⟩ {v:= .t (.lst (l.map Arg.enc))}:=by
 refine z7.run H.i40 H.mixed Z Z ?_;refine fR Z ?_;refine p0 Z ?_;refine fM Z ?_;refine Run.z4k Z Z (fun h=>?_) (fun _=>?_)
 ·have hn:l=[]:=by
   cases l with
   |nil=>rfl
   |cons x r=>
    have:=h (Arg.enc x) (by simp);simp [Arg.enc] at this
  subst hn;refine fR Z ?_;refine Run.fin Z (z3.go ?_);exact .nil Z
 ·refine fR Z ?_;refine apN Arg.enc l Z Z Z ?_ (h1:=hl) (h2:=by omega);refine fM rfl ?_;refine Run.fin rfl (z3.go ?_);exact .own rfl
theorem zas (H:wa P) (l:List Int) (hl:l.length*8<=140737488355328):z7 P 41 [.t (.lst (l.map nE))] ⟨[],0⟩ {v:= .t (.lst (l.map nE))}:=by
 refine z7.run H.i41 H.mixed Z Z ?_;refine fR Z ?_;refine p0 Z ?_;refine fM Z ?_;refine Run.z4k Z Z (fun h=>?_) (fun _=>?_)
 ·have hn:l=[]:=by
   cases l with
   |nil=>rfl
   |cons x r=>
    have:=h (nE x) (by simp);simp [nE] at this
  subst hn;refine fR Z ?_;refine Run.fin Z (z3.go ?_);exact .nil Z
 ·refine fR Z ?_;refine apN nE l Z Z Z ?_ (h1:=hl) (h2:=by omega);refine fM rfl ?_;refine Run.fin rfl (z3.go ?_);exact .own rfl
def zb7 (P:Program) (p:za):Prop:=z7 P 24 [p.v] ⟨[],0⟩ {v:=p.v}
theorem zcu (H:wa P) (p:za) (hp:p.Ok) (hrec:∀x,x∈p.z5->zb7 P x):zb7 P p:=by
 have hal:=hp.al;have hw:=hp.t.l;have hpl:=hp.pl;unfold zb7;refine z7.run H.i24 H.mixed Z Z ?_;refine fR Z ?_;refine Mid.call (z9z H p.args hal) Z Z Z Z ?_;refine fM Z ?_;refine Mid.call (zas H p.ty.zr hw) Z Z Z Z ?_;refine fM Z ?_;refine lM Z Z Z ?_;refine fM Z ?_;refine zD p.z5 (fun i (B:List za)=>{env:=[(1,.ptr 0 0),(2,.ptr 1 0),(19,.t (.lst (p.z5.map za.enc))),(20,.t (.int .i64 p.z5.length)),(21,.t (.int .i64 i))],s:=⟨[(0,.cells [.t (.str p.key),.t (.str p.on),.t (.str p.name),.t (.lst (p.args.map Arg.enc)),.t (.str p.ty.name),.t (.lst (p.ty.zr.map nE)),.t (.str p.label),.t (.int .i64 p.initial),.own 2 9 (B.map za.enc)]),(1,.cells [.t (.str []),.t (.str []),.t (.str []),.zI,.t (.str []),.zI,.t (.str []),.t (.int .i64 0),.zI]),(2,.arr B.length)],3⟩}) (fun r i B=>B=p.z5.take i) 2 [] Z Z Z Z Z ?_ ?_
 ·intro B hB;rw [List.take_length] at hB;refine fR Z ?_;refine Run.zj Z Z (by simp) ?_;refine fR Z ?_;refine Run.fin Z (z3.go ?_);exact .agg (.cons (.t Z) (.cons (.t Z) (.cons (.t Z) (.cons (.t Z) (.cons (.t Z) (.cons (.t Z) (.cons (.t Z) (.cons (.t Z) (.cons (.own (by rw [hB])) .nil)))))))))
 ·intro i x r B h1 hi hd hB ih;have hc:=hrec x (zMG h1);unfold zb7 at hc
  have hBl:B.length=i:=by rw [hB];simp;omega
  refine fR Z ?_;refine Run.zm Z Z (by simp;omega) ?_;refine fR Z ?_;refine Mid.Zl (za.zw x) Z Z Z h1 Z Z ?_;refine fM Z ?_;refine Mid.call (hc) Z Z Z Z ?_;refine fM Z ?_;refine apM za.enc B [x] Z (congrArg (fun c=>some (T.lst [c])) (za.zw x).symm) Z Z Z ?_ (hl:=fun x=>(congrArg List.length (za.zw x)).trans Z);refine fM Z ?_;refine aL Z Z Z Z Z ?_;refine fM Z ?_;exact zn 3 Z (ih (B++[x]) (by rw [hB,List.take_add_one,h1];rfl)) Z Z Z
theorem z96 (H:wa P):∀(k:Nat) (p:za),SizeOf.sizeOf p<=k->p.Ok->zb7 P p
 |0,p,h,_=>by cases p;simp at h
 |k+1,p,h,hp=>zcu H p hp fun x hx=>z96 H k x (by have:=za.z76 p hx;omega) (hp.p x hx)
theorem zaP (H:wa P) (p:za) (hp:p.Ok):z7 P 24 [p.v] ⟨[],0⟩ {v:=p.v}:=z96 H _ p (Nat.le_refl _) hp
def onF (l:List za) (s:Str):List za:=l.filter fun p=>p.on==s
theorem zaY {l:List za} {i:Nat} {x:za} {s:Str} (h:l[i]?=some x):onF (l.take (i+1)) s=onF (l.take i) s++if (x.on==s)=true then [x] else []:=by
 rw [List.take_add_one,h];unfold onF;rw [List.filter_append];congr 1;simp only [Option.toList_some,List.filter_cons,List.filter_nil]
theorem zge (H:wa P) (l:List za) (hl:l.length*160<=140737488355328) (ho:∀x,x∈l->x.Ok) (s:Str):z7 P 42 [.t (.lst (l.map za.enc)),.t (.str s)] ⟨[],0⟩ {v:= .t (.lst ((onF l s).map za.enc))}:=by
 refine z7.run H.i42 H.mixed Z Z ?_;refine fR Z ?_;refine lM Z Z Z ?_;refine fM Z ?_;refine zD l (fun i (B:List za)=>{env:=[(1,.t (.str s)),(5,.own 0 9 (B.map za.enc)),(8,.t (.lst (l.map za.enc))),(9,.t (.int .i64 l.length)),(10,.t (.int .i64 i))],s:=⟨[(0,.arr B.length)],1⟩}) (fun r i B=>B=onF (l.take i) s) 0 [] Z Z Z Z Z ?_ ?_
 ·intro B hB;rw [List.take_length] at hB;refine fR Z ?_;refine Run.zj Z Z (by simp) ?_;refine fR Z ?_;refine Run.fin Z (z3.go ?_);exact .own (by rw [hB])
 ·intro i x r B h1 hi hd hB ih;have hc:=zaP H x (ho x (zMG h1))
  have hBl:B.length<=i:=by rw [hB];have:=List.length_filter_le (fun p:za=>p.on==s) (l.take i);simp only [onF];simp at this⊢;omega
  have hs:=zaY (s:=s) h1;refine fR Z ?_;refine Run.zm Z Z (by simp;omega) ?_;refine fR Z ?_;refine Mid.Zl (za.zw x) Z Z Z h1 Z Z ?_;refine fM Z ?_;by_cases he:(x.on==s)=true
  ·rw [if_pos he] at hs;refine Run.zm Z Z he ?_;refine fR Z ?_;refine Mid.call (hc) Z Z Z Z ?_;refine fM Z ?_;refine apM za.enc B [x] Z (congrArg (fun c=>some (T.lst [c])) (za.zw x).symm) Z Z Z ?_ (hl:=fun x=>(congrArg List.length (za.zw x)).trans Z);refine fM Z ?_;refine aL Z Z Z Z Z ?_;refine fM Z ?_;exact zn 1 Z (ih (B++[x]) (by rw [hB,hs])) Z Z Z
  ·rw [if_neg he,List.append_nil] at hs;refine Run.zj Z Z (by simpa using he) ?_;refine fR Z ?_;refine aL Z Z Z Z Z ?_;refine fM Z ?_;exact zn 1 Z (ih B (by rw [hB,hs])) Z Z Z
end Go.GB.C29
namespace Go.GB
section
variable {P:Program} {n m:Nat} {R:St->Prop} {draw:Bool} {all:List AO} {after:List (List Nat)} {live:List Nat} {k:List It} {b b':Nat} {fl:List (Bool×Bool)} {ops:List AO} {st st':St} {d:Option Nat}
def z8N {α:Type} (st:St):List Ar->(List V->α)->α
 |[],K=>K []
 |x::r,K=>(x.u st).force fun v=>z8N st r fun vs=>K (v::vs)
theorem z6a {α:Type} (st:St):∀(l:List Ar) (K:List V->α),z8N st l K=K (yw st l)
 |[],K=>rfl
 |x::r,K=>by simp only [z8N,V.force_eq,z6a st r,yw]
theorem Mid.z8K {f:FuncId} {args:List Ar} {vs vs':List V} {s1:List (Nat×z6)} {m1:Nat} {out:Out} {v':V} {ob':List (Nat×z6)} {cc:Bool} (r:List Nat) (h:z7 P f vs ⟨s1,m1⟩ out) (hr:(qJ r&&(r.all (fun k=>Nat.blt k b))&&Nat.beq r.length m1)=true)
  (hv:z8N st args some=some vs') (hvs:V.YU (wj r b) vs=vs') (hb:V.bds m1 vs=true) (hs1:zR m1 s1=true) (hsub:zar (wj r b) st.s.sto s1 m1) (hob:zaF s1 m1 out.n out.ob=true)
  (hv':out.v.ren (wj r b)=v') (hob':qW (wj r b) out.ob=ob') (hcc:QI (!ob'.isEmpty||decide (0<out.n)) some=some cc)
  (hst:Yl b st d {v:=v',ob:=ob',n:=out.n,rd:=true} (fun b' st'=>some (b',st'))=some (b',st'))
  (h':Mid P n m R draw all after live k b' ((true,cc)::fl) ops st'):Mid P n m R draw all after live k b fl (⟨d,none,.call f args⟩::ops) st:=by
 simp only [Bool.and_eq_true] at hr;obtain ⟨⟨hr1,hr2⟩,hr3⟩:=hr;have hm:r.length=m1:=Nat.eq_of_beq_eq_true hr3;subst hm;rw [z6a] at hv;simp at hv;refine Mid.opX Z ?_;simp only [evX];rw [hv,←hvs]
 have hat:FnL P f (V.YU (wj r b) vs) b st.s.sto {v:=v',ob:=ob',n:=out.n,rd:=true}:=by
  intro s' hk;have hrn:=zaC (n:=out.n) hr1 hr2;have:=z7.ren hrn h hb hs1 (fun j hj=>(hk _ (hrn.low j hj)).trans (z1G hsub j hj)) (z1H hob);rw [hv',←z3f,hob'] at this;exact this
 simp only [Wg,Option.some.injEq] at hcc;simp only [ZZ,Option.some.injEq,Prod.mk.injEq] at hst;obtain ⟨rfl,rfl⟩:=hst
 refine ⟨{v:=v',ob:=ob',n:=out.n,rd:=true},by simp only [if_true];exact hat,?_⟩
 simp only [hcc];exact h'
end
end Go.GB
namespace Go.GB
variable {P:Program}
section
variable {n m:Nat} {R:St->Prop} {draw:Bool} {all:List AO} {after:List (List Nat)} {live:List Nat} {k:List It} {b b':Nat} {fl:List (Bool×Bool)} {ops:List AO} {st st':St} {d:Option Nat}
theorem Mid.zaH {f:FuncId} {s:Nat} {want gc:Bool} {args:List Ar} {vs':List V} {ps:List Bool} {s1:List (Nat×z6)} {m1:Nat} {x:V} (r:List Nat) (hg:ZU want (look st.env s)=some gc) (hv:z3e gc st args (fun vs ps=>some (vs,ps))=some (vs',ps))
  (h:gc=true->∃vs,z7 P f vs ⟨s1,m1⟩ {v:=x,rd:=true}/\V.YU (wj r b) vs=vs'/\V.bds m1 vs=true) (hr:(qJ r&&(r.all (fun k=>Nat.blt k b))&&Nat.beq r.length m1)=true)
  (hs1:zR m1 s1=true) (hsub:zar (wj r b) st.s.sto s1 m1) (hs:zO st d (.gd gc (x.ren (wj r b))) some=some st')
  (h':Mid P n m R draw all after live k b ((true,false)::fl) ops st') (hp:Z7 (ps.map fun p=>!gc||p):=by (repeat' (first |exact trivial|exact Bool.not_or_self _|exact yK _|exact yJ _|exact grd3 _ _|exact yL _ _|refine And.intro ?_ ?_|exact rfl|(simp;done)|(simp<;>omega)));done):Mid P n m R draw all after live k b fl (⟨d,some (s,want),.call f args⟩::ops) st:=by
 rw [wA] at hg;simp only [zO,V.force_eq,Zp,St.Zz,Option.some.injEq] at hs
 have e0:st'=st.app d {v:= .gd gc (x.ren (wj r b)),rd:=true}:=by rw [←hs];cases d<;>rfl
 rw [e0] at h';unfold Mid at h'⊢;simp only [evR,evO,hg,zh];refine .inl ⟨{v:=x.ren (wj r b),rd:=true},?_,⟨rfl,rfl⟩,?_⟩
 ·intro hgc;obtain ⟨vs,e2,e1,e3⟩:=h hgc;subst hgc
  have hpp:Z7 ps:=by
   have:∀l:List Bool,Z7 (l.map fun p=>!true||p)->Z7 l:=by
    intro l
    induction l with
    |nil=>exact fun h=>h
    |cons a r ih=>intro h;exact ⟨by simpa using h.1,ih h.2⟩
   exact this ps hp
  simp only [Bool.and_eq_true] at hr;obtain ⟨⟨hr1,hr2⟩,hr3⟩:=hr;have hm:r.length=m1:=Nat.eq_of_beq_eq_true hr3;subst hm;simp only [if_true];refine YS.le (qD.pure _) ?_;rw [z5F hv hpp,←e1];have hat:=z7.ren (zaC (n:=0) hr1 hr2) e2 e3 hs1 (z1G hsub) (z1H rfl);exact hat
 ·simpa using h'
end
end Go.GB
namespace Go.GB
theorem z7k {l:Nat->Lab} {w:World} {b off cap sz:Nat} {arr:Array Value} {e:TypeId} {fz:Nat×Nat} {xs:List (List T)} (hb:w.heap[b]?=some (.cells arr e fz)) (hcap:xs.length<=cap)
  (hsz:∀(i:Nat) (c:List T),xs[i]?=some c->c.length=sz) (hr:∀o,Rd l b o)
  (hx:∀(j:Nat) (x:T),xs.flatten[j]?=some x->∃v,arr[off+j]?=some v/\zP l w v x):zP l w (.slice (some ⟨b,off,none⟩) xs.length cap) (.lst xs):=by
 refine .lst _ cap sz xs b off (fun i j=>arr.toList.getD (off+(i*sz+j)) undef) hcap hsz (fun _ _ _ _ _ _=>rfl) (fun _ _ _ _ _ _=>hr _) ?_ ?_
 ·intro i j c x h1 h2;obtain ⟨v,h3,_⟩:=hx (i*sz+j) x (Ya xs hsz i j c x h1 h2);rw [cell_of_row w b _ arr e fz hb,Nat.add_assoc,h3];simp [h3]
 ·intro i j c x h1 h2;obtain ⟨v,h3,h4⟩:=hx (i*sz+j) x (Ya xs hsz i j c x h1 h2);simpa [h3] using h4
def LeZ (s:S) (m m':Nat) (x x':V):Prop:=∀(Λ:L) (v:Value),m<=Λ.nxt->Z5 Λ s->zu Λ v x->zu (Λ.cut m m') v x'
theorem LeZ.le {s:S} {m m':Nat} {x x':V} (hm:m<=m') (h:LeX m m' x x'):LeZ s m m' x x':=fun _ _ h1 _ h2=>h.cut hm h1 h2
theorem LeZ.gsl {s:S} {m m' k ver off len sz:Nat} {cs:List V} {ts:List T} {xs:List (List T)} (hk:m<=k) (hs:zi s.sto k=some (.gro ver cs)) (hle:off+len*sz<=cs.length) (hts:((cs.drop off).take (len*sz)).mapM V.zA=some ts) (hxs:xs.flatten=ts) (hn:xs.length=len) (hl:ZF sz xs=true):
  LeZ s m m' (.gsl k ver off len sz) (.t (.lst xs)):=by
 intro Λ v hm hr hv;subst hn;generalize hlen:xs.length=len at hv hts hle
 cases hv with
 |gsl hv hkn hn0 h=>
  have h0:Λ.frf k 0=ver:=(hr.sto k _ hs).2.1
  rcases h h0.symm with ⟨⟨a,rfl⟩,e⟩|⟨b,cap,N,rfl,hc,hcur,hN,hN2⟩
  ·rw [e] at hlen;have:xs=[]:=List.length_eq_zero_iff.1 hlen;subst this;exact .t .nil
  ·obtain ⟨arr,e,h2,h3,h4⟩:=hr.QC hs hcur;obtain ⟨k1,k2⟩:=z1T _ ts hts;obtain ⟨i,hlab,_⟩:=hcur
   have hlab':(Λ.cut m m').lab b= .fix none:=by simp [L.cut,hlab];omega
   subst hlen
   refine .t (z7k (sz:=sz) (b:=b) (w:=(Λ.cut m m').w) h2 hc (wG hl) (fun o=>by simp [Rd,hlab']) fun j x hj=>?_)
   rw [hxs] at hj;have hjl:j<ts.length:=(List.getElem?_eq_some_iff.1 hj).1;rw [←k1,List.length_take,List.length_drop] at hjl
   have hcj:((cs.drop off).take (xs.length*sz))[j]?=some (cs[off+j]'(by omega)):=by
    rw [List.getElem?_take,if_pos (by omega),List.getElem?_drop,List.getElem?_eq_getElem (by omega)]
   have hc1:=k2 j _ x hcj hj
   have harr:off+j<arr.size:=by omega
   exact ⟨arr[off+j],by simp [harr],((h4 (off+j) _ _ (by simp [harr]) (List.getElem?_eq_getElem (by omega))).zA hc1).cut⟩
inductive WI (s:S) (m m':Nat):List V->List V->Prop
 |nil:WI s m m' [] []
 |cons {x y:V} {xs ys:List V} (h:LeZ s m m' x y) (t:WI s m m' xs ys):WI s m m' (x::xs) (y::ys)
theorem WI.spec {s:S} {m m':Nat} {xs ys:List V} (h:WI s m m' xs ys):xs.length=ys.length/\∀(j:Nat) (c d:V),xs[j]?=some c->ys[j]?=some d->LeZ s m m' c d:=by
 induction h with
 |nil=>exact ⟨rfl,fun j c d h=>by simp at h⟩
 |cons h _ ih=>
  refine ⟨by simp [ih.1],fun j c d h1 h2=>?_⟩
  cases j with
  |zero=>simp at h1 h2;subst h1;subst h2;exact h
  |succ j=>exact ih.2 j c d (by simpa using h1) (by simpa using h2)
inductive Yq (s:S) (m m':Nat):z6->z6->Prop
 |le {o o':z6} (h:LeO m m' o o'):Yq s m m' o o'
 |cells {cs ds:List V} (h:WI s m m' cs ds):Yq s m m' (.cells cs) (.cells ds)
 |gro {r:Nat} {cs ds:List V} (h:WI s m m' cs ds):Yq s m m' (.gro r cs) (.gro r ds)
 |y9 {ns ms:List Nat} (h:∀i:Nat,(ns[i]?).getD 0=(ms[i]?).getD 0):Yq s m m' (.y9 ns) (.y9 ms)
def z6S (s:S) (m m':Nat) (e:List (Nat×V)):List (Nat×V)->Prop
 |[]=>True
 |(t,x)::r=>LeZ s m m' (look e t) x/\z6S s m m' e r
def z5G (s:S) (m m':Nat):List (Nat×z6)->Prop
 |[]=>True
 |(k,o)::r=>((k<m/\∃o',zi s.sto k=some o'/\Yq s m m' o' o)∨(m<=k/\k<m'/\o.fresh=true))/\z5G s m m' r
theorem z6S.at {s:S} {m m':Nat} {e:List (Nat×V)}:∀{e':List (Nat×V)},z6S s m m' e e'->∀t,LeZ s m m' (look e t) (look e' t)
 |[],_,t=>fun _ _ _ _ _=> .top
 |(k,x)::r,h,t=>by
  obtain ⟨h1,h2⟩:=h;by_cases e':k=t
  ·subst e';simpa [look,zi] using h1
  ·have:=z6S.at h2 t;simpa [look,zi,e'] using this
theorem z5G.at {s:S} {m m':Nat}:∀{s':List (Nat×z6)},z5G s m m' s'->∀k o,zi s' k=some o->
  (k<m/\∃o',zi s.sto k=some o'/\Yq s m m' o' o)∨(m<=k/\k<m'/\o.fresh=true)
 |[],_,k,o,h=>by simp [zi] at h
 |(j,x)::r,h,k,o,hk=>by
  obtain ⟨h1,h2⟩:=h;by_cases e':j=k
  ·subst e';simp [zi] at hk;subst hk;exact h1
  ·simp only [zi,e',if_false] at hk;exact z5G.at h2 k o hk
theorem Z5.Qo {Λ:L} {s:S} (h:Z5 Λ s) {s':S} {m m':Nat} (hm0:m<=Λ.nxt) (hm':m<=m') (hs:z5G s m m' s'.sto):Z5 (Λ.cut m m') s':=by
 have h0:Z5 (Λ.cut m m') ⟨[],0⟩:=h.Qj (s':=⟨[],0⟩) hm0 hm' trivial;refine ⟨fun k o hk=>?_,h0.inj,h0.new,h0.bnd,h0.frz,h0.w9,h0.wh,h0.z1A⟩
 rcases hs.at k o hk with ⟨hkm,o',ho',hle⟩|hfr
 ·cases hle with
  |le hle=>exact (h.Qj (s':=⟨[(k,o)],0⟩) hm0 hm' ⟨.inl ⟨hkm,o',ho',hle⟩,trivial⟩).sto k o (by simp [zi])
  |cells hle=>
   refine ⟨Nat.lt_of_lt_of_le hkm hm',?_⟩;obtain ⟨b,arr,e,e1,e2,e3,e4⟩:=(h.sto k _ ho').2;obtain ⟨q1,q2⟩:=hle.spec
   refine ⟨b,arr,e,yp e1 hkm,e2,by rw [e3];exact q1,fun j v d a1 a2=>?_⟩
   have hlt:j<_:=(List.getElem?_eq_some_iff.1 a2).1;rw [←q1] at hlt;have hc:=List.getElem?_eq_getElem hlt;exact q2 j _ d hc a2 Λ v hm0 h (e4 j v _ a1 hc)
  |gro hle=>
   refine ⟨Nat.lt_of_lt_of_le hkm hm',?_⟩;obtain ⟨g0,hr⟩:=(h.sto k _ ho').2;obtain ⟨q1,q2⟩:=hle.spec
   refine ⟨by simp [L.cut,hkm,g0],?_⟩
   rcases hr with ⟨e1,e2⟩|⟨b,arr,e,⟨i,e1,e1'⟩,e2,e3,e4⟩
   ·subst e1;have:=List.length_eq_zero_iff.1 q1.symm;exact .inl ⟨this,fun b i hb=>e2 b i (Z1 hb).1⟩
   ·refine .inr ⟨b,arr,e,⟨i,wx e1 hkm,fun b' i' h'=>e1' b' i' (Z1 h').1⟩,e2,by rw [←q1];exact e3,fun j v d a1 a2=>?_⟩
    have hlt:j<_:=(List.getElem?_eq_some_iff.1 a2).1;rw [←q1] at hlt;have hc:=List.getElem?_eq_getElem hlt;exact q2 j _ d hc a2 Λ v hm0 h (e4 j v _ a1 hc)
  |y9 hle=>
   refine ⟨Nat.lt_of_lt_of_le hkm hm',fun i=>?_⟩;have g:=(h.sto k _ ho').2 i;show (Λ.cut m m').frf k i=_;rw [←hle i];simp only [L.cut,hkm,if_true];exact g
 ·exact (h.Qj (s':=⟨[(k,o)],0⟩) hm0 hm' ⟨.inr hfr,trivial⟩).sto k o (by simp [zi])
theorem Rel.Qo {C:Ctx} {Λ:L} {st:St} {a:Act} (h:Rel C Λ st a) {st':St} {m:Nat} (hm:C.Λ.nxt<=m) (hm0:m<=Λ.nxt) (hm':m<=st'.s.nxt)
  (he:z6S st.s m st'.s.nxt st.env st'.env) (hs:z5G st.s m st'.s.nxt st'.s.sto):Rel C (Λ.cut m st'.s.nxt) st' a:=
 ⟨h.kp.cut hm hm',h.size,h.defers,fun t=>he.at t Λ _ hm0 h.s (h.env t),h.s.Qo hm0 hm' hs⟩
section
variable {P:Program} {n m:Nat} {R:St->Prop} {Q:Yz->St->Prop} {st:St}
theorem Sat.Qo {c:zW} {st':St} (k:Nat) (h:Sat P n m c st' Q) (h1:m<=k) (h2:k<=st.s.nxt) (h3:k<=st'.s.nxt) (he:z6S st.s k st'.s.nxt st.env st'.env) (hs:z5G st.s k st'.s.nxt st'.s.sto):Sat P n m c st Q:=by
 intro code e1 e2 e3 C Λ a e4 e5 e6 e7 e8;exact h code e1 e2 e3 C (Λ.cut k st'.s.nxt) a e4 e5 e6 (e7.Qo (by omega) (by omega) h3 he hs) Z
theorem Run.Qo {k k':List It} {c:zW} {st st':St} (j:Nat) (hk:yd 200 k= .c c::k') (h:Run P n m R (.c c::k') st') (h1:Nat.ble m j=true) (h2:Nat.ble j st.s.nxt=true) (h3:Nat.ble j st'.s.nxt=true) (he:z6S st.s j st'.s.nxt st.env st'.env) (hs:z5G st.s j st'.s.nxt st'.s.sto):Run P n m R k st:=
 Run.adv 200 hk (by
  simp only [Run,ZR] at h⊢
  exact Sat.Qo j h (zLB h1) (zLB h2) (zLB h3) he hs)
end
def gT {α:Type} (g:α->List T):α->List V:=fun x=>(g x).map V.t
theorem ze2 {α:Type} (g:α->List T) (l:List α):gE (gT g) l=((l.map g).flatten).map V.t:=by
 simp only [gE,List.map_flatten,List.map_map];rfl
theorem zb9 {α:Type} (g:α->List T) (l:List α):(gE (gT g) l).mapM V.zA=some (l.map g).flatten:=by
 rw [ze2];have:=z60 (fun t:T=>t) (l.map g).flatten;simpa [cE] using this
theorem zax {α:Type} {st:St} {sz:Nat} {y:V} {g:α->List T} {l:List α} (hy:y.zA=some (.lst (l.map g))) (hl:∀x,(g x).length=sz):z1F st sz y=some (gE (gT g) l,l.length):=by
 unfold z1F;rw [hy];simp only;rw [Qz hl l,ze2];simp
theorem z9x {α:Type} {f:α->List V} (h:∀x,(f x).all V.Zm=true) (l:List α):(gE f l).all V.Zm=true:=by
 simp only [List.all_eq_true] at h⊢;intro v hv;simp only [gE,List.mem_flatten,List.mem_map] at hv;obtain ⟨c,⟨x,_,rfl⟩,hv⟩:=hv;exact h x v hv
theorem z4d {α:Type} (g:α->List T) (x:α):(gT g x).all V.Zm=true:=by
 simp [gT,V.Zm]
theorem yr {α:Type} {g:α->List T} {sz:Nat} (h:∀x,(g x).length=sz) (x:α):(gT g x).length=sz:=by simp [gT,h]
theorem z8P {α:Type} {f:α->List V} {sz:Nat} (h:∀x,(f x).length=sz):∀(l:List α) (i j n:Nat) (e:α),l[i]?=some e->j+n<=sz->((gE f l).drop (i*sz+j)).take n=((f e).drop j).take n
 |[],i,j,n,e,hi,_=>by simp at hi
 |x::r,0,j,n,e,hi,hj=>by
  simp at hi;subst hi;simp only [gE,List.map_cons,List.flatten_cons,Nat.zero_mul,Nat.zero_add];rw [List.drop_append,List.take_append]
  have:n - ((f x).drop j).length=0:=by simp [h];omega
  rw [this];simp
 |x::r,i+1,j,n,e,hi,hj=>by
  have:=z8P h r i j n e (by simpa using hi) hj;simp only [gE,List.map_cons,List.flatten_cons] at this⊢;rw [List.drop_append]
  have e1:(f x).drop ((i+1)*sz+j)=[]:=by rw [List.drop_eq_nil_iff,h,Nat.add_mul];omega
  have e2:(i+1)*sz+j - (f x).length=i*sz+j:=by rw [h,Nat.add_mul];omega
  rw [e1,e2,List.nil_append,this]
theorem z4o (a b:List V):∀(vs:List V) (o:Nat),setAt (a++b) (a.length+o) vs=a++setAt b o vs
 |[],o=>rfl
 |v::r,o=>by
  have:=z4o a (b.set o v) r (o+1);simp only [setAt];rw [List.set_append,if_neg (by omega),Nat.add_sub_cancel_left,Nat.add_assoc,this]
theorem z1Y (b:List V):∀(vs a:List V) (o:Nat),o+vs.length<=a.length->setAt (a++b) o vs=setAt a o vs++b
 |[],a,o,_=>rfl
 |v::r,a,o,h=>by
  simp only [List.length_cons] at h;have:=z1Y b r (a.set o v) (o+1) (by simp;omega);simp only [setAt];rw [List.set_append,if_pos (by omega),this]
theorem zc7 {α:Type} {f:α->List V} {sz:Nat} (h:∀x,(f x).length=sz) (vs:List V):∀(l:List α) (i j:Nat) (e e':α),l[i]?=some e->j+vs.length<=sz->setAt (f e) j vs=f e'->setAt (gE f l) (i*sz+j) vs=gE f (l.set i e')
 |[],i,j,e,e',hi,_,_=>by simp at hi
 |x::r,0,j,e,e',hi,hj,he=>by
  simp at hi;subst hi;simp only [gE,List.map_cons,List.flatten_cons,Nat.zero_mul,Nat.zero_add,List.set_cons_zero];rw [z1Y _ _ _ _ (by rw [h];exact hj),he]
 |x::r,i+1,j,e,e',hi,hj,he=>by
  have:=zc7 h vs r i j e e' (by simpa using hi) hj he;simp only [gE,List.map_cons,List.flatten_cons,List.set_cons_succ] at this⊢
  have e2:(i+1)*sz+j=(f x).length+(i*sz+j):=by rw [h,Nat.add_mul];omega
  rw [e2,z4o,this]
theorem LeZ.gE {α:Type} {s:S} {m m' k ver len sz:Nat} (g:α->List T) (l:List α) {l':List α} (hk:m<=k) (hs:zi s.sto k=some (.gro ver (gE (gT g) l'))) (hl:l=l'.take len) (hn:len<=l'.length) (hg:∀x,(g x).length=sz):
  LeZ s m m' (.gsl k ver 0 len sz) (.t (.lst (l.map g))):=by
 subst hl;have hlen:=Y4 (f:=gT g) (yr hg)
 have e1:((Go.GB.gE (gT g) l').drop 0).take (len*sz)=Go.GB.gE (gT g) (l'.take len):=by
  have hsplit:=Q6 (gT g) (l'.take len) (l'.drop len);rw [List.take_append_drop] at hsplit;rw [List.drop_zero,hsplit,List.take_append]
  have e2:(Go.GB.gE (gT g) (l'.take len)).length=len*sz:=by rw [hlen,List.length_take,Nat.min_eq_left hn]
  rw [e2,Nat.sub_self,List.take_zero,List.append_nil,List.take_of_length_le (by omega)]
 refine LeZ.gsl (ts:=((l'.take len).map g).flatten) hk hs ?_ ?_ Z (by simp;omega) (Qz hg _)
 ·rw [hlen,Nat.zero_add];exact Nat.mul_le_mul_right _ hn
 ·rw [e1];exact zb9 g _
section
variable {P:Program} {n m:Nat} {R:St->Prop}
variable {draw:Bool} {all:List AO} {after:List (List Nat)} {live:List Nat} {k:List It} {b:Nat} {fl:List (Bool×Bool)} {ops:List AO} {st st':St} {d:Option Nat} {b':Nat}
theorem Mid.ze7 {α:Type} (f:α->List V) (l l2:List α) {sz by_ q ver:Nat} {x y:Ar} (hx:x.u st= .gsl q ver 0 l.length sz) (hq:zi st.s.sto q=some (.gro ver (gE f l))) (hy:z1F st sz (y.u st)=some (gE f l2,l2.length)) (hc:∀x,(f x).all V.Zm=true) (hsz:∀x,(f x).length=sz) (h1:(l.length+l2.length)*by_<=140737488355328) (h2:l.length+l2.length<=9223372036854775807)
  (hst:Yl b st d {v:= .gsl q (ver+1) 0 (l++l2).length sz,ob:=[(q,.gro (ver+1) (gE f (l++l2)))],rd:=true} (fun b' st'=>some (b',st'))=some (b',st'))
  (h':Mid P n m R draw all after live k b' ((true,true)::fl) ops st'):Mid P n m R draw all after live k b fl (⟨d,none,.app sz by_ x y⟩::ops) st:=by
 simp only [ZZ,Option.some.injEq,Prod.mk.injEq] at hst;obtain ⟨rfl,rfl⟩:=hst;refine Mid.opY Z (.z9r hx hq Z (Y4 hsz l) hy (z9x hc _) h1 h2) ?_;rw [List.length_append,Q6] at h';exact h'
theorem z77 {gc:Bool} {x:Ar} {q r o:Nat} {p:List Bool} (hx:rd gc st x=(.gpt q r o,p)):yI (x.v st)=true:=by
 unfold rd at hx;generalize x.v st=u at hx⊢
 cases u<;>simp only [V.un,Prod.mk.injEq] at hx<;>simp_all [yI]
theorem Mid.zcJ {α:Type} {f:α->List V} {l:List α} {e:α} {cs:List V} (i j:Nat) {sz nn:Nat} {x:Ar} {q ver o:Nat} (hx:rd true st x=(.gpt q ver o,[])) (hq:zi st.s.sto q=some (.gro ver (gE f l))) (hv:0<ver) (ho:o=i*sz+j) (hsz:∀x,(f x).length=sz) (he:l[i]?=some e) (hj:j+nn<=sz) (hc:((f e).drop j).take nn=cs) (hs:zO st d (.agg cs) some=some st')
  (h':Mid P n m R draw all after live k b ((true,false)::fl) ops st'):Mid P n m R draw all after live k b fl (⟨d,none,.ld true nn x⟩::ops) st:=by
 refine Mid.zdO (v:= .agg cs) (ps:=[true,true]) ?_ (z77 hx) ⟨rfl,rfl,trivial⟩ hs h';have hi:i<l.length:=(List.getElem?_eq_some_iff.1 he).1
 have hle:o+nn<=(gE f l).length:=by
  rw [Y4 hsz,ho];have:(i+1)*sz<=l.length*sz:=Nat.mul_le_mul_right _ hi;rw [Nat.add_mul] at this;omega
 simp only [zh,hx,hq,if_true];rw [if_pos hle,ho,z8P hsz l i j nn e he hj,hc];simp [hv]
theorem Mid.stG {α:Type} {f:α->List V} {l:List α} {e:α} (e':α) (i j:Nat) {sz nn:Nat} {x v:Ar} {vs:List V} {q ver o:Nat} (hx:x.u st= .gpt q ver o) (hq:zi st.s.sto q=some (.gro ver (gE f l))) (hv:(v.u st).parts=some vs) (hn:Nat.beq vs.length nn=true) (hc:vs.all V.Zm=true) (ho:o=i*sz+j) (hsz:∀x,(f x).length=sz) (he:l[i]?=some e) (hj:j+nn<=sz) (hset:setAt (f e) j vs=f e')
  (hst:Yl b st d {v:= .top,ob:=[(q,.gro ver (gE f (l.set i e')))],rd:=true} (fun b' st'=>some (b',st'))=some (b',st'))
  (h':Mid P n m R draw all after live k b' ((true,true)::fl) ops st'):Mid P n m R draw all after live k b fl (⟨d,none,.st nn x v⟩::ops) st:=by
 simp only [ZZ,Option.some.injEq,Prod.mk.injEq] at hst;obtain ⟨rfl,rfl⟩:=hst;have hn':=Nat.eq_of_beq_eq_true hn;have hi:i<l.length:=(List.getElem?_eq_some_iff.1 he).1
 have hle:o+nn<=(gE f l).length:=by
  rw [Y4 hsz,ho];have:(i+1)*sz<=l.length*sz:=Nat.mul_le_mul_right _ hi;rw [Nat.add_mul] at this;omega
 refine Mid.opY Z (.stG hx hq Z hv hn' hle hc) ?_;rw [ho,zc7 hsz vs l i j e e' he (by rw [hn'];exact hj) hset];exact h'
end
theorem V.zay (ρ:Nat->Nat) (a b:List V):V.YU ρ (a++b)=V.YU ρ a++V.YU ρ b:=by
 simp [V.y7]
theorem V.z8X {α:Type} {ρ:Nat->Nat} {f f':α->List V} (h:∀x,V.YU ρ (f x)=f' x):∀(l:List α),V.YU ρ (gE f l)=gE f' l
 |[]=>rfl
 |x::r=>by
  have:=V.z8X h r;simp only [gE] at this;simp only [gE,List.map_cons,List.flatten_cons,V.zay,h,this]
theorem z6.zZ {α:Type} {ρ:Nat->Nat} {f f':α->List V} (h:∀x,V.YU ρ (f x)=f' x) (r:Nat) (l:List α):(z6.gro r (gE f l)).ren ρ= .gro r (gE f' l):=by
 simp [z6.ren,V.z8X h]
end Go.GB
namespace Go.GB.C26
open Go.GB
variable {P:Program}
section
variable {s:zH} {name:Str} {here sp:List zp} {js:List zx} {ks:List zJ} {F:List (Str×Int)} {A:List Int}
theorem za1 (H:Pr P) (h:Sol s name here sp js ks F A) (hjl:js.length<=1000) (f:Str):z7 P 44 [s.v,.t (.str name),.t (.lst (here.map zp.enc)),.t (.str f)] ⟨[],0⟩ {v:= .gsl 5 (y6 s.z4.length sp js ks F A f 0 s.z4.length []).length 0 (y6 s.z4.length sp js ks F A f 0 s.z4.length []).length 3,ob:=[(5,.gro (y6 s.z4.length sp js ks F A f 0 s.z4.length []).length (gE (gT zp.enc) (y6 s.z4.length sp js ks F A f 0 s.z4.length [])))],n:=6}:=by
 have h1:=h.h1;have h2:=h.hN.z7y;have h3:=h.hN.jsL;refine z7.run H.i44 H.mixed Z Z ?_;refine fR Z ?_
 refine Mid.ZI [] (z4f H h) Z Z Z Z Z (by repeat' (first |exact trivial|exact rfl|refine And.intro ?_ ?_|exact (congrArg some (z6.zK _ _ _ _ _ _)).symm|exact (congrArg some (z6.zL _ _ _)).symm|(refine (congrArg some (z6.zZ ?_ _ _)).symm;intro _;rfl))) Z Z (ob':=[(2,.map false (mE sE iE F) none),(3,.cells (cE iE A)),(4,.cells (nC4 s sp js ks))]) ((by simp only [qW,z6.zK,z6.zL];rfl)) Z Z ?_
 refine fM Z ?_;refine lM Z Z Z ?_;refine fM Z ?_
 refine zD s.z4 (fun i (B:List zp)=>{env:=[(3,.t (.str f)),(9,.ptr 4 0),(10,.gsl 5 B.length 0 B.length 3),(21,.t (.int .i64 s.z4.length)),(22,.t (.int .i64 i))],s:=⟨[(2,.map false (mE sE iE F) none),(3,.cells (cE iE A)),(4,.cells (nC4 s sp js ks)),(5,.gro B.length (gE (gT zp.enc) B))],6⟩}) (fun r i B=>B.length<=i*js.length/\y6 s.z4.length sp js ks F A f 0 s.z4.length []=y6 s.z4.length sp js ks F A f i r.length B) 5 [] Z ⟨by simp,rfl⟩ rfl rfl rfl ?_ ?_
 ·rintro B ⟨_,hinv⟩;refine fR Z ?_;refine Run.zj Z Z (by simp) ?_;refine fR Z ?_
  have e:y6 s.z4.length sp js ks F A f 0 s.z4.length []=B:=by rw [hinv];rfl
  rw [e];refine Run.fin Z (z3.chg Z Z ?_ ?_)
  ·exact .le (.same Z)
  ·exact ⟨.inl ⟨zLB Z,_,rfl,.gro (.gE Z fun _=>rfl)⟩,trivial⟩
 ·rintro i x r B hi1 hi hd ⟨hl,hinv⟩ ih;have hl2:i*js.length<=2000*js.length:=Nat.mul_le_mul_right _ (by omega);refine fR Z ?_;refine Run.zm Z Z (by simp;omega) ?_;refine fR Z ?_;refine lM Z Z Z ?_;refine fM Z ?_
  refine zD js (fun k (C:List zp)=>{env:=[(3,.t (.str f)),(9,.ptr 4 0),(10,.gsl 5 C.length 0 C.length 3),(11,.t (.int .i64 i)),(21,.t (.int .i64 s.z4.length)),(22,.t (.int .i64 i)),(28,.t (.lst (js.map zx.enc))),(29,.t (.int .i64 js.length)),(30,.t (.int .i64 k))],s:=⟨[(2,.map false (mE sE iE F) none),(3,.cells (cE iE A)),(4,.cells (nC4 s sp js ks)),(5,.gro C.length (gE (gT zp.enc) C))],6⟩}) (fun r k C=>C.length<=i*js.length+k/\yW s.z4.length sp ks F A f i js B=yW s.z4.length sp ks F A f i r C) 6 B Z ⟨by simpa using hl,rfl⟩ rfl rfl rfl ?_ ?_
  ·rintro C ⟨hCl,hC⟩;refine fR Z ?_;refine Run.zj Z Z (by simp) ?_;refine fR Z ?_;refine aL Z Z Z Z Z ?_;refine fM Z ?_;exact zn 6 Z (ih C ⟨by rw [Nat.succ_mul];omega,by rw [hinv];simp only [List.length_cons,y6];rw [hC];rfl⟩) rfl rfl rfl
  ·rintro k j r' C hk1 hk hkd ⟨hCl,hC⟩ ihk;refine fR Z ?_;refine Run.zm Z Z (by simp;omega) ?_;refine fR Z ?_;refine Mid.zg Z Z Z hk1 Z Z ?_;refine fM Z ?_;refine Run.cond Z Z (fun hc=>?_) (fun hc=>?_)
   ·refine fR Z ?_;refine aL Z Z Z Z Z ?_;refine fM Z ?_;have hc2:(!(j.field==f)||!(j.graph==i)||j.ext)=true:=hc;exact zn 6 Z (ihk C ⟨by omega,by rw [hC];simp only [yW];rw [if_pos hc2]⟩) rfl rfl rfl
   ·have hc2:¬ (!(j.field==f)||!(j.graph==i)||j.ext)=true:=by
     intro e;rw [show (!(j.field==f)||!(j.graph==i)||j.ext)=false from hc] at e;cases e
    refine fR Z ?_
    refine Mid.YZ [4,2,3] (z8A (F:=F) H h.hN j (h.hN.jsO j (zMG hk1))) Z Z Z Z zT (by repeat' (first |exact trivial|exact rfl|refine And.intro ?_ ?_|exact (congrArg some (z6.zK _ _ _ _ _ _)).symm|exact (congrArg some (z6.zL _ _ _)).symm|(refine (congrArg some (z6.zZ ?_ _ _)).symm;intro _;rfl))) Z ?_
    refine fM Z ?_;refine Run.cond Z Z (fun hd'=>?_) (fun hd'=>?_)
    ·have hd2:Zv s.z4.length sp ks F A j>0:=by simpa using hd'
     refine fR Z ?_;refine Mid.call (zaD H j.yc (h.hN.jsO j (zMG hk1)).2.2) Z Z Z Z ?_;refine fM Z ?_;refine Mid.ze7 (gT zp.enc) C [(⟨(i:Int),Zv s.z4.length sp ks F A j,j.yc⟩:zp)] Z Z (zax Z (fun _=>rfl)) (z4d _) (yr (fun _=>rfl)) (by first |omega|(simp;omega)|(simp;done)) (by first |omega|(simp;omega)|(simp;done)) Z ?_;refine fM Z ?_;refine aL Z Z Z Z Z ?_;refine fM Z ?_;exact zn 6 Z (ihk (C++[⟨(i:Int),Zv s.z4.length sp ks F A j,j.yc⟩]) ⟨by simp;omega,by rw [hC];simp only [yW];rw [if_neg hc2,if_pos hd2]⟩) rfl rfl rfl
    ·have hd2:¬ Zv s.z4.length sp ks F A j>0:=by simpa using hd'
     refine fR Z ?_;refine aL Z Z Z Z Z ?_;refine fM Z ?_;exact zn 6 Z (ihk C ⟨by omega,by rw [hC];simp only [yW];rw [if_neg hc2,if_neg hd2]⟩) rfl rfl rfl
end
end Go.GB.C26
namespace Go.GB.C29
open Go.GB Go.GB.C26
variable {P:Program}
def z69 (g:Int) (t:Str) (j:zx):Bool:=(j.graph==g)&&(j.ty==t)
theorem zde (H:wa P) (j:zx) (g:Int) (t:Str):z7 P 71 [.agg [.t (.str j.ty),.t (.str j.field),.t (.int .i64 j.graph),.t (.bool j.ext),.t (.lst (j.req.map sE)),.t (.lst (j.yc.map sE))],.ptr 0 0,.ptr 1 0] ⟨[(0,.cells [.t (.int .i64 g)]),(1,.cells [.t (.str t)])],2⟩ {v:= .t (.bool (z69 g t j)),rd:=true}:=by
 refine z7.run H.i71 H.mixed Z Z ?_;refine fR Z ?_;refine Run.fin Z (z3.yA Z Z Z (by first |exact rfl|exact zT|exact tSto_bd) (.t (rfl)))
theorem z9W (H:wa P) (l:List zx) (hl:l.length<=100000) (g:Int) (t:Str):z7 P 72 [.t (.lst (l.map zx.enc)),.fn 71 [(0,0),(1,0)]] ⟨[(0,.cells [.t (.int .i64 g)]),(1,.cells [.t (.str t)])],2⟩ {v:= .t (.int .i64 (Qx (z69 g t) 0 l)),rd:=true}:=by
 refine z7.run H.i72 H.mixed Z Z ?_;refine fR Z ?_;refine lM Z Z Z ?_;refine fM Z ?_;refine zD l (fun i (_:Unit)=>{env:=[(0,.t (.lst (l.map zx.enc))),(1,.fn 71 [(0,0),(1,0)]),(7,.t (.int .i64 l.length)),(8,.t (.int .i64 i))],s:=⟨[(0,.cells [.t (.int .i64 g)]),(1,.cells [.t (.str t)])],2⟩}) (fun r i _=>Qx (z69 g t) 0 l=Qx (z69 g t) i r) 2 () Z Z Z Z Z ?_ ?_
 ·intro _ hinv;refine fR Z ?_;refine Run.zj Z Z (by simp) ?_;refine fR Z ?_;refine Run.fin Z (z3.yA Z Z Z (by first |exact rfl|exact zT|exact tSto_bd) (.t ((by rw [hinv];rfl))))
 ·intro i x r _ h1 hi hd hinv ih;refine fR Z ?_;refine Run.zm Z Z (by simp;omega) ?_;refine fR Z ?_;refine Mid.zg Z Z Z h1 Z Z ?_;refine fM Z ?_;refine Mid.z4D Z (zde H x g t) Z Z Z Z ?_;refine fM Z ?_;refine Run.cond Z Z (fun hc=>?_) (fun hc=>?_)
  ·refine fR Z ?_;refine Run.fin Z (z3.yA Z Z Z (by first |exact rfl|exact zT|exact tSto_bd) (.t ((by rw [hinv];simp [Qx,hc]))))
  ·refine fR Z ?_;refine aL Z Z Z Z Z ?_;refine fM Z ?_;exact zn 2 Z (ih () (by rw [hinv];simp [Qx,hc])) Z Z Z
theorem z4X (H:wa P) (l:List zx) (hl:l.length<=100000) (g:Int) (t:Str):z7 P 47 [.t (.lst (l.map zx.enc)),.fn 71 [(0,0),(1,0)]] ⟨[(0,.cells [.t (.int .i64 g)]),(1,.cells [.t (.str t)])],2⟩ {v:= .t (.bool (l.any (z69 g t))),rd:=true}:=by
 refine z7.run H.i47 H.mixed Z Z ?_;refine fR Z ?_;refine Mid.Qs (z9W H l hl g t) Z Z (by first |exact rfl|exact zT|exact tSto_bd) Z ?_;refine fM Z ?_;refine Run.fin Z (z3.yA Z Z Z (by first |exact rfl|exact zT|exact tSto_bd) (.t ((by rw [←z4U (z69 g t) l 0 (by omega)]))))
theorem z23 (H:wa P) (s:zH) (hj:s.zE.length<=100000) (xs:List (List T)) (g:Int) (t:Str):z7 P 46 [.ptr 0 0,.t (.int .i64 g),.t (.str t)] ⟨[(0,.cells [.t (.lst (s.z4.map sE)),.t s.doc,.t (.lst (s.keys.map zJ.enc)),.t (.lst (s.zE.map zx.enc)),.own 1 6 xs]),(1,.arr xs.length)],2⟩ {v:= .t (.bool (s.zE.any (z69 g t))),rd:=true}:=by
 refine z7.run H.i46 H.mixed Z Z ?_;refine fR Z ?_
 refine Mid.YZ [2,3] (z4X H s.zE hj g t) Z Z Z Z Z (by repeat' (first |exact trivial|exact rfl|refine And.intro ?_ ?_|exact (congrArg some (z6.zK _ _ _ _ _ _)).symm|exact (congrArg some (z6.zL _ _ _)).symm|(refine (congrArg some (z6.zZ ?_ _ _)).symm;intro _;rfl))) Z ?_
 refine fM Z ?_;refine Run.fin Z (z3.yA Z Z Z Z (.t Z))
def z0A (s:zH) (t:Str) (y:zp):Bool:=!s.zE.any (z69 y.graph t)
theorem zcS (H:wa P) (s:zH) (hj:s.zE.length<=100000) (xs:List (List T)) (t:Str) (y:zp) (o4:z6) (hb:zR 5 [(0,.cells [.ptr 1 0]),(1,.cells [.t (.lst (s.z4.map sE)),.t s.doc,.t (.lst (s.keys.map zJ.enc)),.t (.lst (s.zE.map zx.enc)),.own 2 6 xs]),(2,.arr xs.length),(3,.cells [.t (.str t)]),(4,o4)]=true):z7 P 45 [.agg [.t (.int .i64 y.graph),.t (.int .i64 y.depth),.t (.lst (y.yc.map sE))],.ptr 0 0,.ptr 3 0] ⟨[(0,.cells [.ptr 1 0]),(1,.cells [.t (.lst (s.z4.map sE)),.t s.doc,.t (.lst (s.keys.map zJ.enc)),.t (.lst (s.zE.map zx.enc)),.own 2 6 xs]),(2,.arr xs.length),(3,.cells [.t (.str t)]),(4,o4)],5⟩ {v:= .t (.bool (z0A s t y)),rd:=true}:=by
 refine z7.run H.i45 H.mixed Z Z ?_;refine fR Z ?_
 refine Mid.YZ [1,2] (z23 H s hj xs y.graph t) Z Z Z Z Z (by repeat' (first |exact trivial|exact rfl|refine And.intro ?_ ?_|exact (congrArg some (z6.zK _ _ _ _ _ _)).symm|exact (congrArg some (z6.zL _ _ _)).symm|(refine (congrArg some (z6.zZ ?_ _ _)).symm;intro _;rfl))) Z ?_
 refine fM Z ?_;refine Run.fin Z (z3.yA Z Z Z hb (.t Z))
theorem zdc (H:wa P) (s:zH) (hj:s.zE.length<=100000) (xs:List (List T)) (t:Str) (y:zp) (o4 o5:z6) (hb:zR 6 [(0,.cells [.ptr 1 0]),(1,.cells [.t (.lst (s.z4.map sE)),.t s.doc,.t (.lst (s.keys.map zJ.enc)),.t (.lst (s.zE.map zx.enc)),.own 2 6 xs]),(2,.arr xs.length),(3,.cells [.t (.str t)]),(4,o4),(5,o5)]=true):z7 P 45 [.agg [.t (.int .i64 y.graph),.t (.int .i64 y.depth),.t (.lst (y.yc.map sE))],.ptr 0 0,.ptr 3 0] ⟨[(0,.cells [.ptr 1 0]),(1,.cells [.t (.lst (s.z4.map sE)),.t s.doc,.t (.lst (s.keys.map zJ.enc)),.t (.lst (s.zE.map zx.enc)),.own 2 6 xs]),(2,.arr xs.length),(3,.cells [.t (.str t)]),(4,o4),(5,o5)],6⟩ {v:= .t (.bool (z0A s t y)),rd:=true}:=by
 refine z7.run H.i45 H.mixed Z Z ?_;refine fR Z ?_
 refine Mid.YZ [1,2] (z23 H s hj xs y.graph t) Z Z Z Z Z (by repeat' (first |exact trivial|exact rfl|refine And.intro ?_ ?_|exact (congrArg some (z6.zK _ _ _ _ _ _)).symm|exact (congrArg some (z6.zL _ _ _)).symm|(refine (congrArg some (z6.zZ ?_ _ _)).symm;intro _;rfl))) Z ?_
 refine fM Z ?_;refine Run.fin Z (z3.yA Z Z Z hb (.t Z))
end Go.GB.C29
namespace Go.GB
section
variable {P:Program} {n m:Nat} {R:St->Prop}
variable {draw:Bool} {all:List AO} {after:List (List Nat)} {live:List Nat} {k:List It} {b:Nat} {fl:List (Bool×Bool)} {ops:List AO} {st st':St} {d:Option Nat} {b':Nat}
theorem Mid.z7j {sz q ver off len:Nat} {z:List V} {x:Ar} {cs cs':List V} (hx:x.u st= .gsl q ver off len sz) (hq:zi st.s.sto q=some (.gro ver cs)) (ho:off+len*sz<=cs.length) (hcs:setAt cs off (List.replicate len z).flatten=cs')
  (hst:Yl b st d {v:= .top,ob:=[(q,.gro ver cs')],rd:=true} (fun b' st'=>some (b',st'))=some (b',st'))
  (h':Mid P n m R draw all after live k b' ((true,true)::fl) ops st'):Mid P n m R draw all after live k b fl (⟨d,none,.nw (.zaS sz z x)⟩::ops) st:=by
 subst hcs;simp only [ZZ,Option.some.injEq,Prod.mk.injEq] at hst;obtain ⟨rfl,rfl⟩:=hst;exact Mid.opY Z (.z7j hx hq Z ho) h'
end
theorem zo.app {m m':Nat} {a b c d:List V} (h:zo m m' a b) (k:zo m m' c d):zo m m' (a++c) (b++d):=by
 induction h with
 |nil=>exact k
 |cons h _ ih=>exact .cons h ih
theorem z2B:∀(vs cs:List V) (off:Nat),off+vs.length=cs.length->setAt cs off vs=cs.take off++vs
 |[],cs,off,h=>by simp at h;simp [setAt,h]
 |v::r,cs,off,h=>by
  simp only [setAt];simp only [List.length_cons] at h;rw [z2B r (cs.set off v) (off+1) (by simp;omega)];apply List.ext_getElem?;intro i;by_cases h1:i<off
  ·rw [List.getElem?_append_left (by simp;omega),List.getElem?_append_left (by simp;omega),List.getElem?_take,List.getElem?_take,if_pos (by omega),if_pos h1,List.getElem?_set,if_neg (by omega)]
  ·by_cases h2:i=off
   ·subst h2;rw [List.getElem?_append_left (by simp;omega),List.getElem?_append_right (by simp;omega),List.getElem?_take,if_pos (by omega),List.getElem?_set,if_pos rfl,if_pos (by omega)];simp [Nat.min_eq_left (show i<=cs.length by omega)]
   ·rw [List.getElem?_append_right (by simp;omega),List.getElem?_append_right (by simp;omega)];simp only [List.length_take,List.length_set];rw [Nat.min_eq_left (by omega),Nat.min_eq_left (by omega)]
    have:i - off=(i - (off+1))+1:=by omega
    rw [this];simp
theorem zcX {α:Type} {f:α->List V} {sz:Nat} (h:∀x,(f x).length=sz) (l:List α) (j:Nat):(gE f l).take (j*sz)=gE f (l.take j):=by
 by_cases hj:j<=l.length
 ·have e:gE f l=gE f (l.take j)++gE f (l.drop j):=by rw [←Q6,List.take_append_drop]
  have hl:(gE f (l.take j)).length=j*sz:=by rw [Y4 h];simp [Nat.min_eq_left hj]
  rw [e,←hl,List.take_left]
 ·rw [List.take_of_length_le (by rw [Y4 h];exact Nat.mul_le_mul_right _ (by omega)),List.take_of_length_le (by omega)]
end Go.GB
namespace Go.GB.C29
open Go.GB Go.GB.C26
variable {P:Program}
def z9U (p:zp->Bool) (l:List zp):Int:=match l.findIdx? p with|some i=>i|none=>-1
theorem gTb (m:Nat) (A:List zp):V.bds m (gE (gT zp.enc) A)=true:=V.z50 (fun x=>by simp [gT,zp.enc,V.bds,V.bd]) A
theorem zej (s:zH) (xs:List (List T)) (t:Str) (N:Nat) (A:List zp):zR 5 [(0,.cells [.ptr 1 0]),(1,.cells [.t (.lst (s.z4.map sE)),.t s.doc,.t (.lst (s.keys.map zJ.enc)),.t (.lst (s.zE.map zx.enc)),.own 2 6 xs]),(2,.arr xs.length),(3,.cells [.t (.str t)]),(4,.gro N (gE (gT zp.enc) A))]=true:=by
 simp [zR,z6.bd,V.bds,V.bd,gTb]
theorem zaj (H:wa P) (s:zH) (hj:s.zE.length<=100000) (xs:List (List T)) (t:Str) (l:List zp) (hl:l.length<=1000000):z7 P 68 [.gsl 4 l.length 0 l.length 3,.fn 45 [(0,0),(3,0)]] ⟨[(0,.cells [.ptr 1 0]),(1,.cells [.t (.lst (s.z4.map sE)),.t s.doc,.t (.lst (s.keys.map zJ.enc)),.t (.lst (s.zE.map zx.enc)),.own 2 6 xs]),(2,.arr xs.length),(3,.cells [.t (.str t)]),(4,.gro l.length (gE (gT zp.enc) l))],5⟩ {v:= .t (.int .i64 (z9U (z0A s t) l)),rd:=true}:=by
 have hb:=zej s xs t l.length l;refine z7.run H.i68 H.mixed Z Z ?_;refine fR Z ?_;refine pu Z ?_;refine fM Z ?_;refine zD l (fun i (_:Unit)=>{env:=[(0,.gsl 4 l.length 0 l.length 3),(1,.fn 45 [(0,0),(3,0)]),(7,.t (.int .i64 l.length)),(8,.t (.int .i64 i))],s:=⟨[(0,.cells [.ptr 1 0]),(1,.cells [.t (.lst (s.z4.map sE)),.t s.doc,.t (.lst (s.keys.map zJ.enc)),.t (.lst (s.zE.map zx.enc)),.own 2 6 xs]),(2,.arr xs.length),(3,.cells [.t (.str t)]),(4,.gro l.length (gE (gT zp.enc) l))],5⟩}) (fun r i _=>l.findIdx? (z0A s t)=((l.drop i).findIdx? (z0A s t)).map (· +i)) 5 () Z (by simp) Z Z Z ?_ ?_
 ·intro _ hinv;rw [List.drop_length] at hinv;simp only [List.findIdx?_nil,Option.map_none] at hinv
  have e:z9U (z0A s t) l=-1:=by simp only [z9U,hinv]
  rw [e];refine fR Z ?_;refine Run.zj Z Z (by simp) ?_;refine fR Z ?_;refine Run.fin Z (z3.yA Z Z Z hb (.t Z))
 ·intro i x r _ h1 hi hd hinv ih
  have hdr:l.drop i=x::l.drop (i+1):=by
   obtain ⟨h2,rfl⟩:=List.getElem?_eq_some_iff.1 h1;exact List.drop_eq_getElem_cons h2
  rw [hdr,List.findIdx?_cons] at hinv;refine fR Z ?_;refine Run.zm Z Z (by simp;omega) ?_;refine fR Z ?_;refine pu Z ?_;refine Mid.zcJ (i) 0 (sz:=3) Z Z (by omega) (by omega) (yr (fun _=>rfl)) (h1) (by decide) Z Z ?_;skip;refine Mid.z4D Z (zcS H s hj xs t x _ hb) Z Z hb Z ?_;refine fM Z ?_;by_cases hc:z0A s t x=true
  ·rw [if_pos hc] at hinv
   have e:z9U (z0A s t) l=i:=by simp [z9U,hinv]
   rw [e];refine Run.zm Z Z hc ?_;refine fR Z ?_;refine Run.fin Z (z3.yA Z Z Z hb (.t Z))
  ·rw [if_neg hc] at hinv;refine Run.zj Z Z (by simpa using hc) ?_;refine fR Z ?_;refine aL Z Z Z Z Z ?_;refine fM Z ?_;exact zn 5 Z (ih () (by rw [hinv,Option.map_map];congr 1;funext y;simp;omega)) Z Z Z
end Go.GB.C29
namespace Go.GB.C29
open Go.GB Go.GB.C26
variable {P:Program}
def yT (s:zH) (t:Str) (l:List zp):List zp:=l.filter fun y=>!z0A s t y
def zS:zp:=⟨0,0,[]⟩
theorem z6y {m m':Nat}:∀k:Nat,zo m m' (List.replicate k [V.t (.int .i64 0),V.t (.int .i64 0),V.zI]).flatten (gE (gT zp.enc) (List.replicate k zS))
 |0=> .nil
 |k+1=>by
  have ih:=z6y (m:=m) (m':=m') k;simp only [List.replicate_succ,List.flatten_cons,gE,List.map_cons] at ih⊢;exact .cons .t (.cons .t (.cons .Zh ih))
theorem zg9 (s:zH) (xs:List (List T)) (t:Str) (N:Nat) (A:List zp) (x:zp):zR 6 [(0,.cells [.ptr 1 0]),(1,.cells [.t (.lst (s.z4.map sE)),.t s.doc,.t (.lst (s.keys.map zJ.enc)),.t (.lst (s.zE.map zx.enc)),.own 2 6 xs]),(2,.arr xs.length),(3,.cells [.t (.str t)]),(4,.gro N (gE (gT zp.enc) A)),(5,.cells [.t (.int .i64 x.graph),.t (.int .i64 x.depth),.t (.lst (x.yc.map sE))])]=true:=by
 simp [zR,z6.bd,V.bds,V.bd,gTb]
structure z68 (s:zH) (t:Str) (l:List zp) (i:Nat) (A:List zp) (j:Nat):Prop where
 len:A.length=l.length
 tk:A.take j=yT s t (l.take i)
 dr:A.drop i=l.drop i
 ji:j<i
 jl:j=(yT s t (l.take i)).length
theorem z68.skip {s:zH} {t:Str} {l A:List zp} {i j:Nat} {x:zp} (h:z68 s t l i A j) (hx:l[i]?=some x) (hb:z0A s t x=true):z68 s t l (i+1) A j:=by
 have e:yT s t (l.take (i+1))=yT s t (l.take i):=by
  rw [List.take_add_one,hx];simp [yT,hb]
 refine ⟨h.len,by rw [e,h.tk],?_,by have:=h.ji;omega,by rw [e];exact h.jl⟩
 have:=congrArg (List.drop 1) h.dr;simpa [Nat.add_comm] using this
theorem z68.yo {s:zH} {t:Str} {l A:List zp} {i j:Nat} {x:zp} (h:z68 s t l i A j) (hx:l[i]?=some x) (hb:z0A s t x=false):z68 s t l (i+1) (A.set j x) (j+1):=by
 have hil:=(List.getElem?_eq_some_iff.1 hx).1;have hji:=h.ji;have hAl:=h.len
 have e:yT s t (l.take (i+1))=yT s t (l.take i)++[x]:=by
  rw [List.take_add_one,hx];simp [yT,hb]
 refine ⟨by simp [h.len],?_,?_,by omega,by rw [e,List.length_append,←h.jl];rfl⟩
 ·rw [e,←h.tk,List.take_add_one,List.take_set_of_le (Nat.le_refl _),List.getElem?_set_self (by omega)];rfl
 ·rw [List.drop_set_of_lt (by omega)];have:=congrArg (List.drop 1) h.dr;simpa [Nat.add_comm] using this
theorem z9l (H:wa P) (s:zH) (hj:s.zE.length<=100000) (xs:List (List T)) (t:Str) (l:List zp) (hl:l.length<=1000000):z7 P 43 [.gsl 4 l.length 0 l.length 3,.fn 45 [(0,0),(3,0)]] ⟨[(0,.cells [.ptr 1 0]),(1,.cells [.t (.lst (s.z4.map sE)),.t s.doc,.t (.lst (s.keys.map zJ.enc)),.t (.lst (s.zE.map zx.enc)),.own 2 6 xs]),(2,.arr xs.length),(3,.cells [.t (.str t)]),(4,.gro l.length (gE (gT zp.enc) l))],5⟩ {v:= .gsl 4 l.length 0 (yT s t l).length 3,ob:=[(4,.gro l.length (gE (gT zp.enc) (yT s t l++List.replicate (l.length - (yT s t l).length) zS)))],n:=0,rd:=true}:=by
 have hb:=zej s xs t l.length l;have hgl:(yT s t l).length<=l.length:=List.length_filter_le _ _;have hi:=zaj H s hj xs t l hl;unfold z9U at hi
 cases hx:l.findIdx? (z0A s t) with
 |none=>
  rw [hx] at hi
  have e:yT s t l=l:=by
   refine List.filter_eq_self.2 fun y hy=>?_;have:=List.findIdx?_eq_none_iff.1 hx y hy;simp [this]
  rw [e,Nat.sub_self];refine z7.run H.i43 H.mixed Z Z ?_;refine fR Z ?_;refine Mid.Qs (hi) Z Z hb Z ?_;refine fM Z ?_;refine Run.zm Z Z Z ?_;refine fR Z ?_;refine Run.fin Z (z3.chg Z Z ?_ ?_)
  ·exact .le (.same Z)
  ·refine ⟨.inl ⟨zLB Z,_,rfl,.cells (.same Z)⟩,.inl ⟨zLB Z,_,rfl,.cells (.same Z)⟩,.inl ⟨zLB Z,_,rfl,.arr Z⟩,.inl ⟨zLB Z,_,rfl,.cells (.same Z)⟩,.inl ⟨zLB Z,_,rfl,.gro (.gE (by simp) fun _=>rfl)⟩,trivial⟩
 |some k=>
  rw [hx] at hi;obtain ⟨hk,hk2,hk3⟩:=List.findIdx?_eq_some_iff_getElem.1 hx;have hx0:l[k]?=some l[k]:=List.getElem?_eq_getElem hk
  have g0:yT s t (l.take k)=l.take k:=by
   refine List.filter_eq_self.2 fun y hy=>?_;obtain ⟨j,hj1,hj2⟩:=List.getElem_of_mem hy;rw [List.length_take] at hj1;have:=hk3 j (by omega);rw [List.getElem_take] at hj2;rw [hj2] at this;simpa using this
  have hD0:z68 s t l (k+1) l k:=by
   have e:yT s t (l.take (k+1))=l.take k:=by
    rw [List.take_add_one,hx0];simp only [yT,List.filter_append] at g0⊢;rw [g0];simp [hk2]
   exact ⟨rfl,e.symm,rfl,by omega,by rw [e];simp;omega⟩
  refine z7.run H.i43 H.mixed Z Z ?_;refine fR Z ?_;refine Mid.Qs (hi) Z Z hb Z ?_;refine fM Z ?_;refine Run.zj Z Z (by simp) ?_;refine fR Z ?_;refine aL Z Z Z Z Z ?_;refine fM Z ?_;refine zD (l.drop (k+1)) (fun i (B:List zp×Nat)=>{env:=[(0,.gsl 4 l.length 0 l.length 3),(1,.fn 45 [(0,0),(3,0)]),(5,.t (.int .i64 B.2)),(6,.t (.int .i64 (k+1+i:Nat)))],s:=⟨[(0,.cells [.ptr 1 0]),(1,.cells [.t (.lst (s.z4.map sE)),.t s.doc,.t (.lst (s.keys.map zJ.enc)),.t (.lst (s.zE.map zx.enc)),.own 2 6 xs]),(2,.arr xs.length),(3,.cells [.t (.str t)]),(4,.gro l.length (gE (gT zp.enc) B.1))],5⟩}) (fun r i B=>z68 s t l (k+1+i) B.1 B.2) 5 (l,k) Z hD0 Z Z Z ?_ ?_
  ·rintro ⟨A,j⟩ hinv;dsimp only at hinv;dsimp only
   have hlen:k+1+(l.drop (k+1)).length=l.length:=by simp;omega
   have hdl:(l.drop (k+1)).length=l.length - (k+1):=by simp
   rw [hlen] at hinv;have hji:=hinv.ji;have hAl:=hinv.len;have htk:=hinv.tk;have hjl:=hinv.jl;rw [List.take_length] at htk hjl;have hz:∀x:zp,(gT zp.enc x).length=3:=yr (fun _=>rfl);refine fR Z ?_;refine pu Z ?_;refine fM Z ?_;refine Run.zj Z Z (by simp;omega) ?_;refine fR Z ?_;refine pu Z ?_;refine Mid.z7j (cs':=gE (gT zp.enc) (A.take j)++(List.replicate (l.length - j) [V.t (.int .i64 0),V.t (.int .i64 0),V.zI]).flatten) Z Z ?_ ?_ Z ?_
   ·rw [Y4 hz];simp;omega
   ·simp only [Int.toNat_natCast,Nat.zero_add];rw [z2B _ _ _ (by rw [Y4 hz];simp;omega),zcX hz]
   refine fM Z ?_;refine pu Z ?_;refine fM Z ?_;refine Run.fin Z (z3.chg Z Z ?_ ?_)
   ·exact .le (.Qp Z (by simp) (by simp [hjl]) (zLB Z))
   ·refine ⟨.inl ⟨zLB Z,_,rfl,.cells (.same Z)⟩,.inl ⟨zLB Z,_,rfl,.cells (.same Z)⟩,.inl ⟨zLB Z,_,rfl,.arr Z⟩,.inl ⟨zLB Z,_,rfl,.cells (.same Z)⟩,.inl ⟨zLB Z,_,rfl,.gro (by rw [Q6,htk,←hjl];exact .app (.gE rfl fun _=>rfl) (z6y _))⟩,trivial⟩
  ·rintro i x r ⟨A,j⟩ h1 hi' hd hinv ih;dsimp only at hinv;dsimp only;rw [List.getElem?_drop] at h1;have hlt:=(List.getElem?_eq_some_iff.1 h1).1;have hji:=hinv.ji;have hAl:=hinv.len
   have hA1:A[k+1+i]?=some x:=by
    have:=congrArg (fun z=>z[0]?) hinv.dr;simpa [h1] using this
   have hAj:A[j]?=some A[j]:=List.getElem?_eq_getElem (by omega);refine fR Z ?_;refine pu Z ?_;refine fM Z ?_;refine Run.zm Z Z (by simp;omega) ?_;refine fR Z ?_;refine pu Z ?_;refine Mid.zcJ ((k+1+i)) 0 (sz:=3) Z Z (by omega) (by omega) (yr (fun _=>rfl)) (hA1) (by decide) Z Z ?_;refine fM Z ?_;refine Mid.z4D Z (zdc H s hj xs t x _ _ (zg9 s xs t l.length A x)) Z Z (zg9 s xs t l.length A x) Z ?_;refine fM Z ?_
   cases hbx:z0A s t x with
   |true=>
    refine Run.zj Z Z Z ?_;refine fR Z ?_;refine aL Z Z Z Z Z ?_;refine fM Z ?_;exact zn 5 Z (ih (A,j) (hinv.skip h1 hbx)) Z Z Z
   |false=>
    refine Run.zm Z Z Z ?_;refine fR Z ?_;refine pu Z ?_;refine Mid.stG (x) (j) 0 (sz:=3) Z Z Z Z Z (by omega) (yr (fun _=>rfl)) (hAj) (by decide) Z Z ?_;refine fM Z ?_;refine aL Z Z Z Z Z ?_;refine fM Z ?_;refine aL Z Z Z Z Z ?_;refine fM Z ?_;exact zn 5 Z (ih (A.set j x,j+1) (hinv.yo h1 hbx)) Z Z Z
end Go.GB.C29
namespace Go.GB.C29
open Go.GB Go.GB.C26
variable {P:Program}
structure Place where
 parent:Int
 hop:Hop
 ty:Str
 Zd:List zp
 z5:List za
def Place.enc (p:Place):List T:=[.int .i64 p.parent,.str p.hop.on,.str p.hop.key,.str p.ty,.lst (p.Zd.map zp.enc),.lst (p.z5.map za.enc)]
def Place.v (p:Place):V:= .agg [.t (.int .i64 p.parent),.t (.str p.hop.on),.t (.str p.hop.key),.t (.str p.ty),.t (.lst (p.Zd.map zp.enc)),.t (.lst (p.z5.map za.enc))]
structure Env (s:zH) (ds:List Def) (G:List zp->Prop) (Ch:Str->List zp->Str->List zp):Prop where
 doc:s.doc= .lst (ds.map Def.enc)
 zbz:Z8 ds
 js:s.zE.length<=100000
 ok:∀ty here f,G here->∃sp js ks F A,Sol s ty here sp js ks F A/\js.length<=1000/\y6 s.z4.length sp js ks F A f 0 s.z4.length []=Ch ty here f
 cl:∀ty here f t,G here->G (yT s t (Ch ty here f))
 len:∀ty here f,G here->(Ch ty here f).length<=1000000
section
variable {s:zH} {ds:List Def} {G:List zp->Prop} {Ch:Str->List zp->Str->List zp}
variable (s) (ds) (Ch) in
def WE:Nat->Place->List Place->List Place
 |0,_,out=>out
 |k+1,p,out=>p.z5.foldl (fun o x=>(C11.y4 ds x.ty.name).foldl (fun o t=>if (onF x.z5 t).isEmpty then o else WE k ⟨out.length,⟨p.ty,x.key⟩,t,yT s t (Ch p.ty p.Zd x.name),onF x.z5 t⟩ o) o) (out++[p])
theorem Yj {α β:Type} {f:List β->α->List β} (h:∀o x,o.length<=(f o x).length):∀(l:List α) (o:List β),o.length<=(l.foldl f o).length
 |[],o=>Nat.le_refl _
 |x::r,o=>Nat.le_trans (h o x) (Yj h r _)
theorem z0W:∀(k:Nat) (p:Place) (o:List Place),o.length<=(WE s ds Ch k p o).length
 |0,p,o=>Nat.le_refl _
 |k+1,p,o=>by
  simp only [WE];refine Nat.le_trans (by simp) (Yj (fun o x=>Yj (fun o t=>?_) _ _) _ (o++[p]));split
  ·exact Nat.le_refl _
  ·exact z0W k _ _
abbrev stepT (s:zH) (ds:List Def) (Ch:Str->List zp->Str->List zp) (k:Nat) (p:Place) (n:Nat) (x:za) (o:List Place) (t:Str):List Place:=
 if (onF x.z5 t).isEmpty then o else WE s ds Ch k ⟨n,⟨p.ty,x.key⟩,t,yT s t (Ch p.ty p.Zd x.name),onF x.z5 t⟩ o
abbrev yq (s:zH) (ds:List Def) (Ch:Str->List zp->Str->List zp) (k:Nat) (p:Place) (n:Nat) (o:List Place) (x:za):List Place:=(C11.y4 ds x.ty.name).foldl (stepT s ds Ch k p n x) o
theorem z3b (k:Nat) (p:Place) (n:Nat) (x:za) (o:List Place) (t:Str):o.length<=(stepT s ds Ch k p n x o t).length:=by
 unfold stepT;split
 ·exact Nat.le_refl _
 ·exact z0W k _ _
theorem z2R (k:Nat) (p:Place) (n:Nat) (o:List Place) (x:za):o.length<=(yq s ds Ch k p n o x).length:=Yj (fun o t=>z3b k p n x o t) _ _
theorem wI (k:Nat) (p:Place) (o:List Place):WE s ds Ch (k+1) p o=p.z5.foldl (yq s ds Ch k p o.length) (o++[p]):=rfl
structure zgr (G:List zp->Prop) (p:Place):Prop where
 pk:∀x,x∈p.z5->x.Ok
 pl:p.z5.length*160<=140737488355328
 g:G p.Zd
theorem z5q {l:List za} {t:Str} {x:za} (h:x∈onF l t):x∈l:=(List.mem_filter.1 h).1
theorem z8M (l:List za) (t:Str):(onF l t).length<=l.length:=List.length_filter_le _ _
theorem qV (f:za->Bool):∀l:List za,za.zQ (l.filter f)<=za.zQ l
 |[]=>Nat.le_refl _
 |x::r=>by
  have ih:=qV f r;simp only [List.filter_cons];split
  ·simp only [za.zQ];omega
  ·simp only [za.zQ];omega
theorem Wt:∀{l:List za} {x:za},x∈l->x.cnt<=za.zQ l
 |y::r,x,h=>by
  simp only [za.zQ]
  rcases List.mem_cons.1 h with rfl|h
  ·omega
  ·have:=Wt h;omega
theorem qF (t:Def) (nm:Str):∀(r pre:List Def),(C11.Yr t nm pre r).length<=r.length
 |[],_=>by simp [C11.Yr]
 |o::r,pre=>by
  have ih:=qF t nm r (pre++[o]);simp only [C11.Yr];split
  ·simp;omega
  ·simp;omega
theorem qM (ds:List Def) (nm:Str):(C11.y4 ds nm).length<=ds.length:=by
 unfold C11.y4;split
 ·simp
 ·exact qF _ _ _ _
def zek (P:Program) (s:zH) (ds:List Def) (G:List zp->Prop) (Ch:Str->List zp->Str->List zp) (k:Nat):Prop:=
 ∀(p:Place) (o:List Place),zgr G p->za.zQ p.z5<k->(WE s ds Ch k p o).length<=1000000->
  z7 P 25 [.ptr 0 0,p.v] ⟨[(0,.cells [.t (.lst (s.z4.map sE)),.t s.doc,.t (.lst (s.keys.map zJ.enc)),.t (.lst (s.zE.map zx.enc)),.own 1 6 (o.map Place.enc)]),(1,.arr o.length)],2⟩ {v:= .tup [],ob:=[(0,.cells [.t (.lst (s.z4.map sE)),.t s.doc,.t (.lst (s.keys.map zJ.enc)),.t (.lst (s.zE.map zx.enc)),.own 1 6 ((WE s ds Ch k p o).map Place.enc)]),(1,.arr (WE s ds Ch k p o).length)],n:=0,rd:=true}
theorem zbc (H:wa P) (E:Env s ds G Ch) (k:Nat) (hrec:zek P s ds G Ch k):zek P s ds G Ch (k+1):=by
 intro p o hp hc hl;have hpl:=hp.pl;rw [wI] at hl⊢;have hl0:=Yj (f:=yq s ds Ch k p o.length) (fun o' x=>z2R k p o.length o' x) p.z5 (o++[p]);generalize hfin:p.z5.foldl (yq s ds Ch k p o.length) (o++[p])=fin at hl hl0⊢
 have hol:o.length<=1000000:=by simp at hl0;omega
 refine z7.run H.i25 H.mixed Z Z ?_;refine fR Z ?_;refine lM Z Z Z ?_;refine fM Z ?_;refine apM Place.enc o [p] Z Z Z Z Z ?_ (h1:=by first |omega|(simp;omega)|(simp;done)) (h2:=by first |omega|(simp;omega)|(simp;done));refine fM rfl ?_;refine lM rfl rfl rfl ?_;refine fM rfl ?_;refine zD p.z5 (fun i (B:List Place)=>{env:=[(2,.ptr 2 0),(3,.ptr 3 0),(4,.t (.int .i64 o.length)),(27,.t (.lst (p.z5.map za.enc))),(28,.t (.int .i64 p.z5.length)),(29,.t (.int .i64 i))],s:=⟨[(0,.cells [.t (.lst (s.z4.map sE)),.t s.doc,.t (.lst (s.keys.map zJ.enc)),.t (.lst (s.zE.map zx.enc)),.own 1 6 (B.map Place.enc)]),(1,.arr B.length),(2,.cells [.ptr 0 0]),(3,.cells [.t (.int .i64 p.parent),.t (.str p.hop.on),.t (.str p.hop.key),.t (.str p.ty),.t (.lst (p.Zd.map zp.enc)),.t (.lst (p.z5.map za.enc))])],4⟩}) (fun r i B=>r.foldl (yq s ds Ch k p o.length) B=fin) 4 (o++[p]) rfl hfin rfl rfl rfl ?_ ?_
 ·intro B hB;simp only [List.foldl_nil] at hB;subst hB;refine fR Z ?_;refine Run.zj Z Z (by simp) ?_;skip;refine Run.fin Z (z3.chg Z Z ?_ ?_)
  ·exact .tup .nil
  ·exact ⟨.inl ⟨zLB Z,_,rfl,.cells (.same Z)⟩,.inl ⟨zLB Z,_,rfl,.arr Z⟩,trivial⟩
 ·intro i x r B h1 hi hd hB ih;have hxk:=hp.pk x (zMG h1)
  have hcx:za.zQ x.z5<k:=by
   have:=Wt (zMG h1);rw [za.WD] at this;omega
  have hposs:z7 P 34 [.agg [.t s.doc],.t (.str x.ty.name)] ⟨[],0⟩ {v:= .t (.lst ((C11.y4 ds x.ty.name).map Go.GB.sE))}:=by
   rw [E.doc];exact C11.z16 H.p11 ds E.zbz x.ty.name
  simp only [List.foldl_cons] at hB;have hgr:=Yj (f:=yq s ds Ch k p o.length) (fun o' x=>z2R k p o.length o' x) r (yq s ds Ch k p o.length B x);rw [hB] at hgr;generalize hX:yq s ds Ch k p o.length B x=X at hB hgr;unfold yq at hX;have hts:=qM ds x.ty.name;have hdl0:=E.zbz.l;generalize C11.y4 ds x.ty.name=ts at hposs hX hts;refine fR Z ?_;refine Run.zm Z Z (by simp;omega) ?_;refine fR Z ?_;refine Mid.Zl (za.zw x) Z Z Z h1 Z Z ?_;refine fM Z ?_;refine Mid.call (hposs) Z Z Z Z ?_;refine lM Z Z Z ?_;refine fM Z ?_;refine zD ts (fun j (C:List Place)=>{env:=[(2,.ptr 2 0),(3,.ptr 3 0),(4,.t (.int .i64 o.length)),(6,.ptr 4 0),(27,.t (.lst (p.z5.map za.enc))),(28,.t (.int .i64 p.z5.length)),(29,.t (.int .i64 i)),(41,.t (.lst (ts.map Go.GB.sE))),(42,.t (.int .i64 ts.length)),(43,.t (.int .i64 j))],s:=⟨[(0,.cells [.t (.lst (s.z4.map sE)),.t s.doc,.t (.lst (s.keys.map zJ.enc)),.t (.lst (s.zE.map zx.enc)),.own 1 6 (C.map Place.enc)]),(1,.arr C.length),(2,.cells [.ptr 0 0]),(3,.cells [.t (.int .i64 p.parent),.t (.str p.hop.on),.t (.str p.hop.key),.t (.str p.ty),.t (.lst (p.Zd.map zp.enc)),.t (.lst (p.z5.map za.enc))]),(4,.cells [.t (.str x.key),.t (.str x.on),.t (.str x.name),.t (.lst (x.args.map Arg.enc)),.t (.str x.ty.name),.t (.lst (x.ty.zr.map nE)),.t (.str x.label),.t (.int .i64 x.initial),.t (.lst (x.z5.map za.enc))])],5⟩}) (fun r j C=>r.foldl (stepT s ds Ch k p o.length x) C=X) 5 B Z hX Z Z Z ?_ ?_
  ·intro C hC;simp only [List.foldl_nil] at hC;subst hC;refine fR Z ?_;refine Run.zj Z Z (by simp) ?_;refine fR Z ?_;refine aL Z Z Z Z Z ?_;refine fM Z ?_;exact zn 4 Z (ih C hB) Z Z Z
  ·intro j t r2 C k1 hj kd hC ih2;simp only [List.foldl_cons] at hC;have hgr2:=Yj (f:=stepT s ds Ch k p o.length x) (fun o' t=>z3b k p o.length x o' t) r2 (stepT s ds Ch k p o.length x C t);rw [hC] at hgr2;have hof:=zge H x.z5 hxk.pl hxk.p t;refine fR Z ?_;refine Run.zm Z Z (by simp;omega) ?_;refine fR Z ?_;refine Mid.zg Z Z Z k1 Z Z ?_;refine fM Z ?_;refine Mid.call (hof) Z Z Z Z ?_;refine fM Z ?_;refine lM Z Z Z ?_;refine fM Z ?_;by_cases hemp:(onF x.z5 t).isEmpty=true
   ·rw [show stepT s ds Ch k p o.length x C t=C from if_pos hemp] at hC;refine Run.zm Z Z (by simpa [List.isEmpty_iff] using hemp) ?_;refine fR Z ?_;refine aL Z Z Z Z Z ?_;refine fM Z ?_;exact zn 5 Z (ih2 C hC) Z Z Z
   ·rw [show stepT s ds Ch k p o.length x C t=WE s ds Ch k ⟨o.length,⟨p.ty,x.key⟩,t,yT s t (Ch p.ty p.Zd x.name),onF x.z5 t⟩ C from if_neg hemp] at hC hgr2;refine Run.zj Z Z (by simpa [List.isEmpty_iff] using hemp) ?_;refine fR Z ?_;obtain ⟨sp,js,ks,F,A,hS,hjl,hCh⟩:=E.ok p.ty p.Zd x.name hp.g;have hc1:=za1 H.p26 hS hjl x.name;rw [hCh] at hc1;have hcl:=E.len p.ty p.Zd x.name hp.g;have hG:=E.cl p.ty p.Zd x.name t hp.g;have hgrC:=z0W (s:=s) (ds:=ds) (Ch:=Ch) k ⟨o.length,⟨p.ty,x.key⟩,t,yT s t (Ch p.ty p.Zd x.name),onF x.z5 t⟩ C
    have hadd:=hrec ⟨o.length,⟨p.ty,x.key⟩,t,yT s t (Ch p.ty p.Zd x.name),onF x.z5 t⟩ C ⟨fun y hy=>hxk.p y (z5q hy),by have:=z8M x.z5 t;have:=hxk.pl;dsimp only;omega,hG⟩ (by dsimp only;have:=qV (fun p=>p.on==t) x.z5;unfold onF;omega) (by omega)
    generalize WE s ds Ch k ⟨o.length,⟨p.ty,x.key⟩,t,yT s t (Ch p.ty p.Zd x.name),onF x.z5 t⟩ C=C2 at hadd hC hgr2 hgrC;unfold Place.v at hadd;dsimp only at hadd;generalize Ch p.ty p.Zd x.name=c at hc1 hcl hadd;have hdl:=z9l H s E.js (C.map Place.enc) t c hcl;rw [List.length_map] at hdl;have hb5:=zej s (C.map Place.enc) t c.length c;rw [List.length_map] at hb5
    refine Mid.ZI [] (hc1) Z Z Z Z Z (by repeat' (first |exact trivial|exact rfl|refine And.intro ?_ ?_|exact (congrArg some (z6.zK _ _ _ _ _ _)).symm|exact (congrArg some (z6.zL _ _ _)).symm|(refine (congrArg some (z6.zZ ?_ _ _)).symm;intro _;rfl))) Z Z (ob':=[(11,.gro c.length (gE (gT zp.enc) c))]) ((by simp only [qW,z6.zZ (f:=gT zp.enc) (f':=gT zp.enc) (fun _=>rfl)];rfl)) Z Z ?_
    refine fM Z ?_
    refine Mid.ZI [2,0,1,5,11] (hdl) Z Z Z Z hb5 (by repeat' (first |exact trivial|exact rfl|refine And.intro ?_ ?_|exact (congrArg some (z6.zK _ _ _ _ _ _)).symm|exact (congrArg some (z6.zL _ _ _)).symm|(refine (congrArg some (z6.zZ ?_ _ _)).symm;intro _;rfl))) Z Z (ob':=[(11,.gro c.length (gE (gT zp.enc) (yT s t c++List.replicate (c.length - (yT s t c).length) zS)))]) ((by simp only [qW,z6.zZ (f:=gT zp.enc) (f':=gT zp.enc) (fun _=>rfl)];rfl)) Z Z ?_
    refine Mid.wW (f:=2) Z (by (repeat' (first |exact trivial|exact Bool.not_or_self _|exact yK _|exact yJ _|exact grd3 _ _|exact yL _ _|refine And.intro ?_ ?_|exact rfl|(simp;done)|(simp<;>omega)));done) ?_
    refine Run.Qo 6 Z (st':={env:=[(2,.ptr 2 0),(3,.ptr 3 0),(4,.t (.int .i64 o.length)),(6,.ptr 4 0),(8,.ptr 5 0),(9,.t (.lst ((onF x.z5 t).map za.enc))),(10,.t (.lst ((yT s t c).map zp.enc))),(27,.t (.lst (p.z5.map za.enc))),(28,.t (.int .i64 p.z5.length)),(29,.t (.int .i64 i)),(41,.t (.lst (ts.map Go.GB.sE))),(42,.t (.int .i64 ts.length)),(43,.t (.int .i64 j))],s:=⟨[(0,.cells [.t (.lst (s.z4.map sE)),.t s.doc,.t (.lst (s.keys.map zJ.enc)),.t (.lst (s.zE.map zx.enc)),.own 1 6 (C.map Place.enc)]),(1,.arr C.length),(2,.cells [.ptr 0 0]),(3,.cells [.t (.int .i64 p.parent),.t (.str p.hop.on),.t (.str p.hop.key),.t (.str p.ty),.t (.lst (p.Zd.map zp.enc)),.t (.lst (p.z5.map za.enc))]),(4,.cells [.t (.str x.key),.t (.str x.on),.t (.str x.name),.t (.lst (x.args.map Arg.enc)),.t (.str x.ty.name),.t (.lst (x.ty.zr.map nE)),.t (.str x.label),.t (.int .i64 x.initial),.t (.lst (x.z5.map za.enc))]),(5,.cells [.t (.str t)])],6⟩}) ?_ Z Z Z (by repeat' (first |exact trivial|exact LeZ.le (zLB rfl) (by first |exact LeX.t|exact LeX.top|exact LeX.same rfl|exact LeX.Zg|exact LeX.Zh|exact LeX.fowT|exact LeX.tEq (by simp))|exact LeZ.gE _ _ (zLB rfl) rfl (by first |exact List.take_length.symm|exact (List.take_of_length_le (by simp)).symm|simp) (by simp) (fun _=>rfl)|exact Or.inr ⟨zLB rfl,zLB rfl,rfl⟩|refine Or.inl ⟨zLB rfl,_,rfl,?_⟩|refine Yq.cells ?_|exact Yq.le (LeO.arr (by first |rfl|simp))|exact Yq.le (LeO.cE (by first |rfl|simp))|exact Yq.le (LeO.mE (by first |rfl|simp) (by first |exact Or.inl rfl|exact Or.inr rfl))|refine WI.cons ?_ ?_|exact WI.nil|refine And.intro ?_ ?_)) (by repeat' (first |exact trivial|exact LeZ.le (zLB rfl) (by first |exact LeX.t|exact LeX.top|exact LeX.same rfl|exact LeX.Zg|exact LeX.Zh|exact LeX.fowT|exact LeX.tEq (by simp))|exact LeZ.gE _ _ (zLB rfl) rfl (by first |exact List.take_length.symm|exact (List.take_of_length_le (by simp)).symm|simp) (by simp) (fun _=>rfl)|exact Or.inr ⟨zLB rfl,zLB rfl,rfl⟩|refine Or.inl ⟨zLB rfl,_,rfl,?_⟩|refine Yq.cells ?_|exact Yq.le (LeO.arr (by first |rfl|simp))|exact Yq.le (LeO.cE (by first |rfl|simp))|exact Yq.le (LeO.mE (by first |rfl|simp) (by first |exact Or.inl rfl|exact Or.inr rfl))|refine WI.cons ?_ ?_|exact WI.nil|refine And.intro ?_ ?_))
    refine fR Z ?_
    refine Mid.ZI [0,1] (hadd) Z Z Z Z Z (by repeat' (first |exact trivial|exact rfl|refine And.intro ?_ ?_|exact (congrArg some (z6.zK _ _ _ _ _ _)).symm|exact (congrArg some (z6.zL _ _ _)).symm|(refine (congrArg some (z6.zZ ?_ _ _)).symm;intro _;rfl))) Z Z (ob':=[(0,.cells [.t (.lst (s.z4.map sE)),.t s.doc,.t (.lst (s.keys.map zJ.enc)),.t (.lst (s.zE.map zx.enc)),.own 1 6 (C2.map Place.enc)]),(1,.arr C2.length)]) (rfl) Z Z ?_
    refine fM Z ?_;refine aL Z Z Z Z Z ?_;refine fM Z ?_;exact zn 5 Z (ih2 C2 hC) Z Z Z
end
end Go.GB.C29
namespace Go.GB.C29
open Go.GB Go.GB.C26
variable {P:Program}
section
variable {s:zH} {ds:List Def} {G:List zp->Prop} {Ch:Str->List zp->Str->List zp}
theorem zbK (H:wa P) (E:Env s ds G Ch):∀k,zek P s ds G Ch k
 |0=>fun p o _ h=>absurd h (Nat.not_lt_zero _)
 |k+1=>zbc H E k (zbK H E k)
def yy (s:zH) (kind:Int) (z5:List za):Place:=⟨-1,⟨[],[]⟩,yz kind,YM (yz kind) s.zE 0 s.z4.length [],z5⟩
variable (s) (ds) (Ch) in
def Zk (kind:Int) (z5:List za):List Place:=WE s ds Ch (za.zQ z5+1) (yy s kind z5) []
theorem z0H (H:wa P) (E:Env s ds G Ch) (kind:Int) (z5:List za) (hp:z5.length*160<=140737488355328) (ho:∀x,x∈z5->x.Ok) (hg:G (yy s kind z5).Zd) (hs1:s.z4.length<=2000) (hl:(Zk s ds Ch kind z5).length<=1000000):z7 P 10 [s.v,.agg [.t (.int .i64 kind),.t (.lst (z5.map za.enc))]] ⟨[],0⟩ {v:= .t (.lst ((Zk s ds Ch kind z5).map Place.enc))}:=by
 have hadd:=zbK H E (za.zQ z5+1) (yy s kind z5) [] ⟨ho,hp,hg⟩ (Nat.lt_succ_self _) hl;have hroots:=zbo H.p26 s (yz kind) hs1 E.js;unfold Zk at hl⊢;unfold Place.v yy at hadd;dsimp only at hadd;unfold yy;generalize WE s ds Ch (za.zQ z5+1) ⟨-1,⟨[],[]⟩,yz kind,YM (yz kind) s.zE 0 s.z4.length [],z5⟩ []=res at hadd⊢;generalize YM (yz kind) s.zE 0 s.z4.length []=rt at hadd hroots;refine z7.run H.i10 H.mixed Z Z ?_;refine fR Z ?_;refine Mid.call (zcO H kind) Z Z Z Z ?_;refine fM Z ?_;refine lM Z Z Z ?_;refine fM Z ?_;generalize yz kind=rf at hadd hroots;refine zD z5 (fun i (B:List za)=>{env:=[(2,.ptr 0 0),(5,.ptr 2 0),(6,.t (.str rf)),(7,.own 4 9 (B.map za.enc)),(17,.t (.lst (z5.map za.enc))),(18,.t (.int .i64 z5.length)),(19,.t (.int .i64 i))],s:=⟨[(0,.cells [.t (.lst (s.z4.map sE)),.t s.doc,.t (.lst (s.keys.map zJ.enc)),.t (.lst (s.zE.map zx.enc))]),(2,.cells [.t (.lst (s.z4.map sE)),.t s.doc,.t (.lst (s.keys.map zJ.enc)),.t (.lst (s.zE.map zx.enc)),.own 3 6 (([]:List Place).map Place.enc)]),(3,.arr ([]:List Place).length),(4,.arr B.length)],5⟩}) (fun r i B=>B=z5.take i) 3 [] Z Z Z Z Z ?_ ?_
 ·intro B hB;rw [List.take_length] at hB;subst hB;refine fR Z ?_;refine Run.zj Z Z (by simp) ?_;refine YK 4 Z (st':={env:=[(2,.ptr 0 0),(5,.ptr 2 0),(6,.t (.str rf)),(7,.t (.lst (B.map za.enc)))],s:=⟨[(0,.cells [.t (.lst (s.z4.map sE)),.t s.doc,.t (.lst (s.keys.map zJ.enc)),.t (.lst (s.zE.map zx.enc))]),(2,.cells [.t (.lst (s.z4.map sE)),.t s.doc,.t (.lst (s.keys.map zJ.enc)),.t (.lst (s.zE.map zx.enc)),.own 3 6 (([]:List Place).map Place.enc)]),(3,.arr ([]:List Place).length)],4⟩}) ?_ Z Z Z;refine fR Z ?_;refine Mid.call (hroots) Z Z Z Z ?_;refine fM Z ?_
  refine Mid.ZI [2,3] (hadd) Z Z Z Z Z (by repeat' (first |exact trivial|exact rfl|refine And.intro ?_ ?_|exact (congrArg some (z6.zK _ _ _ _ _ _)).symm|exact (congrArg some (z6.zL _ _ _)).symm|(refine (congrArg some (z6.zZ ?_ _ _)).symm;intro _;rfl))) Z Z (ob':=[(2,.cells [.t (.lst (s.z4.map sE)),.t s.doc,.t (.lst (s.keys.map zJ.enc)),.t (.lst (s.zE.map zx.enc)),.own 3 6 (res.map Place.enc)]),(3,.arr res.length)]) (rfl) Z Z ?_
  refine fM Z ?_;refine Run.fin Z (z3.go ?_);exact .own Z
 ·intro i x r B h1 hi hd hB ih;have hc:=zaP H x (ho x (zMG h1))
  have hBl:B.length=i:=by rw [hB];simp;omega
  refine fR Z ?_;refine Run.zm Z Z (by simp;omega) ?_;refine fR Z ?_;refine Mid.Zl (za.zw x) Z Z Z h1 Z Z ?_;refine fM Z ?_;refine Mid.call (hc) Z Z Z Z ?_;refine fM Z ?_;refine apM za.enc B [x] Z (congrArg (fun c=>some (T.lst [c])) (za.zw x).symm) Z Z Z ?_ (hl:=fun x=>(congrArg List.length (za.zw x)).trans Z);refine fM Z ?_;refine aL Z Z Z Z Z ?_;refine fM Z ?_;exact zn 5 Z (ih (B++[x]) (by rw [hB,List.take_add_one,h1];rfl)) Z Z Z
def z81 (Lv:Str->List zp->Str->Int) (ty:Str) (sp:List zp):List za->Int->Option Int
 |[],m=>some m
 |x::r,m=>if Lv ty sp x.name>0 then z81 Lv ty sp r (if Lv ty sp x.name>m then Lv ty sp x.name else m) else none
def qb (Lv:Str->List zp->Str->Int):List Place->Int->Option Int
 |[],m=>some m
 |p::r,m=>match z81 Lv p.ty p.Zd p.z5 m with|some m'=>qb Lv r m'|none=>none
def zdB (o:Option Int):V:= .tup [.t (.int .i64 (o.getD 0)),.t (.int .i64 (if o.isSome then 0 else 60))]
structure zeS (s:zH) (G:List zp->Prop) (Lv:Str->List zp->Str->Int):Prop where
 ok:∀ty here f,G here->∃sp js ks F A,Sol s ty here sp js ks F A/\Z3 s.z4.length F A f=Lv ty here f
theorem z66 (H:wa P) (E:Env s ds G Ch) {Lv:Str->List zp->Str->Int} (EL:zeS s G Lv) (kind:Int) (z5:List za) (hp:z5.length*160<=140737488355328) (ho:∀x,x∈z5->x.Ok) (hg:G (yy s kind z5).Zd) (hs1:s.z4.length<=2000) (hl:(Zk s ds Ch kind z5).length<=1000000) (hpl:∀p,p∈Zk s ds Ch kind z5->G p.Zd/\p.z5.length<=140737488355328):z7 P 14 [s.v,.agg [.t (.int .i64 kind),.t (.lst (z5.map za.enc))]] ⟨[],0⟩ {v:=zdB (qb Lv (Zk s ds Ch kind z5) 0)}:=by
 have hpp:=z0H H E kind z5 hp ho hg hs1 hl;generalize Zk s ds Ch kind z5=l at hpp hl hpl⊢;generalize hR:qb Lv l 0=R;refine z7.run H.i14 H.mixed Z Z ?_;refine fR Z ?_;refine Mid.call (hpp) Z Z Z Z ?_;refine lM Z Z Z ?_;refine fM Z ?_;refine zD l (fun i (m:Int)=>{env:=[(2,.ptr 0 0),(6,.t (.int .i64 m)),(15,.t (.lst (l.map Place.enc))),(16,.t (.int .i64 l.length)),(17,.t (.int .i64 i))],s:=⟨[(0,.cells [.t (.lst (s.z4.map sE)),.t s.doc,.t (.lst (s.keys.map zJ.enc)),.t (.lst (s.zE.map zx.enc))])],1⟩}) (fun r i m=>qb Lv r m=R) 1 0 Z hR Z Z Z ?_ ?_
 ·intro m hm;simp only [qb] at hm;subst hm;refine fR Z ?_;refine Run.zj Z Z (by simp) ?_;refine fR Z ?_;refine Run.fin Z (z3.go ?_);exact .wM (.t Z) (.t Z)
 ·intro i p r m h1 hi hd hm ih;obtain ⟨hpg,hpk⟩:=hpl p (zMG h1);simp only [qb] at hm;refine fR Z ?_;refine Run.zm Z Z (by simp;omega) ?_;refine fR Z ?_;refine Mid.zg Z Z Z h1 Z Z ?_;refine fM Z ?_;refine lM Z Z Z ?_;refine fM Z ?_
  refine zD p.z5 (fun j (c:Int)=>{env:=[(2,.ptr 0 0),(6,.t (.int .i64 c)),(8,.ptr 1 0),(15,.t (.lst (l.map Place.enc))),(16,.t (.int .i64 l.length)),(17,.t (.int .i64 i)),(22,.t (.lst (p.z5.map za.enc))),(23,.t (.int .i64 p.z5.length)),(24,.t (.int .i64 j))],s:=⟨[(0,.cells [.t (.lst (s.z4.map sE)),.t s.doc,.t (.lst (s.keys.map zJ.enc)),.t (.lst (s.zE.map zx.enc))]),(1,.cells [.t (.int .i64 p.parent),.t (.str p.hop.on),.t (.str p.hop.key),.t (.str p.ty),.t (.lst (p.Zd.map zp.enc)),.t (.lst (p.z5.map za.enc))])],2⟩}) (fun r2 j c=>(match z81 Lv p.ty p.Zd r2 c with|some m'=>qb Lv r m'|none=>none)=R) 2 m Z hm Z Z Z ?_ ?_
  ·intro c hc;simp only [z81] at hc;refine fR Z ?_;refine Run.zj Z Z (by simp) ?_;refine fR Z ?_;refine aL Z Z Z Z Z ?_;refine fM Z ?_;exact zn 1 Z (ih c hc) Z Z Z
  ·intro j x r2 c k1 hj kd hc ih2;obtain ⟨sp,js,ks,F,A,hS,hLv⟩:=EL.ok p.ty p.Zd x.name hpg;have hget:=zeQ H.p26 hS x.name;rw [hLv] at hget;simp only [z81] at hc;refine fR Z ?_;refine Run.zm Z Z (by simp;omega) ?_;refine fR Z ?_;refine Mid.Zl (za.zw x) Z Z Z k1 Z Z ?_;refine fM Z ?_;refine Mid.call (hget) Z Z Z Z ?_;refine fM Z ?_;by_cases hpos:Lv p.ty p.Zd x.name>0
   ·rw [if_pos hpos] at hc;refine Run.zj Z Z (by simpa using hpos) ?_;refine fR Z ?_;refine aL Z Z Z Z Z ?_;refine fM Z ?_;exact zn 2 Z (ih2 _ hc) Z Z Z
   ·rw [if_neg hpos] at hc;subst hc;refine Run.zm Z Z (by simpa using hpos) ?_;refine fR Z ?_;refine Run.fin Z (z3.go ?_);exact .wM (.t Z) (.t Z)
end
end Go.GB.C29
namespace Go.GB.C29
open Go.GB Go.GB.C26
variable {P:Program}
def upF (l:List Place):Nat->Nat->List Hop->Option (List Hop)
 |0,_,_=>none
 |k+1,i,acc=>
  match l[i]? with
  |none=>none
  |some p=>if p.parent=-1 then some acc else if p.parent< -1∨p.parent≥i then none else upF l k p.parent.toNat (acc++[p.hop])
def z49 (l:List Place) (i:Int):List Hop:=if i<0∨i≥l.length then [] else match upF l (i.toNat+1) i.toNat [] with|some h=>h.reverse|none=>[]
end Go.GB.C29
namespace Go.GB.C29
open Go.GB Go.GB.C26
variable {P:Program}
structure z9j (l:List Hop) (i j:Nat) (A:List Hop):Prop where
 len:A.length=l.length
 ij:i+j+1=l.length
 at_:∀k,k<l.length->A[k]?=if k<i∨j<k then l.reverse[k]? else l[k]?
theorem z9j.done {l A:List Hop} {i j:Nat} (h:z9j l i j A) (hij:¬ i<j):A=l.reverse:=by
 apply List.ext_getElem?;intro k;have hij2:=h.ij;by_cases hk:k<l.length
 ·rw [h.at_ k hk];split
  ·rfl
  ·have:k=i/\k=j:=by omega
   obtain ⟨rfl,rfl⟩:=this;rw [List.getElem?_reverse (by omega)];congr 1;omega
 ·rw [List.getElem?_eq_none (by rw [h.len];omega),List.getElem?_eq_none (by simp;omega)]
theorem z9j.step {l A:List Hop} {i j:Nat} {x y:Hop} (h:z9j l i j A) (hij:i<j) (hx:A[i]?=some x) (hy:A[j]?=some y):z9j l (i+1) (j - 1) ((A.set i y).set j x):=by
 have hij2:=h.ij
 have hx':l[i]?=some x:=by
  have:=h.at_ i (by omega);rw [if_neg (by omega)] at this;rw [←this,hx]
 have hy':l[j]?=some y:=by
  have:=h.at_ j (by omega);rw [if_neg (by omega)] at this;rw [←this,hy]
 refine ⟨by simp [h.len],by omega,fun k hk=>?_⟩
 have hAl:=h.len;by_cases h1:k=j
 ·subst h1;rw [List.getElem?_set_self (by simp;omega),if_pos (by omega),List.getElem?_reverse (by omega),←hx'];congr 1;omega
 ·rw [List.getElem?_set_ne (fun e=>h1 e.symm)];by_cases h2:k=i
  ·subst h2;rw [List.getElem?_set_self (by omega),if_pos (by omega),List.getElem?_reverse (by omega),←hy'];congr 1;omega
  ·rw [List.getElem?_set_ne (fun e=>h2 e.symm),h.at_ k hk];by_cases h3:k<i∨j<k
   ·rw [if_pos h3,if_pos (by omega)]
   ·rw [if_neg h3,if_neg (by omega)]
theorem hTb (m:Nat) (A:List Hop):V.bds m (gE (gT Hop.enc) A)=true:=V.z50 (fun x=>by simp [gT,Hop.enc,V.bds,V.bd]) A
theorem z7p (H:wa P) (l:List Hop) (hl:l.length<=1000000):z7 P 39 [.gsl 0 l.length 0 l.length 2] ⟨[(0,.gro l.length (gE (gT Hop.enc) l))],1⟩ {v:= .tup [],ob:=[(0,.gro l.length (gE (gT Hop.enc) l.reverse))],n:=0,rd:=true}:=by
 by_cases hn:l=[]
 ·subst hn;refine z7.run H.i39 H.mixed Z Z ?_;refine fR Z ?_;refine pu Z ?_;refine s64 Z Z Z ?_;refine fM Z ?_;refine Run.loop Z ?_;refine Run.wO ?_;refine fR Z ?_;refine Run.zj Z Z Z ?_;skip;refine Run.fin Z (z3.chg Z Z ?_ ?_)
  ·exact .tup .nil
  ·exact ⟨.inl ⟨zLB Z,_,rfl,.gro (.same Z)⟩,trivial⟩
 have hlp:0<l.length:=List.length_pos_iff.2 hn;refine z7.run H.i39 H.mixed Z Z ?_;refine fR Z ?_;refine pu Z ?_;refine s64 Z Z Z ?_;refine fM Z ?_
 refine z30 (fun (B:(Nat×Nat)×List Hop)=>{env:=[(0,.gsl 0 l.length 0 l.length 2),(2,.t (.int .i64 B.1.1)),(3,.t (.int .i64 B.1.2))],s:=⟨[(0,.gro l.length (gE (gT Hop.enc) B.2))],1⟩}) (fun B=>z9j l B.1.1 B.1.2 B.2) (fun B=>l.length - B.1.1) 1 ((0,l.length - 1),l) Z ⟨rfl,by dsimp only;omega,fun k hk=>by rw [if_neg (by dsimp only;omega)]⟩ rfl rfl rfl ?_ (he:=?_) (hs:=?_)
 ·rintro ⟨⟨i,j⟩,A⟩ hI ih;dsimp only at hI;dsimp only;have hAl:=hI.len;have hij2:=hI.ij;refine fR Z ?_;by_cases hij:i<j
  ·obtain ⟨x,hx⟩:∃x,A[i]?=some x:=⟨_,List.getElem?_eq_getElem (by omega)⟩;obtain ⟨y,hy⟩:∃y,A[j]?=some y:=⟨_,List.getElem?_eq_getElem (by omega)⟩
   have hy2:(A.set i y)[j]?=some y:=by rw [List.getElem?_set_ne (by omega)];exact hy
   refine Run.zm Z Z (by simp;omega) ?_;refine fR Z ?_;refine pu Z ?_;refine Mid.zcJ (j) 0 (sz:=2) Z Z (by omega) (by omega) (yr (fun _=>rfl)) (hy) (by decide) Z Z ?_;refine fM Z ?_;refine pu Z ?_;refine Mid.zcJ (i) 0 (sz:=2) Z Z (by omega) (by omega) (yr (fun _=>rfl)) (hx) (by decide) Z Z ?_;refine pu Z ?_;refine Mid.stG (y) (i) 0 (sz:=2) Z Z Z Z Z (by omega) (yr (fun _=>rfl)) (hx) (by decide) Z Z ?_;refine pu Z ?_;refine Mid.stG (x) (j) 0 (sz:=2) Z Z Z Z Z (by omega) (yr (fun _=>rfl)) (hy2) (by decide) Z Z ?_;refine fM Z ?_;refine aL Z Z Z Z Z ?_;refine fM Z ?_;refine s64 Z Z Z ?_;refine fM Z ?_;exact zn 1 Z (ih ((i+1,j - 1),(A.set i y).set j x) (by dsimp only;omega) (hI.step hij hx hy)) Z Z Z (he:=⟨.same Z,.t,.tEq (by congr 1;dsimp only;omega),trivial⟩) (hs:=⟨.inl ⟨zLB Z,_,rfl,.gro (.gE Z fun _=>rfl)⟩,trivial⟩)
  ·refine Run.zj Z Z (by simp;omega) ?_;skip;have hd:=hI.done hij;subst hd;refine Run.fin Z (z3.chg Z Z ?_ ?_)
   ·exact .tup .nil
   ·exact ⟨.inl ⟨zLB Z,_,rfl,.gro (.gE Z fun _=>rfl)⟩,trivial⟩
 ·refine ⟨.same Z,.tEq ?_,.tEq ?_,trivial⟩
  ·rfl
  ·congr 1;dsimp only;omega
 ·exact ⟨.inl ⟨zLB Z,_,rfl,.gro (.gE Z fun _=>rfl)⟩,trivial⟩
end Go.GB.C29
namespace Go.GB.C29
open Go.GB Go.GB.C26
variable {P:Program}
theorem zce (l:List Place):∀(n:Nat) (k:Nat) (acc:List Hop),n<k->upF l k n acc=upF l (n+1) n acc:=by
 intro n
 induction n using Nat.strongRecOn with
 |_ n ih=>
  intro k acc hk
  obtain ⟨k,rfl⟩:∃j,k=j+1:=⟨k - 1,by omega⟩
  simp only [upF]
  cases l[n]? with
  |none=>rfl
  |some p=>
   simp only;split
   ·rfl
   ·split
    ·rfl
    ·rename_i h1 h2
     have hq:p.parent.toNat<n:=by omega
     rw [ih _ hq k _ (by omega),ih _ hq n _ hq]
def zcT (o:Option (List Hop)):List Hop:=match o with|some h=>h.reverse|none=>[]
theorem zaM {l:List Place} {n:Nat} (h:n<l.length):z49 l n=zcT (upF l (n+1) n []):=by
 unfold z49 zcT;rw [if_neg (by omega)]
 simp only [Int.toNat_natCast]<;>rfl
theorem zeC {l:List Place} {n:Nat} {p:Place} {acc:List Hop} (h:l[n]?=some p):upF l (n+1) n acc=if p.parent=-1 then some acc else if p.parent< -1∨p.parent≥n then none else upF l (p.parent.toNat+1) p.parent.toNat (acc++[p.hop]):=by
 simp only [upF,h];split
 ·rfl
 ·split
  ·rfl
  ·exact zce l _ _ _ (by omega)
theorem zdE (H:wa P) (l:List Place) (hl:l.length<=1000000) (i:Int):z7 P 22 [.t (.lst (l.map Place.enc)),.t (.int .i64 i)] ⟨[],0⟩ {v:= .t (.lst ((z49 l i).map Hop.enc))}:=by
 by_cases hi:i<0∨i≥l.length
 ·have e:z49 l i=[]:=by unfold z49;rw [if_pos hi]
  rw [e];refine z7.run H.i22 H.mixed Z Z ?_;refine fR Z ?_;refine lMG Z Z Z Z ?_;refine fM Z ?_;refine Run.zm Z Z (by simp;omega) ?_;refine fR Z ?_;refine Run.fin Z (z3.go ?_);exact .nil Z
 obtain ⟨n0,rfl⟩:∃n:Nat,i=n:=⟨i.toNat,by omega⟩
 have hn0:n0<l.length:=by omega
 rw [zaM hn0];generalize hR:zcT (upF l (n0+1) n0 [])=R;refine z7.run H.i22 H.mixed Z Z ?_;refine fR Z ?_;refine lMG Z Z Z Z ?_;refine fM Z ?_;refine Run.zj Z Z (by simp;omega) ?_;refine fR Z ?_
 refine z30 (fun (B:Nat×List Hop)=>{env:=[(0,.t (.lst (l.map Place.enc))),(1,.t (.int .i64 B.1)),(5,.gsl 0 B.2.length 0 B.2.length 2)],s:=⟨[(0,.gro B.2.length (gE (gT Hop.enc) B.2))],1⟩}) (fun B=>B.1+B.2.length<=n0/\zcT (upF l (B.1+1) B.1 B.2)=R) (fun B=>B.1) 0 (n0,[]) Z ⟨by simp,hR⟩ rfl rfl rfl ?_
 rintro ⟨n,acc⟩ ⟨hn,hE⟩ ih;dsimp only at hn hE;dsimp only;obtain ⟨p,hp⟩:∃p,l[n]?=some p:=⟨_,List.getElem?_eq_getElem (by omega)⟩;rw [zeC hp] at hE;refine fR Z ?_;refine Mid.zg Z Z Z hp Z Z ?_;refine fM Z ?_;by_cases h1:p.parent=-1
 ·rw [if_pos h1] at hE;refine Run.zj Z Z (by simp [h1]) ?_;have hrv:=z7p H acc (by omega);have hE:acc.reverse=R:=hE;rw [hE] at hrv
  refine Run.wW (f:=3) Z (by (repeat' (first |exact trivial|exact Bool.not_or_self _|exact yK _|exact yJ _|exact grd3 _ _|exact yL _ _|refine And.intro ?_ ?_|exact rfl|(simp;done)|(simp<;>omega)));done) ?_
  refine Mid.ZI [0] (hrv) Z Z Z Z (by simp [zR,z6.bd,hTb]) (by repeat' (first |exact trivial|exact rfl|refine And.intro ?_ ?_|exact (congrArg some (z6.zK _ _ _ _ _ _)).symm|exact (congrArg some (z6.zL _ _ _)).symm|(refine (congrArg some (z6.zZ ?_ _ _)).symm;intro _;rfl))) Z Z (ob':=[(0,.gro acc.length (gE (gT Hop.enc) R))]) ((by simp only [qW,z6.zZ (f:=gT Hop.enc) (f':=gT Hop.enc) (fun _=>rfl)];rfl)) Z Z ?_
  refine Mid.wW (f:=1) Z (by (repeat' (first |exact trivial|exact Bool.not_or_self _|exact yK _|exact yJ _|exact grd3 _ _|exact yL _ _|refine And.intro ?_ ?_|exact rfl|(simp;done)|(simp<;>omega)));done) ?_
  have hRl:R.length=acc.length:=by rw [←hE];simp
  refine Run.Qo 0 Z (st':={env:=[(5,.t (.lst (R.map Hop.enc)))],s:=⟨[],0⟩}) ?_ Z Z Z ⟨LeZ.gE _ _ (zLB Z) Z (List.take_of_length_le (by omega)).symm (by omega) (fun _=>rfl),trivial⟩ trivial;refine fR Z ?_;refine Run.fin Z (z3.go ?_);exact .t Z
 ·rw [if_neg h1] at hE;refine Run.zm Z Z (by simpa using h1) ?_;refine fR Z ?_;refine Mid.zg Z Z Z hp Z Z ?_;refine fM Z ?_;by_cases h2:p.parent< -1∨p.parent≥n
  ·rw [if_pos h2] at hE;subst hE;refine Run.zm Z Z (by simp;omega) ?_;refine fR Z ?_;refine Run.fin Z (z3.go ?_);exact .nil Z
  ·rw [if_neg h2] at hE;refine Run.zj Z Z (by simp;omega) ?_;refine fR Z ?_;refine Mid.zg Z Z Z hp Z Z ?_;refine fM Z ?_;refine Mid.ze7 (gT Hop.enc) acc [p.hop] Z Z (zax Z (fun _=>rfl)) (z4d _) (yr (fun _=>rfl)) (by first |omega|(simp;omega)|(simp;done)) (by first |omega|(simp;omega)|(simp;done)) Z ?_;refine fM Z ?_;exact zn 1 Z (ih (p.parent.toNat,acc++[p.hop]) (by dsimp only;omega) ⟨by dsimp only;simp;omega,hE⟩) rfl rfl rfl (he:=⟨.same rfl,.tEq (by congr 1;dsimp only;omega),.Qp (by simp) rfl rfl (zLB rfl),trivial⟩) (hs:=⟨.inl ⟨zLB rfl,_,rfl,.qE (by simp) (.gE rfl fun _=>rfl)⟩,trivial⟩)
end Go.GB.C29
namespace Go.GB.C26
open Go.GB
variable {P:Program}
section
variable {n:Nat} {js:List zx} {ks:List zJ} {sp:List zp} {D A:List Int}
end
end Go.GB.C26
namespace Go.GB.C26
open Go.GB
variable {P:Program}
section
variable {n:Nat} {js:List zx} {ks:List zJ} {sp:List zp} {D A:List Int}
end
end Go.GB.C26
namespace Go.GB.C26
open Go.GB
variable {P:Program}
def z3F (y j:zx):Bool:=(y.ty==j.ty)&&(y.field==j.field)&&(y.graph==j.graph)
def z0E (j:zx):List zx->Bool->Bool
 |[],b=>b
 |y::r,b=>z0E j r (if z3F y j=true then false else b)
def inR (n:Nat) (name:Str) (j:zx) (b:Bool):Bool:=(j.ty==name)&&decide (j.graph≥0)&&decide (j.graph<n)&&b
def WK (n:Nat) (name:Str):List zx->List zx->List zx->List zx
 |_,[],acc=>acc
 |pre,j::r,acc=>WK n name (pre++[j]) r (if inR n name j (z0E j pre true)=true then acc++[j] else acc)
section
variable {s:zH} {name:Str} {here sp:List zp} {js:List zx} {ks:List zJ}
end
end Go.GB.C26
namespace Go.GB.C26
open Go.GB
variable {P:Program}
section
variable {s:zH} {name:Str} {here sp:List zp} {js:List zx} {ks:List zJ} {D1 A1:List Int}
end
end Go.GB.C26
namespace Go.GB.C26
open Go.GB
variable {P:Program}
section
variable {s:zH} {name:Str} {here sp:List zp} {js:List zx} {ks:List zJ} {D A:List Int}
end
end Go.GB.C26
namespace Go.GB.C26
open Go.GB
variable {P:Program}
end Go.GB.C26
namespace Go.GB.C26
open Go.GB
def Q (x d:Int):Prop:=1<=x/\x<=d
theorem Q.mono {x d e:Int} (h:Q x d) (he:d<=e):Q x e:=⟨h.1,by have:=h.2;omega⟩
theorem Wi {a b d:Int} (ha:0<=a) (hb:0<=b):Q (zU a b) d↔Q a d∨Q b d:=by
 simp only [zU,Q];split
 ·next h=>simp at h;omega
 ·next h=>simp at h;omega
theorem z0F {a b:Int} (ha:0<=a) (hb:0<=b):0<=zU a b:=by
 simp only [zU];split<;>assumption
theorem z3N {a b:Int} (h:zU a b≠a) (hb:0<=b):zU a b=b/\0<b/\(a=0∨b<a):=by
 simp only [zU] at h⊢;split
 ·next e=>
  rw [if_pos e] at h
  simp at e;exact ⟨rfl,by omega,by omega⟩
 ·next e=>rw [if_neg e] at h;exact absurd Z h
section
variable {ι:Type} [DecidableEq ι]
def upd (v:ι->Int) (i:ι) (x:Int):ι->Int:=fun k=>if k=i then x else v k
def cnt (v:ι->Int):List ι->Nat
 |[]=>0
 |i::r=>(if v i=0 then 0 else 1)+cnt v r
def pot (v:ι->Int):List ι->Nat
 |[]=>0
 |i::r=>(if v i=0 then 4398046511104 else (v i).toNat)+pot v r
theorem z5a (v:ι->Int):∀fs:List ι,cnt v fs<=fs.length
 |[]=>Nat.le_refl _
 |i::r=>by have:=z5a v r;simp only [cnt,List.length_cons];split<;>omega
theorem z58 {v:ι->Int} {i:ι} {x:Int} (hx:x≠0):∀fs:List ι,cnt v fs<=cnt (upd v i x) fs
 |[]=>Nat.le_refl _
 |k::r=>by
  have:=z58 (v:=v) (i:=i) hx r;simp only [cnt];by_cases h:k=i
  ·have e:upd v i x k=x:=by simp [upd,h]
   rw [e];(repeat' split)<;>omega
  ·have e:upd v i x k=v k:=by simp [upd,h]
   rw [e];split<;>omega
theorem z6L {v:ι->Int} {i:ι} {x:Int} (hx:x≠0) (h0:v i=0):∀fs:List ι,i∈fs->cnt v fs+1<=cnt (upd v i x) fs
 |[],h=>by cases h
 |k::r,h=>by
  have h2:=z58 (v:=v) (i:=i) hx r;simp only [cnt];by_cases hk:k=i
  ·have e:upd v i x k=x:=by simp [upd,hk]
   rw [e,hk];simp only [h0,hx,if_true,if_false];omega
  ·have h3:=z6L (i:=i) hx h0 r (by cases h with|head=>exact absurd rfl hk|tail _ h=>exact h)
   have e:upd v i x k=v k:=by simp [upd,hk]
   rw [e];split<;>omega
theorem z6z {v:ι->Int} {i:ι} {x:Int} (hx:0<x) (h0:v i=0/\x<4398046511104∨x<v i):∀fs:List ι,pot (upd v i x) fs<=pot v fs
 |[]=>Nat.le_refl _
 |k::r=>by
  have h3:=z6z hx h0 r;simp only [pot];by_cases hk:k=i
  ·have e:upd v i x k=x:=by simp [upd,hk]
   rw [e,hk];(repeat' split)<;>omega
  ·have e:upd v i x k=v k:=by simp [upd,hk]
   rw [e];split<;>omega
theorem z92 {v:ι->Int} {i:ι} {x:Int} (hx:0<x) (h0:v i=0/\x<4398046511104∨x<v i):∀fs:List ι,i∈fs->pot (upd v i x) fs<pot v fs
 |[],h=>by cases h
 |k::r,h=>by
  have h2:=z6z hx h0 r;simp only [pot];by_cases hk:k=i
  ·have e:upd v i x k=x:=by simp [upd,hk]
   rw [e,hk];(repeat' split)<;>omega
  ·have h3:=z92 hx h0 r (by cases h with|head=>exact absurd rfl hk|tail _ h=>exact h)
   have e:upd v i x k=v k:=by simp [upd,hk]
   rw [e];split<;>omega
structure Bd (fs:List ι) (v:ι->Int):Prop where
 len:fs.length<=1000000
 nn:∀i,0<=v i
 le:∀i,v i<=1099511627776+cnt v fs
theorem Bd.lt {fs:List ι} {v:ι->Int} (h:Bd fs v) (i:ι):v i<=1099512627776:=by
 have:=h.le i;have:=z5a v fs;have:=h.len;omega
theorem Bd.step {fs:List ι} {v:ι->Int} (h:Bd fs v) {i:ι} {x:Int} (hi:i∈fs) (hx:0<x) (hc:v i=0∨x<v i) (hb:x<=1099511627776+cnt v fs+1):
  Bd fs (upd v i x)/\pot (upd v i x) fs<pot v fs:=by
 have h1:=z5a v fs;have h2:=h.len;have h3:=z58 (v:=v) (i:=i) (x:=x) (by omega) fs;refine ⟨⟨h2,fun k=>?_,fun k=>?_⟩,z92 hx ?_ fs hi⟩
 ·have e:upd v i x k=if k=i then x else v k:=rfl;rw [e];split
  ·omega
  ·exact h.nn k
 ·have e:upd v i x k=if k=i then x else v k:=rfl;rw [e];split
  ·rcases hc with hc|hc
   ·have:=z6L (x:=x) (by omega) hc fs hi;omega
   ·have:=h.le i;omega
  ·have:=h.le k;omega
 ·rcases hc with hc|hc
  ·left;exact ⟨hc,by omega⟩
  ·right;exact hc
end
inductive Fct where
 |a (g:Int)
 |l (f:Str)
 |j (j:zx)
inductive Der (n:Nat) (sp:List zp) (js:List zx) (ks:List zJ):Fct->Int->Prop where
 |spot (x:zp):x∈sp->Der n sp js ks (.a x.graph) x.depth
 |key (k:zJ) (d:Int):k∈ks->k.fields≠[]->(∀f,f∈k.fields->Der n sp js ks (.l f) d)->Der n sp js ks (.a k.graph) (d+1)
 |lj (j:zx) (d:Int):j∈js->Der n sp js ks (.j j) d->Der n sp js ks (.l j.field) d
 |lt (g:Nat) (d:Int):g<n->Der n sp js ks (.a g) d->Der n sp js ks (.l tyN) d
 |jx (j:zx) (x:zp):j.ext=true->x∈sp->x.graph=j.graph->j.field∈x.yc->Der n sp js ks (.j j) x.depth
 |j0 (j:zx) (d:Int):j.ext=false->j.req=[]->Der n sp js ks (.a j.graph) d->Der n sp js ks (.j j) d
 |jr (j:zx) (k:zJ) (d:Int):j.ext=false->j.req≠[]->k∈ks->k.graph=j.graph->k.fields≠[]->(∀f,f∈k.fields->Der n sp js ks (.l f) d)->(∀f,f∈j.req->Der n sp js ks (.l f) d)->Der n sp js ks (.j j) (d+1)
 |up (x:Fct) (d e:Int):Der n sp js ks x d->d<=e->Der n sp js ks x e
structure In (n:Nat) (sp:List zp) (js:List zx) (ks:List zJ):Prop where
 n0:n<=1000
 jl:js.length<=1000
 sg:∀x∈sp,0<=x.graph/\x.graph<n/\1<=x.depth/\x.depth<=1099511627776
 jg:∀j∈js,0<=j.graph/\j.graph<n
 kg:∀k∈ks,0<=k.graph/\k.graph<n
theorem wrap_small {x:Int} (h0:0<=x) (h1:x<=1099512627780):IntKind.i64.wrap x=x:=by
 exact wrap64 (by omega) (by omega)
structure Ans (n:Nat) (sp:List zp) (js:List zx) (ks:List zJ) (a:Nat->Int) (l:Str->Int) (rd:zx->Int):Prop where
 na:∀g,g<n->0<=a g
 nl:∀f,0<=l f
 nj:∀j,j∈js->0<=rd j
 qa:∀g,g<n->∀d,Q (a g) d↔Der n sp js ks (.a g) d
 ql:∀f d,Q (l f) d↔Der n sp js ks (.l f) d
 qj:∀j,j∈js->∀d,Q (rd j) d↔Der n sp js ks (.j j) d
def vR (F:List (Str×Int)) (A:List Int):Nat ⊕ Str->Int
 | .inl g=>A.getD g 0
 | .inr f=>(Z6 f F).getD 0
theorem zcI {F:List (Str×Int)} {A:List Int} {i:Nat} {x:Int} (hi:i<A.length):vR F (A.set i x)=upd (vR F A) (.inl i) x:=by
 funext k
 cases k with
 |inl g=>
  simp only [vR,upd,List.getD_eq_getElem?_getD,List.getElem?_set];by_cases h:i=g
  ·subst h;simp [hi]
  ·have:¬ g=i:=fun e=>h e.symm;simp [h,this]
 |inr f=>simp [vR,upd]
theorem zd1 {F:List (Str×Int)} {A:List Int} {f:Str} {x:Int}:vR (yl f x F) A=upd (vR F A) (.inr f) x:=by
 funext k
 cases k with
 |inl g=>simp [vR,upd]
 |inr f'=>
  simp only [vR,upd,Wj,Sum.inr.injEq];by_cases h:f'=f
  ·simp [h]
  ·simp [h]
def fsR (n:Nat) (js:List zx):List (Nat ⊕ Str):=(List.range n).map .inl++js.map (fun j=> .inr j.field)
section
variable {n:Nat} {sp:List zp} {js:List zx} {ks:List zJ} {F:List (Str×Int)} {A:List Int}
theorem z8o (hA:∀g,0<=A.getD g 0):∀(c i:Nat) (b:Int),0<=b->0<=z1o A i c b/\∀d,Q (z1o A i c b) d↔Q b d∨∃g,i<=g/\g<i+c/\Q (A.getD g 0) d
 |0,i,b,hb=>⟨hb,fun d=>by
  simp only [z1o]
  exact ⟨Or.inl,fun h=>h.elim id fun ⟨g,h1,h2,_⟩=>by omega⟩⟩
 |c+1,i,b,hb=>by
  obtain ⟨h1,h2⟩:=z8o hA c (i+1) (zU b (A.getD i 0)) (z0F hb (hA i));refine ⟨h1,fun d=>?_⟩;simp only [z1o];rw [h2 d,Wi hb (hA i)];constructor
  ·rintro ((h|h)|⟨g,g1,g2,g3⟩)
   ·exact Or.inl h
   ·exact Or.inr ⟨i,by omega,by omega,h⟩
   ·exact Or.inr ⟨g,by omega,by omega,g3⟩
  ·rintro (h|⟨g,g1,g2,g3⟩)
   ·exact Or.inl (Or.inl h)
   ·by_cases e:g=i
    ·subst e;exact Or.inl (Or.inr g3)
    ·exact Or.inr ⟨g,by omega,by omega,g3⟩
theorem WA (hv:∀i,0<=vR F A i) (f:Str):0<=Z3 n F A f/\∀d,Q (Z3 n F A f) d↔Q ((Z6 f F).getD 0) d∨(f=tyN/\∃g,g<n/\Q (A.getD g 0) d):=by
 have h0:0<=(Z6 f F).getD 0:=hv (.inr f);simp only [Z3];by_cases h:f=tyN
 ·rw [if_pos h];obtain ⟨h1,h2⟩:=z8o (fun g=>hv (.inl g)) n 0 _ h0;refine ⟨h1,fun d=>?_⟩;rw [h2 d];constructor
  ·rintro (h|⟨g,_,g2,g3⟩)
   ·exact Or.inl h
   ·exact Or.inr ⟨‹_›,g,by omega,g3⟩
  ·rintro (h|⟨_,g,g2,g3⟩)
   ·exact Or.inl h
   ·exact Or.inr ⟨g,by omega,by omega,g3⟩
 ·rw [if_neg h];exact ⟨h0,fun d=>⟨Or.inl,fun h'=>h'.elim id fun ⟨e,_⟩=>absurd e h⟩⟩
theorem zdV (hv:∀i,0<=vR F A i):∀(l:List Str) (m:Int),0<=m->0<=wU n F A l m/\∀d,Q (wU n F A l m) d↔(l=[]->1<=m)/\m<=d/\∀f,f∈l->Q (Z3 n F A f) d
 |[],m,hm=>⟨hm,fun d=>by simp [wU,Q]⟩
 |f::r,m,hm=>by
  obtain ⟨h1,h2⟩:=WA (n:=n) hv f;simp only [wU];by_cases h0:Z3 n F A f=0
  ·rw [if_pos h0]
   refine ⟨by omega,fun d=>?_⟩
   constructor
   ·intro h;have:=h.1;omega
   ·rintro ⟨_,_,h⟩;have:=(h f (List.mem_cons_self ..)).1;omega
  ·rw [if_neg h0]
   have hx:0<=(if Z3 n F A f>m then Z3 n F A f else m):=by split<;>omega
   obtain ⟨h3,h4⟩:=zdV hv r _ hx;refine ⟨h3,fun d=>?_⟩;rw [h4 d];constructor
   ·rintro ⟨a,b,c⟩
    refine ⟨fun e=>(by cases e),by split at b<;>omega,?_⟩
    intro f' hf'
    cases hf' with
    |head=>exact ⟨by omega,by split at b<;>omega⟩
    |tail _ h=>exact c f' h
   ·rintro ⟨a,b,c⟩;have h5:=c f (List.mem_cons_self ..);have:=h5.1;have:=h5.2
    refine ⟨fun _=>by split<;>omega,by split<;>omega,fun f' h=>c f' (List.mem_cons_of_mem _ h)⟩
theorem z7M (hv:∀i,0<=vR F A i) (l:List Str):0<=wU n F A l 0/\∀d,Q (wU n F A l 0) d↔l≠[]/\∀f,f∈l->Q (Z3 n F A f) d:=by
 obtain ⟨h1,h2⟩:=zdV (n:=n) hv l 0 (Int.le_refl 0);refine ⟨h1,fun d=>?_⟩;rw [h2 d];constructor
 ·rintro ⟨a,b,c⟩
  exact ⟨fun e=>by have:=a e;omega,c⟩
 ·rintro ⟨a,c⟩;refine ⟨fun e=>absurd e a,?_,c⟩
  cases l with
  |nil=>exact absurd rfl a
  |cons f r=>have h:=c f (List.mem_cons_self ..);have:=h.1;have:=h.2;omega
theorem zbH (hv:∀i,0<=vR F A i) (g:Int):∀(l:List zJ) (b:Int),0<=b->0<=y8 n F A g l b/\∀d,Q (y8 n F A g l b) d↔Q b d∨∃k,k∈l/\k.graph=g/\k.fields≠[]/\∀f,f∈k.fields->Q (Z3 n F A f) d
 |[],b,hb=>⟨hb,fun d=>by simp [y8]⟩
 |k::r,b,hb=>by
  obtain ⟨h1,h2⟩:=z7M (n:=n) hv k.fields;simp only [y8];by_cases hg:k.graph=g
  ·rw [if_pos hg];obtain ⟨h3,h4⟩:=zbH hv g r (zU b (wU n F A k.fields 0)) (z0F hb h1);refine ⟨h3,fun d=>?_⟩;rw [h4 d,Wi hb h1,h2 d];constructor
   ·rintro ((h|h)|⟨k',a,b,c⟩)
    ·exact Or.inl h
    ·exact Or.inr ⟨k,List.mem_cons_self ..,hg,h⟩
    ·exact Or.inr ⟨k',List.mem_cons_of_mem _ a,b,c⟩
   ·rintro (h|⟨k',a,b,c⟩)
    ·exact Or.inl (Or.inl h)
    ·cases a with
     |head=>exact Or.inl (Or.inr c)
     |tail _ a=>exact Or.inr ⟨k',a,b,c⟩
  ·rw [if_neg hg];obtain ⟨h3,h4⟩:=zbH hv g r b hb;refine ⟨h3,fun d=>?_⟩;rw [h4 d];constructor
   ·rintro (h|⟨k',a,b,c⟩)
    ·exact Or.inl h
    ·exact Or.inr ⟨k',List.mem_cons_of_mem _ a,b,c⟩
   ·rintro (h|⟨k',a,b,c⟩)
    ·exact Or.inl h
    ·cases a with
     |head=>exact absurd b hg
     |tail _ a=>exact Or.inr ⟨k',a,b,c⟩
theorem z5B (hv:∀i,0<=vR F A i) (g:Int):0<=y8 n F A g ks 0/\∀d,Q (y8 n F A g ks 0) d↔∃k,k∈ks/\k.graph=g/\k.fields≠[]/\∀f,f∈k.fields->Q (Z3 n F A f) d:=by
 obtain ⟨h1,h2⟩:=zbH (n:=n) hv g ks 0 (Int.le_refl 0);refine ⟨h1,fun d=>?_⟩;rw [h2 d]
 exact ⟨fun h=>h.elim (fun h=>by have:=h.1;omega) id,Or.inr⟩
theorem z7E (j:zx):∀(l:List zp) (b:Int),0<=b->(∀x,x∈l->1<=x.depth)->0<=z0m j l b/\∀d,Q (z0m j l b) d↔Q b d∨∃x,x∈l/\x.graph=j.graph/\j.field∈x.yc/\x.depth<=d
 |[],b,hb,_=>⟨hb,fun d=>by simp [z0m]⟩
 |x::r,b,hb,hx=>by
  have h1:=hx x (List.mem_cons_self ..);simp only [z0m];by_cases hg:(x.graph==j.graph&&decide (j.field∈x.yc))=true
  ·rw [if_pos hg];obtain ⟨h3,h4⟩:=z7E j r (zU b x.depth) (z0F hb (by omega)) (fun y hy=>hx y (List.mem_cons_of_mem _ hy));refine ⟨h3,fun d=>?_⟩
   have hg':x.graph=j.graph/\j.field∈x.yc:=by simpa using hg
   rw [h4 d,Wi hb (by omega)];constructor
   ·rintro ((h|h)|⟨k',a,b,c⟩)
    ·exact Or.inl h
    ·exact Or.inr ⟨x,List.mem_cons_self ..,hg'.1,hg'.2,h.2⟩
    ·exact Or.inr ⟨k',List.mem_cons_of_mem _ a,b,c⟩
   ·rintro (h|⟨k',a,b,c,e⟩)
    ·exact Or.inl (Or.inl h)
    ·cases a with
     |head=>exact Or.inl (Or.inr ⟨h1,e⟩)
     |tail _ a=>exact Or.inr ⟨k',a,b,c,e⟩
  ·rw [if_neg hg];obtain ⟨h3,h4⟩:=z7E j r b hb (fun y hy=>hx y (List.mem_cons_of_mem _ hy));refine ⟨h3,fun d=>?_⟩;rw [h4 d];constructor
   ·rintro (h|⟨k',a,b,c⟩)
    ·exact Or.inl h
    ·exact Or.inr ⟨k',List.mem_cons_of_mem _ a,b,c⟩
   ·rintro (h|⟨k',a,b,c,e⟩)
    ·exact Or.inl h
    ·cases a with
     |head=>exact absurd (by simp [b,c]) hg
     |tail _ a=>exact Or.inr ⟨k',a,b,c,e⟩
structure QT (n:Nat) (sp:List zp) (js:List zx) (ks:List zJ) (F:List (Str×Int)) (A:List Int):Prop where
 bd:Bd (fsR n js) (vR F A)
 la:n<=A.length
 sA:∀(g:Nat) d,Q (A.getD g 0) d->Der n sp js ks (.a g) d
 sF:∀f d,Q ((Z6 f F).getD 0) d->Der n sp js ks (.l f) d
 ss:∀x,x∈sp->Q (A.getD x.graph.toNat 0) x.depth
theorem QT.sL (h:QT n sp js ks F A) (f:Str) (d:Int) (hq:Q (Z3 n F A f) d):Der n sp js ks (.l f) d:=by
 rcases ((WA h.bd.nn f).2 d).1 hq with h1|⟨e,g,g1,g2⟩
 ·exact h.sF f d h1
 ·rw [e];exact .lt g d g1 (h.sA g d g2)
theorem z00 {B:Int} (hv:∀i,0<=vR F A i) (hB:∀i,vR F A i<=B) (f:Str) (d:Int) (hq:Q (Z3 n F A f) d):Q (Z3 n F A f) B:=by
 rw [(WA hv f).2 B]
 rcases ((WA hv f).2 d).1 hq with h1|⟨e,g,g1,g2⟩
 ·exact Or.inl ⟨h1.1,hB (.inr f)⟩
 ·exact Or.inr ⟨e,g,g1,g2.1,hB (.inl g)⟩
theorem z5y {B:Int} (hv:∀i,0<=vR F A i) (h0:0<=B) (hB:∀i,vR F A i<=B) (g:Int):y8 n F A g ks 0<=B:=by
 by_cases h:y8 n F A g ks 0=0
 ·omega
 ·obtain ⟨h1,h2⟩:=z5B (n:=n) (ks:=ks) hv g
  obtain ⟨k,a,b,c,e⟩:=(h2 (y8 n F A g ks 0)).1 ⟨by omega,by omega⟩
  exact ((h2 B).2 ⟨k,a,b,c,fun f hf=>z00 hv hB f _ (e f hf)⟩).2
theorem zeL {B:Int} (hv:∀i,0<=vR F A i) (h0:0<=B) (hB:∀i,vR F A i<=B) (l:List Str):wU n F A l 0<=B:=by
 by_cases h:wU n F A l 0=0
 ·omega
 ·obtain ⟨h1,h2⟩:=z7M (n:=n) hv l
  obtain ⟨a,e⟩:=(h2 (wU n F A l 0)).1 ⟨by omega,by omega⟩
  exact ((h2 B).2 ⟨a,fun f hf=>z00 hv hB f _ (e f hf)⟩).2
theorem qI (hi:In n sp js ks) (hv:∀i,0<=vR F A i) (hB:∀i,vR F A i<=1099512627776) (j:zx) (hj:0<=j.graph):0<=Zv n sp ks F A j/\∀d,Q (Zv n sp ks F A j) d↔
  (j.ext=true/\∃x,x∈sp/\x.graph=j.graph/\j.field∈x.yc/\x.depth<=d)∨
  (j.ext=false/\j.req=[]/\Q (A.getD j.graph.toNat 0) d)∨
  (j.ext=false/\j.req≠[]/\(∃k,k∈ks/\k.graph=j.graph/\k.fields≠[]/\∀f,f∈k.fields->Q (Z3 n F A f) (d - 1))/\∀f,f∈j.req->Q (Z3 n F A f) (d - 1)):=by
 simp only [Zv];by_cases he:j.ext=true
 ·rw [if_pos he];obtain ⟨h1,h2⟩:=z7E j sp 0 (Int.le_refl 0) (fun x hx=>(hi.sg x hx).2.2.1);refine ⟨h1,fun d=>?_⟩;rw [h2 d];simp only [he,true_and];constructor
  ·rintro (h|h)
   ·have:=h.1;omega
   ·exact Or.inl h
  ·rintro (h|h|h)
   ·exact Or.inr h
   ·exact absurd h.1 (by simp)
   ·exact absurd h.1 (by simp)
 ·rw [if_neg he]
  have he':j.ext=false:=by simpa using he
  by_cases hr:j.req.length=0
  ·rw [if_pos hr];have hr':j.req=[]:=List.length_eq_zero_iff.1 hr;refine ⟨hv (.inl _),fun d=>?_⟩;simp [he',hr']
  ·rw [if_neg hr];have hr':j.req≠[]:=fun e=>hr (by rw [e];rfl);obtain ⟨h1,h2⟩:=z5B (n:=n) (ks:=ks) hv j.graph;obtain ⟨h3,h4⟩:=z7M (n:=n) hv j.req;have h5:=z5y (n:=n) (ks:=ks) hv (by omega) hB j.graph;have h6:=zeL (n:=n) hv (by omega) hB j.req;by_cases hz:(y8 n F A j.graph ks 0==0||wU n F A j.req 0==0)=true
   ·rw [if_pos hz];refine ⟨Int.le_refl 0,fun d=>?_⟩;constructor
    ·intro h;have:=h.1;omega
    ·rintro (h|h|⟨_,_,h7,h8⟩)
     ·exact absurd h.1 he
     ·exact absurd h.2.1 hr'
     ·have a:=((h2 (d - 1)).2 h7).1;have b:=((h4 (d - 1)).2 ⟨hr',h8⟩).1;simp at hz;omega
   ·rw [if_neg hz];simp at hz;simp only [up]
    rw [wrap_small (by split<;>omega) (by split<;>omega)]
    refine ⟨by split<;>omega,fun d=>?_⟩
    constructor
    ·intro h
     refine Or.inr (Or.inr ⟨he',hr',(h2 (d - 1)).1 ⟨by omega,?_⟩,((h4 (d - 1)).1 ⟨by omega,?_⟩).2⟩)
     ·have:=h.2;split at this<;>omega
     ·have:=h.2;split at this<;>omega
    ·rintro (h|h|⟨_,_,h7,h8⟩)
     ·exact absurd h.1 he
     ·exact absurd h.2.1 hr'
     ·have a:=((h2 (d - 1)).2 h7).2;have b:=((h4 (d - 1)).2 ⟨hr',h8⟩).2
      exact ⟨by split<;>omega,by split<;>omega⟩
theorem zdn {B:Int} (hi:In n sp js ks) (hv:∀i,0<=vR F A i) (h0:1099511627776<=B) (hB:∀i,vR F A i<=B) (hB2:∀i,vR F A i<=1099512627776) (j:zx) (hj:0<=j.graph):Zv n sp ks F A j<=B+1:=by
 obtain ⟨h1,h2⟩:=qI (js:=js) hi hv hB2 j hj;by_cases h:Zv n sp ks F A j=0
 ·omega
 ·refine ((h2 (B+1)).2 ?_).2
  rcases (h2 (Zv n sp ks F A j)).1 ⟨by omega,by omega⟩ with ⟨a,x,b,c,d,e⟩|⟨a,b,c⟩|⟨a,b,⟨k,c,d,e,f⟩,g⟩
  ·exact Or.inl ⟨a,x,b,c,d,by have:=(hi.sg x b).2.2.2;omega⟩
  ·exact Or.inr (Or.inl ⟨a,b,c.1,by have:=hB (.inl j.graph.toNat);simp only [vR] at this;omega⟩)
  ·refine Or.inr (Or.inr ⟨a,b,⟨k,c,d,e,fun x hx=>?_⟩,fun x hx=>?_⟩)
   ·exact (z00 hv hB x _ (f x hx)).mono (by omega)
   ·exact (z00 hv hB x _ (g x hx)).mono (by omega)
theorem QT.sJ (h:QT n sp js ks F A) (hi:In n sp js ks) (j:zx) (hj:0<=j.graph) (d:Int) (hq:Q (Zv n sp ks F A j) d):Der n sp js ks (.j j) d:=by
 rcases ((qI hi h.bd.nn h.bd.lt j hj).2 d).1 hq with ⟨a,x,b,c,e,f⟩|⟨a,b,c⟩|⟨a,b,⟨k,c,e,f,g⟩,g'⟩
 ·exact .up _ _ _ (.jx j x a b c e) f
 ·refine .j0 j d a b ?_;have:=h.sA _ _ c
  rwa [Int.toNat_of_nonneg hj] at this
 ·have:=Der.jr (n:=n) (sp:=sp) (js:=js) (ks:=ks) j k (d - 1) a b c e f (fun x hx=>h.sL x _ (g x hx)) (fun x hx=>h.sL x _ (g' x hx))
  rwa [show d - 1+1=d by omega] at this
theorem z4M (hi:In n sp js ks):∀(c i:Nat) (A:List Int) (ch:Bool),QT n sp js ks F A->i+c=n->
  QT n sp js ks F (gR n F ks i c A ch).1/\pot (vR F (gR n F ks i c A ch).1) (fsR n js)<=pot (vR F A) (fsR n js)/\
  ((gR n F ks i c A ch).2=true->ch=true∨pot (vR F (gR n F ks i c A ch).1) (fsR n js)<pot (vR F A) (fsR n js))/\
  ((gR n F ks i c A ch).2=false->ch=false/\(gR n F ks i c A ch).1=A/\∀g:Nat,i<=g->g<n->y8 n F A g ks 0>0->zU (A.getD g 0) (IntKind.i64.wrap (y8 n F A g ks 0+1))=A.getD g 0)
 |0,i,A,ch,h,hc=>by
  simp only [gR]
  exact ⟨h,Nat.le_refl _,Or.inl,fun e=>⟨e,trivial,fun g g1 g2=>by omega⟩⟩
 |c+1,i,A,ch,h,hc=>by
  have hkl:=z5y (n:=n) (ks:=ks) h.bd.nn (by have:=z5a (vR F A) (fsR n js);omega) h.bd.le i;have hkl2:=z5y (n:=n) (ks:=ks) h.bd.nn (by omega) h.bd.lt i;obtain ⟨hk1,hk2⟩:=z5B (n:=n) (ks:=ks) h.bd.nn (i:Int);simp only [gR];by_cases hk:y8 n F A i ks 0>0
  ·rw [if_pos hk];have hw:IntKind.i64.wrap (y8 n F A i ks 0+1)=y8 n F A i ks 0+1:=wrap_small (by omega) (by omega);have hA0:0<=A.getD i 0:=h.bd.nn (.inl i);by_cases hl:zU (A.getD i 0) (IntKind.i64.wrap (y8 n F A i ks 0+1))≠A.getD i 0
   ·rw [if_pos hl];rw [hw] at hl⊢;have hx:=z3N hl (by omega);rw [hx.1];obtain ⟨b1,b2⟩:=h.bd.step (i:= .inl i) (x:=y8 n F A i ks 0+1) (by simp [fsR];omega) (by omega) hx.2.2 (by omega);rw [←zcI (by have:=h.la;omega)] at b1 b2
    have hD:Der n sp js ks (.a i) (y8 n F A i ks 0+1):=by
     obtain ⟨k,a,b,c,e⟩:=(hk2 (y8 n F A i ks 0)).1 ⟨by omega,by omega⟩
     rw [←b];rw [←b] at e;exact .key k _ a c fun f hf=>h.sL f _ (e f hf)
    have hI:QT n sp js ks F (A.set i (y8 n F A i ks 0+1)):=by
     refine ⟨b1,by rw [List.length_set];exact h.la,fun g d hq=>?_,h.sF,fun x hx'=>?_⟩
     ·have e:(A.set i (y8 n F A i ks 0+1)).getD g 0=if i=g then y8 n F A i ks 0+1 else A.getD g 0:=by
       rw [List.getD_eq_getElem?_getD,List.getElem?_set];by_cases hig:i=g
       ·subst hig;have:=h.la;simp [show i<A.length by omega]
       ·simp [hig]
      rw [e] at hq;by_cases hig:i=g
      ·subst hig;rw [if_pos rfl] at hq;exact .up _ _ _ hD hq.2
      ·rw [if_neg hig] at hq;exact h.sA g d hq
     ·have e:(A.set i (y8 n F A i ks 0+1)).getD x.graph.toNat 0=if i=x.graph.toNat then y8 n F A i ks 0+1 else A.getD x.graph.toNat 0:=by
       rw [List.getD_eq_getElem?_getD,List.getElem?_set];by_cases hig:i=x.graph.toNat
       ·rw [←hig];have:=h.la;simp [show i<A.length by omega]
       ·simp [hig]
      rw [e];have hq:=h.ss x hx';by_cases hig:i=x.graph.toNat
      ·rw [if_pos hig];rw [←hig] at hq;have a1:=hq.1;have a2:=hq.2
       exact ⟨by omega,by omega⟩
      ·rw [if_neg hig];exact hq
    obtain ⟨r1,r2,r3,r4⟩:=z4M hi c (i+1) (A.set i (y8 n F A i ks 0+1)) true hI (by omega)
    refine ⟨r1,by omega,fun _=>Or.inr (by omega),fun e=>?_⟩
    have:=(r4 e).1;cases this
   ·rw [if_neg hl];obtain ⟨r1,r2,r3,r4⟩:=z4M hi c (i+1) A ch h (by omega);refine ⟨r1,r2,r3,fun e=>?_⟩;obtain ⟨e1,e2,e3⟩:=r4 e;refine ⟨e1,e2,fun g g1 g2 g3=>?_⟩;by_cases hg:g=i
    ·subst hg;exact Decidable.not_not.1 hl
    ·exact e3 g (by omega) g2 g3
  ·rw [if_neg hk];obtain ⟨r1,r2,r3,r4⟩:=z4M hi c (i+1) A ch h (by omega);refine ⟨r1,r2,r3,fun e=>?_⟩;obtain ⟨e1,e2,e3⟩:=r4 e;refine ⟨e1,e2,fun g g1 g2 g3=>?_⟩;by_cases hg:g=i
   ·subst hg;exact absurd g3 hk
   ·exact e3 g (by omega) g2 g3
theorem z75 (hi:In n sp js ks):∀(l:List zx) (F:List (Str×Int)) (ch:Bool),QT n sp js ks F A->(∀j,j∈l->j∈js)->
  QT n sp js ks (jR n sp ks A l F ch).1 A/\pot (vR (jR n sp ks A l F ch).1 A) (fsR n js)<=pot (vR F A) (fsR n js)/\
  ((jR n sp ks A l F ch).2=true->ch=true∨pot (vR (jR n sp ks A l F ch).1 A) (fsR n js)<pot (vR F A) (fsR n js))/\
  ((jR n sp ks A l F ch).2=false->ch=false/\(jR n sp ks A l F ch).1=F/\∀j,j∈l->zU ((Z6 j.field F).getD 0) (Zv n sp ks F A j)=(Z6 j.field F).getD 0)
 |[],F,ch,h,hc=>by
  simp only [jR]
  exact ⟨h,Nat.le_refl _,Or.inl,fun e=>⟨e,trivial,fun j hj=>by cases hj⟩⟩
 |j::r,F,ch,h,hc=>by
  have hj:=hc j (List.mem_cons_self ..);have hg:=(hi.jg j hj).1;have hkl:=zdn (js:=js) hi h.bd.nn (by omega) h.bd.le h.bd.lt j hg;obtain ⟨hk1,hk2⟩:=qI (js:=js) hi h.bd.nn h.bd.lt j hg;have hF0:0<=(Z6 j.field F).getD 0:=h.bd.nn (.inr j.field);simp only [jR];by_cases hl:zU ((Z6 j.field F).getD 0) (Zv n sp ks F A j)≠(Z6 j.field F).getD 0
  ·rw [if_pos hl];have hx:=z3N hl hk1;rw [hx.1];obtain ⟨b1,b2⟩:=h.bd.step (i:= .inr j.field) (x:=Zv n sp ks F A j) (by simp only [fsR,List.mem_append,List.mem_map];exact Or.inr ⟨j,hj,rfl⟩) hx.2.1 hx.2.2 (by omega);rw [←zd1] at b1 b2
   have hI:QT n sp js ks (yl j.field (Zv n sp ks F A j) F) A:=by
    refine ⟨b1,h.la,h.sA,fun f d hq=>?_,h.ss⟩;rw [Wj] at hq;by_cases hf:f=j.field
    ·rw [if_pos hf] at hq;rw [hf];exact .lj j d hj (h.sJ hi j hg d hq)
    ·rw [if_neg hf] at hq;exact h.sF f d hq
   obtain ⟨r1,r2,r3,r4⟩:=z75 hi r (yl j.field (Zv n sp ks F A j) F) true hI (fun x hx=>hc x (List.mem_cons_of_mem _ hx))
   refine ⟨r1,by omega,fun _=>Or.inr (by omega),fun e=>?_⟩
   have:=(r4 e).1;cases this
  ·rw [if_neg hl];obtain ⟨r1,r2,r3,r4⟩:=z75 hi r F ch h (fun x hx=>hc x (List.mem_cons_of_mem _ hx));refine ⟨r1,r2,r3,fun e=>?_⟩;obtain ⟨e1,e2,e3⟩:=r4 e;refine ⟨e1,e2,fun j' hj'=>?_⟩
   cases hj' with
   |head=>exact Decidable.not_not.1 hl
   |tail _ h=>exact e3 j' h
structure ClR (n:Nat) (sp:List zp) (js:List zx) (ks:List zJ) (F:List (Str×Int)) (A:List Int):Prop where
 cg:∀g:Nat,g<n->y8 n F A g ks 0>0->zU (A.getD g 0) (IntKind.i64.wrap (y8 n F A g ks 0+1))=A.getD g 0
 cj:∀j,j∈js->zU ((Z6 j.field F).getD 0) (Zv n sp ks F A j)=(Z6 j.field F).getD 0
theorem z5J (hi:In n sp js ks):∀(m:Nat) (F:List (Str×Int)) (A:List Int),pot (vR F A) (fsR n js)<m->QT n sp js ks F A->
  ∃fuel F1 A1,stops n sp js ks fuel F A/\z1l n sp js ks fuel F A=(F1,A1)/\QT n sp js ks F1 A1/\ClR n sp js ks F1 A1/\A1.length=A.length
 |0,F,A,hm,_=>by omega
 |m+1,F,A,hm,h=>by
  obtain ⟨g1,g2,g3,g4⟩:=z4M hi n 0 A false h (by omega);obtain ⟨j1,j2,j3,j4⟩:=z75 hi js F (gR n F ks 0 n A false).2 g1 (fun _ h=>h)
  have hlen:∀(c i:Nat) (A:List Int) (ch:Bool),(gR n F ks i c A ch).1.length=A.length:=by
   intro c
   induction c with
   |zero=>intros;rfl
   |succ c ih=>
    intro i A ch;simp only [gR];split
    ·split
     ·rw [ih];simp
     ·rw [ih]
    ·rw [ih]
  by_cases hc:(ZJ n sp js ks F A).2.2=true
  ·have hp:pot (vR (ZJ n sp js ks F A).1 (ZJ n sp js ks F A).2.1) (fsR n js)<pot (vR F A) (fsR n js):=by
    simp only [ZJ] at hc⊢
    rcases j3 hc with e|e
    ·rcases g3 e with e|e
     ·cases e
     ·omega
    ·omega
   obtain ⟨fuel,F1,A1,r1,r2,r3,r4,r5⟩:=z5J hi m (ZJ n sp js ks F A).1 (ZJ n sp js ks F A).2.1 (by omega) j1;refine ⟨fuel+1,F1,A1,fun _=>r1,?_,r3,r4,?_⟩
   ·simp only [z1l];rw [if_pos hc];exact r2
   ·rw [r5];exact hlen ..
  ·have hc':(jR n sp ks (gR n F ks 0 n A false).1 js F (gR n F ks 0 n A false).2).2=false:=by simpa [ZJ] using hc
   obtain ⟨e1,e2,e3⟩:=j4 hc';obtain ⟨f1,f2,f3⟩:=g4 e1;refine ⟨1,F,A,fun e=>absurd e hc,?_,h,⟨fun g hg=>f3 g (Nat.zero_le _) hg,?_⟩,rfl⟩
   ·simp only [z1l];rw [if_neg hc];simp only [ZJ,f2] at e2⊢;rw [e2]
   ·rw [f2] at e3;exact e3
theorem zfE (hi:In n sp js ks) (h:QT n sp js ks F A) (hc:ClR n sp js ks F A):Ans n sp js ks (fun g=>A.getD g 0) (Z3 n F A) (Zv n sp ks F A):=by
 have hcomp:∀x d,Der n sp js ks x d->match x with
   | .a g=>∀g':Nat,g=g'->g'<n->Q (A.getD g' 0) d
   | .l f=>Q (Z3 n F A f) d
   | .j j=>j∈js->Q (Zv n sp ks F A j) d:=by
  intro x d hD
  induction hD with
  |spot x hx=>
   intro g' e _;have:=h.ss x hx
   rwa [e,Int.toNat_natCast] at this
  |key k d hk hne hf ih=>
   intro g' e hg';obtain ⟨h1,h2⟩:=z5B (n:=n) (ks:=ks) h.bd.nn (g':Int);have hq:=(h2 d).2 ⟨k,hk,e,hne,ih⟩;have hkl:=z5y (n:=n) (ks:=ks) h.bd.nn (by omega) h.bd.lt g';have hw:IntKind.i64.wrap (y8 n F A g' ks 0+1)=y8 n F A g' ks 0+1:=wrap_small (by omega) (by omega);have hl:=hc.cg g' hg' (by have:=hq.1;omega);have a1:=hq.1;have a2:=hq.2;show Q (A.getD g' 0) (d+1);rw [←hl];refine (Wi (h.bd.nn (.inl g')) (by rw [hw];omega)).2 (Or.inr ?_)
   rw [hw];exact ⟨by omega,by omega⟩
  |lj j d hj hD ih=>
   have hl:=hc.cj j hj;refine ((WA h.bd.nn j.field).2 d).2 (Or.inl ?_);rw [←hl];exact (Wi (h.bd.nn (.inr j.field)) (qI hi h.bd.nn h.bd.lt j (hi.jg j hj).1).1).2 (Or.inr (ih hj))
  |lt g d hg hD ih=>exact ((WA h.bd.nn tyN).2 d).2 (Or.inr ⟨rfl,g,hg,ih g rfl hg⟩)
  |jx j x he hx hg hf=>
   intro hj;exact ((qI hi h.bd.nn h.bd.lt j (hi.jg j hj).1).2 _).2 (Or.inl ⟨he,x,hx,hg,hf,Int.le_refl _⟩)
  |j0 j d he hr hD ih=>
   intro hj;have:=hi.jg j hj;exact ((qI hi h.bd.nn h.bd.lt j (hi.jg j hj).1).2 _).2 (Or.inr (Or.inl ⟨he,hr,ih j.graph.toNat (by omega) (by omega)⟩))
  |jr j k d he hr hk hg hne hf hf' ih ih'=>
   intro hj;refine ((qI hi h.bd.nn h.bd.lt j (hi.jg j hj).1).2 _).2 (Or.inr (Or.inr ⟨he,hr,⟨k,hk,hg,hne,?_⟩,?_⟩))
   ·rw [show d+1 - 1=d by omega];exact ih
   ·rw [show d+1 - 1=d by omega];exact ih'
  |up x d e hD hle ih=>
   cases x with
   |a g=>exact fun g' e hg'=>(ih g' e hg').mono hle
   |l f=>exact Q.mono ih hle
   |j j=>exact fun hj=>(ih hj).mono hle
 exact ⟨fun g _=>h.bd.nn (.inl g),fun f=>(WA h.bd.nn f).1,fun j hj=>(qI hi h.bd.nn h.bd.lt j (hi.jg j hj).1).1,
  fun g hg d=>⟨h.sA g d,fun hD=>hcomp _ d hD g rfl hg⟩,fun f d=>⟨h.sL f d,fun hD=>hcomp _ d hD⟩,fun j hj d=>⟨h.sJ hi j (hi.jg j hj).1 d,fun hD=>hcomp _ d hD hj⟩⟩
end
theorem zcl {A:List Int} {i:Nat} {x:Int} (hi:i<A.length) (g:Nat):(A.set i x).getD g 0=if g=i then x else A.getD g 0:=by
 simp only [List.getD_eq_getElem?_getD,List.getElem?_set];by_cases h:i=g
 ·subst h;simp [hi]
 ·have:¬ g=i:=fun e=>h e.symm;simp [h,this]
section
variable {n:Nat} {sp:List zp} {js:List zx} {ks:List zJ} {D A:List Int}
end
theorem z2Z (j:zx):∀(l:List zx) (b:Bool),z0E j l b=(b&&!(l.any fun y=>z3F y j))
 |[],b=>by simp [z0E]
 |y::r,b=>by
  simp only [z0E,z2Z j r,List.any_cons]
  cases z3F y j<;>cases b<;>simp
theorem z3L (y j:zx):z3F y j=true↔y.ty=j.ty/\y.field=j.field/\y.graph=j.graph:=by
 simp [z3F,and_assoc]
theorem z0e (n:Nat) (name:Str):∀(l pre acc:List zx) (seen:List ((Str×Int)×Bool)),
  (∀f g,(Z6 (f,g) seen).getD false=true↔∃y,y∈pre/\y.ty=name/\0<=y.graph/\y.graph<n/\y.field=f/\y.graph=g)->wv n name l acc seen=WK n name pre l acc
 |[],pre,acc,seen,h=>rfl
 |j::r,pre,acc,seen,h=>by
  have hs:=h j.field j.graph;simp only [wv,WK];by_cases hb:j.ty=name/\0<=j.graph/\j.graph<n
  ·obtain ⟨hn,h0,h1⟩:=hb
   have e1:(j.ty==name)=true:=by simpa using hn
   have e2:decide (j.graph≥0)=true:=by simpa using h0
   have e3:decide (j.graph<(n:Int))=true:=by simpa using h1
   have e4:(pre.any fun y=>z3F y j)=(Z6 (j.field,j.graph) seen).getD false:=by
    rw [Bool.eq_iff_iff,hs,List.any_eq_true];constructor
    ·rintro ⟨y,hy,he⟩;rw [z3L] at he
     exact ⟨y,hy,by rw [he.1,hn],by omega,by omega,he.2.1,he.2.2⟩
    ·rintro ⟨y,hy,a,b,c,d,e⟩
     exact ⟨y,hy,(z3L y j).2 ⟨by rw [a,hn],d,e⟩⟩
   have ei:inj n name seen j=!((Z6 (j.field,j.graph) seen).getD false):=by simp only [inj,e1,e2,e3,Bool.true_and]
   have er:inR n name j (z0E j pre true)=!((Z6 (j.field,j.graph) seen).getD false):=by simp only [inR,z2Z,e1,e2,e3,e4,Bool.true_and]
   by_cases hk:(Z6 (j.field,j.graph) seen).getD false=true
   ·rw [if_neg (by rw [ei,hk];simp),if_neg (by rw [er,hk];simp)];refine z0e n name r (pre++[j]) acc seen fun f g=>?_;rw [h f g];constructor
    ·rintro ⟨y,hy,hh⟩;exact ⟨y,List.mem_append_left _ hy,hh⟩
    ·rintro ⟨y,hy,a,b,c,d,e⟩
     rcases List.mem_append.1 hy with hy|hy
     ·exact ⟨y,hy,a,b,c,d,e⟩
     ·simp at hy;subst hy;obtain ⟨z,hz,a',b',c',d',e'⟩:=hs.1 hk
      exact ⟨z,hz,a',b',c',by rw [d',d],by rw [e',e]⟩
   ·rw [Bool.not_eq_true] at hk;rw [if_pos (by rw [ei,hk];simp),if_pos (by rw [er,hk];simp)];refine z0e n name r (pre++[j]) (acc++[j]) _ fun f g=>?_;rw [Wj];by_cases hfg:(f,g)=(j.field,j.graph)
    ·rw [if_pos hfg];simp only [Option.getD_some,true_iff];cases hfg
     exact ⟨j,by simp,hn,h0,h1,rfl,rfl⟩
    ·rw [if_neg hfg,h f g];constructor
     ·rintro ⟨y,hy,hh⟩;exact ⟨y,List.mem_append_left _ hy,hh⟩
     ·rintro ⟨y,hy,a,b,c,d,e⟩
      rcases List.mem_append.1 hy with hy|hy
      ·exact ⟨y,hy,a,b,c,d,e⟩
      ·simp at hy;subst hy;exact absurd (by rw [d,e]) hfg
  ·have e1:((j.ty==name)&&decide (j.graph≥0)&&decide (j.graph<(n:Int)))=false:=by
    rw [Bool.eq_false_iff];intro he;simp at he;exact hb ⟨he.1.1,he.1.2,he.2⟩
   rw [if_neg (by simp only [inj,e1];simp),if_neg (by simp only [inR,e1];simp)];refine z0e n name r (pre++[j]) acc seen fun f g=>?_;rw [h f g];constructor
   ·rintro ⟨y,hy,hh⟩;exact ⟨y,List.mem_append_left _ hy,hh⟩
   ·rintro ⟨y,hy,a,b,c,d,e⟩
    rcases List.mem_append.1 hy with hy|hy
    ·exact ⟨y,hy,a,b,c,d,e⟩
    ·simp at hy;subst hy;exact absurd ⟨a,b,c⟩ hb
theorem QG (n:Nat) (name:Str):∀(l pre acc:List zx) (x:zx),x∈WK n name pre l acc->x∈acc∨(x∈l/\x.ty=name/\0<=x.graph/\x.graph<n)
 |[],pre,acc,x,h=>Or.inl h
 |j::r,pre,acc,x,h=>by
  simp only [WK] at h
  rcases QG n name r _ _ x h with h|h
  ·split at h
   ·next hb=>
    rcases List.mem_append.1 h with h|h
    ·exact Or.inl h
    ·simp at h;subst h;simp [inR] at hb;exact Or.inr ⟨List.mem_cons_self ..,hb.1.1.1,hb.1.1.2,hb.1.2⟩
   ·exact Or.inl h
  ·exact Or.inr ⟨List.mem_cons_of_mem _ h.1,h.2⟩
theorem z2s (n:Nat) (name:Str):∀(l pre acc:List zx),(WK n name pre l acc).length<=acc.length+l.length
 |[],pre,acc=>by simp [WK]
 |j::r,pre,acc=>by
  simp only [WK];refine Nat.le_trans (z2s n name r _ _) ?_
  split<;>simp<;>omega
theorem Qh (n:Nat) (name:Str):∀(l acc:List zJ) (x:zJ),x∈wT n name l acc->x∈acc∨(x∈l/\x.ty=name/\0<=x.graph/\x.graph<n)
 |[],acc,x,h=>Or.inl h
 |j::r,acc,x,h=>by
  simp only [wT] at h;split at h
  ·next hb=>
   rcases Qh n name r _ x h with h|h
   ·rcases List.mem_append.1 h with h|h
    ·exact Or.inl h
    ·simp at h;subst h;simp [ink] at hb;exact Or.inr ⟨List.mem_cons_self ..,hb.1.1,hb.1.2,hb.2⟩
   ·exact Or.inr ⟨List.mem_cons_of_mem _ h.1,h.2⟩
  ·rcases Qh n name r _ x h with h|h
   ·exact Or.inl h
   ·exact Or.inr ⟨List.mem_cons_of_mem _ h.1,h.2⟩
theorem z0w (n:Nat) (name:Str):∀(l acc:List zJ),(wT n name l acc).length<=acc.length+l.length
 |[],acc=>by simp [wT]
 |j::r,acc=>by
  simp only [wT];split
  ·refine Nat.le_trans (z0w n name r _) ?_;simp;omega
  ·refine Nat.le_trans (z0w n name r _) ?_;simp
theorem z8h (n:Nat) (x:zp):inb n x=true↔0<=x.graph/\x.graph<n/\1<=x.depth/\x.depth<=1099511627776:=by
 simp [inb,and_assoc]
theorem z0L (n:Nat):∀(l sp:List zp) (A:List Int),n<=A.length->(∀g,0<=A.getD g 0/\A.getD g 0<=1099511627776)->(∀x,x∈sp->inb n x=true/\Q (A.getD x.graph.toNat 0) x.depth)->(∀(g:Nat) d,Q (A.getD g 0) d->∃x,x∈sp/\x.graph=g/\x.depth<=d)->
  (yG n l sp A).1=sp++l.filter (inb n)/\(yG n l sp A).2.length=A.length/\(∀g,0<=(yG n l sp A).2.getD g 0/\(yG n l sp A).2.getD g 0<=1099511627776)/\
  (∀x,x∈(yG n l sp A).1->inb n x=true/\Q ((yG n l sp A).2.getD x.graph.toNat 0) x.depth)/\(∀(g:Nat) d,Q ((yG n l sp A).2.getD g 0) d->∃x,x∈(yG n l sp A).1/\x.graph=g/\x.depth<=d)
 |[],sp,A,h0,h1,h2,h3=>by simp only [yG,List.filter_nil,List.append_nil];exact ⟨trivial,trivial,h1,h2,h3⟩
 |x::r,sp,A,h0,h1,h2,h3=>by
  simp only [yG];by_cases hb:inb n x=true
  ·rw [if_pos hb];have hx:=(z8h n x).1 hb
   have hg:x.graph.toNat<A.length:=by omega
   have e:∀g,(A.set x.graph.toNat (zU (A.getD x.graph.toNat 0) x.depth)).getD g 0=if g=x.graph.toNat then zU (A.getD x.graph.toNat 0) x.depth else A.getD g 0:=zcl hg;have hl:∀d,Q (zU (A.getD x.graph.toNat 0) x.depth) d↔Q (A.getD x.graph.toNat 0) d∨Q x.depth d:=fun d=>Wi (h1 _).1 (by omega)
   have hl0:0<=zU (A.getD x.graph.toNat 0) x.depth/\zU (A.getD x.graph.toNat 0) x.depth<=1099511627776:=by
    have:=(h1 x.graph.toNat)
    simp only [zU];split<;>omega
   obtain ⟨k1,k2,k3,k4,k5⟩:=z0L n r (sp++[x]) (A.set x.graph.toNat (zU (A.getD x.graph.toNat 0) x.depth)) (by simpa using h0)
    (fun g=>by
     rw [e];split
     ·exact hl0
     ·exact h1 g)
    (fun y hy=>by
     rcases List.mem_append.1 hy with hy|hy
     ·refine ⟨(h2 y hy).1,?_⟩;rw [e];split
      ·next he=>rw [hl,←he];exact Or.inl (h2 y hy).2
      ·exact (h2 y hy).2
     ·simp at hy;subst hy;refine ⟨hb,?_⟩;rw [e,if_pos rfl,hl]
      exact Or.inr ⟨by omega,by omega⟩)
    (fun g d hq=>by
     rw [e] at hq;split at hq
     ·next he=>
      rw [hl] at hq
      rcases hq with hq|hq
      ·obtain ⟨y,a,b,c⟩:=h3 _ d hq
       exact ⟨y,List.mem_append_left _ a,by rw [b,he],c⟩
      ·exact ⟨x,by simp,by omega,hq.2⟩
     ·obtain ⟨y,a,b,c⟩:=h3 _ d hq
      exact ⟨y,List.mem_append_left _ a,b,c⟩)
   refine ⟨by rw [k1,List.filter_cons,if_pos hb];simp,by rw [k2];simp,k3,k4,k5⟩
  ·rw [if_neg hb];obtain ⟨k1,k2,k3,k4,k5⟩:=z0L n r sp A h0 h1 h2 h3
   refine ⟨by rw [k1,List.filter_cons,if_neg hb],k2,k3,k4,k5⟩
structure Small (s:zH) (here:List zp):Prop where
 g:s.z4.length<=10
 j:s.zE.length<=300
 k:s.keys.length<=100
 h:here.length<=4000
 jr:∀j,j∈s.zE->j.req.length<=10/\j.yc.length<=10
 kf:∀k,k∈s.keys->k.fields.length<=10
 ho:∀x,x∈here->x.ok
abbrev YE (n:Nat) (here:List zp):List zp:=here.filter (inb n)
abbrev Yg (s:zH) (name:Str):List zx:=WK s.z4.length name [] s.zE []
abbrev wo (s:zH) (name:Str):List zJ:=wT s.z4.length name s.keys []
theorem W5 (s:zH) (name:Str):(Yg s name).length<=s.zE.length:=by
 have:=z2s s.z4.length name s.zE [] [];simpa using this
theorem z7Q (s:zH) (name:Str):(wo s name).length<=s.keys.length:=by
 have:=z0w s.z4.length name s.keys [];simpa using this
theorem z6I (n:Nat) (here:List zp):(YE n here).length<=here.length:=List.length_filter_le (inb n) here
theorem zgn {s:zH} {name:Str} {here:List zp} (h:Small s here):In s.z4.length (YE s.z4.length here) (Yg s name) (wo s name) where
 n0:=by have:=h.g;omega
 jl:=by have:=W5 s name;have:=h.j;omega
 sg:=fun x hx=>(z8h _ x).1 (List.mem_filter.1 hx).2
 jg:=fun j hj=>by
  rcases QG _ _ _ _ _ j hj with e|e
  ·cases e
  ·exact e.2.2
 kg:=fun k hk=>by
  rcases Qh _ _ _ _ k hk with e|e
  ·cases e
  ·exact e.2.2
theorem Qu {s:zH} {name:Str} {here:List zp} (h:Small s here) {j:zx} (hj:j∈Yg s name):j.req.length<=10/\j.yc.length<=10:=by
 rcases QG _ _ _ _ _ j hj with e|e
 ·cases e
 ·exact h.jr j e.1
theorem z51 {s:zH} {name:Str} {here:List zp} (h:Small s here) {k:zJ} (hk:k∈wo s name):k.fields.length<=10:=by
 rcases Qh _ _ _ _ k hk with e|e
 ·cases e
 ·exact h.kf k e.1
theorem zfP (n:Nat):((List.replicate n (List.replicate 8 (0:Int))).flatten).length=8*n/\∀g,((List.replicate n (List.replicate 8 (0:Int))).flatten).getD g 0=0:=by
 have:(List.replicate n (List.replicate 8 (0:Int))).flatten=List.replicate (n*8) 0:=by
  rw [List.flatten_replicate_replicate]
 rw [this]
 refine ⟨by simp;omega,fun g=>?_⟩
 rw [List.getD_eq_getElem?_getD,List.getElem?_replicate]
 split<;>rfl
theorem zeX {s:zH} {name:Str} {here:List zp} (h:Small s here):∃F A,Sol s name here (YE s.z4.length here) (Yg s name) (wo s name) F A/\
  Ans s.z4.length (YE s.z4.length here) (Yg s name) (wo s name) (fun g=>A.getD g 0) (Z3 s.z4.length F A) (Zv s.z4.length (YE s.z4.length here) (wo s name) F A)/\A.length=8*(s.z4.length/8+1)/\∀g,A.getD g 0<=1099512627776:=by
 have hi:=zgn (name:=name) h;have hg:=h.g;have hj:=h.j;have hk:=h.k;have hh:=h.h;obtain ⟨f1,f2⟩:=zfP (s.z4.length/8+1)
 obtain ⟨k1,k2,k3,k4,k5⟩:=z0L s.z4.length here [] (List.replicate (s.z4.length/8+1) (List.replicate 8 0)).flatten (by omega) (fun g=>by rw [f2];omega) (fun x hx=>by cases hx) (fun g d hq=>by rw [f2] at hq;have:=hq.1;omega)
 generalize hS:yG s.z4.length here [] (List.replicate (s.z4.length/8+1) (List.replicate 8 0)).flatten=S at k1 k2 k3 k4 k5;obtain ⟨sp,A0⟩:=S;simp only [List.nil_append] at k1 k2 k3 k4 k5;subst k1;have hjl:=W5 s name;have hkl:=z7Q s name;have hsl:=z6I s.z4.length here
 have hv:∀i,0<=vR [] A0 i/\vR [] A0 i<=1099511627776:=fun i=>by
  cases i with
  |inl g=>exact k3 g
  |inr f=>simp [vR,Z6]
 have hI:QT s.z4.length (YE s.z4.length here) (Yg s name) (wo s name) [] A0:=by
  refine ⟨⟨by simp only [fsR,List.length_append,List.length_map,List.length_range];omega,fun i=>(hv i).1,fun i=>by have:=(hv i).2;omega⟩,by omega,fun g d hq=>?_,fun f d hq=>?_,fun x hx=>(k4 x hx).2⟩
  ·obtain ⟨x,a,b,c⟩:=k5 g d hq;rw [←b];exact .up _ _ _ (.spot x a) c
  ·simp [Z6] at hq;have:=hq.1;omega
 have hNof:∀A:List Int,A.length=8*(s.z4.length/8+1)->NOk s (YE s.z4.length here) (Yg s name) (wo s name) (s.z4.length/8+1) A:=fun A hA=>
  {hnb:=by omega,gr:=by omega,z7y:=hA,spL:=by omega,jsL:=by omega,ksL:=by omega,
   spO:=fun x hx=>h.ho x (List.mem_filter.1 hx).1,
   jsO:=fun j hj=>(by have h1:=hi.jg j hj;have h2:=Qu h hj;exact ⟨⟨by omega,by omega⟩,by omega,by omega⟩),
   ksO:=fun k hk=>(by have:=z51 h hk;simp only [zJ.ok];omega)}
 obtain ⟨fuel,F1,A1,r1,r2,r3,r4,r5⟩:=z5J hi _ [] A0 (Nat.lt_succ_self _) hI
 refine ⟨F1,A1,⟨by omega,by omega,by omega,by omega,?_,rfl,⟨A0,fuel,hS,hNof A0 (by omega),r1,r2⟩,hNof A1 (by omega)⟩,zfE hi r3 r4,by omega,fun g=>r3.bd.lt (.inl g)⟩
 exact z0e _ _ _ [] [] [] (fun f g=>by simp [Z6])
end Go.GB.C26
