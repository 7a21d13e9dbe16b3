/-
  YtnmhhhnkjnhafaaGreatP5: lemmas. No conditions.
-/
import Derived.Test.YtnmhhhnkjnhafaaGreatP2
import Derived.Carry
import Derived.Handed
import Derived.ChangeSame
import Derived.ProofKit
import Derived.OpenShut
import Derived.JoinedCond
import Derived.Deep.CondSized
import Derived.Test.YtnmhhhnkjnhafaaGreatP3
import Derived.Test.YtnmhhhnkjnhafaaGreatP4
set_option linter.all false
set_option maxRecDepth 100000
set_option maxHeartbeats 16000000
namespace Go.GB
open Go.RowKit Go.WideShapes Go.ChangeShapes
abbrev z3X:Nat->Lab:=fun _=> .fix none
def WT (P:Program):Nat->TypeId->List T->Prop
 |0,_,_=>False
 |n+1,t,ts=>
  match P.underlying t with
  |some .bool=>∃b,ts=[.bool b]
  |some (.int k)=>∃x,ts=[.int k x]/\(Lit.int k x).wf=true
  |some .string=>∃s,ts=[.str s]/\s.length<=reachBytes
  |some (.slice e)=>∃xs,ts=[.lst xs]/\xs.length*P.bytesOf e<=reachBytes/\xs.length<=maxLen/\∀c∈xs,WT P n e c
  |some (.struct fs)=>ts.length=P.cellsOf t/\∀f∈fs.toList,WT P n f.type ((ts.drop f.offset).take (P.cellsOf f.type))
  |some (.array m e)=>ts.length=P.cellsOf t/\∀i,i<m->WT P n e ((ts.drop (i*P.cellsOf e)).take (P.cellsOf e))
  |_=>False
def QY (P:Program):Nat->List (Nat×TypeId)->Option Nat
 |off,[]=>some off
 |off,(o,t)::r=>if o=off then QY P (off+P.cellsOf t) r else none
def z1b (P:Program) (S:List TypeId):Bool:=
 S.all fun t=>
  match P.underlying t with
  |some .bool=>true
  |some (.int _)=>true
  |some .string=>true
  |some (.slice e)=>S.contains e&&decide (0<P.cellsOf e)
  |some (.struct fs)=>(fs.toList.all fun f=>S.contains f.type)&&(QY P 0 (fs.toList.map fun f=>(f.offset,f.type))==some (P.cellsOf t))
  |some (.array m e)=>S.contains e&&(QY P 0 ((List.range m).map fun i=>(i*P.cellsOf e,e))==some (P.cellsOf t))
  |_=>false
def z29 (w:World) (cs:List Value) (ts:List T):Prop:=cs.length=ts.length/\∀(j:Nat) (v:Value) (x:T),cs[j]?=some v->ts[j]?=some x->zO z3X w v x
theorem z29.one {w:World} {v:Value} {x:T} (h:zO z3X w v x):z29 w [v] [x]:=by
 refine ⟨rfl,fun j u y h1 h2=>?_⟩
 cases j with
 |zero=>simp at h1 h2;subst h1;subst h2;exact h
 |succ j=>simp at h1
theorem Qs {α β:Type} {g:α->Option β}:∀{l:List α} {r:List β},l.mapM g=some r->l.length=r.length/\∀(j:Nat) (x:α),l[j]?=some x->∃y,r[j]?=some y/\g x=some y
 |[],r,h=>by simp at h;subst h;simp
 |a::l,r,h=>by
  simp only [List.mapM_cons,Option.bind_eq_bind,Option.pure_def,Option.bind_eq_some_iff] at h;obtain ⟨y,hy,r',hr,h⟩:=h;simp at h;subst h;obtain ⟨i1,i2⟩:=Qs hr
  refine ⟨by simp [i1],fun j x hx=>?_⟩
  cases j with
  |zero=>simp at hx;subst hx;exact ⟨y,rfl,hy⟩
  |succ j=>simpa using i2 j x (by simpa using hx)
theorem z8j {w:World} {a:Addr} {v:Value} (h:w.cell? a=some v):a.spot=none:=by
 unfold World.cell? at h
 cases hs:a.spot with
 |none=>rfl
 |some s=>
  rw [hs] at h
  split at h<;>simp_all
theorem cells?_at {w:World} {base n:Nat} {a:Addr} {cs:List Value} (h:w.cells? base a n=some cs):cs.length=n/\∀(j:Nat) (v:Value),cs[j]?=some v->w.cell? (a.add j)=some v:=by
 unfold World.cells? at h;split at h
 ·obtain ⟨h1,h2⟩:=Qs h;simp at h1;refine ⟨h1.symm,fun j v hj=>?_⟩
  have hlt:j<n:=by rw [h1];exact (List.getElem?_eq_some_iff.1 hj).1
  obtain ⟨y,e1,e2⟩:=h2 j j (by simp [hlt]);rw [hj] at e1;simp at e1;subst e1;exact e2
 ·cases h
theorem z0g {α:Type} {Q:Nat->α->Prop}:∀(n:Nat),(∀j,j<n->∃v,Q j v)->∃vs:List α,vs.length=n/\∀(j:Nat) (v:α),vs[j]?=some v->Q j v
 |0,_=>⟨[],rfl,by simp⟩
 |n+1,h=>by
  obtain ⟨vs,hl,hv⟩:=z0g n (fun j hj=>h j (by omega));obtain ⟨v,hq⟩:=h n (by omega)
  refine ⟨vs++[v],by simp [hl],fun j u hu=>?_⟩
  by_cases hj:j<vs.length
  ·rw [List.getElem?_append_left hj] at hu;exact hv j u hu
  ·rw [List.getElem?_append_right (by omega)] at hu;by_cases e:j=n
   ·subst e;rw [hl] at hu;simp at hu;subst hu;exact hq
   ·rw [List.getElem?_eq_none (by simp;omega)] at hu;cases hu
section
variable {H:Type} {enc:TypeId×Value->H} {P:Program} {w:World} {sp:Nat->Bool} {held:Bool} {S:List TypeId}
theorem wK {e:TypeId} {r:Nat->Bool}:∀(l:List (DataW H)),(DataW.weightsAll P e l).all r=true->∀d∈l,(d.weights P e).all r=true
 |[],_,d,h=>by cases h
 |x::l,h,d,hd=>by
  simp only [DataW.weightsAll,List.all_append,Bool.and_eq_true] at h
  cases hd with
  |head=>exact h.1
  |tail _ hd=>exact wK l h.2 d hd
theorem WQ {r:Nat->Bool}:∀(ts:List TypeId) (l:List (DataW H)),(DataW.weightsEach P ts l).all r=true->∀(j:Nat) t d,ts[j]?=some t->l[j]?=some d->(d.weights P t).all r=true
 |[],l,_,j,t,d,h,_=>by simp at h
 |t::ts,[],_,j,t',d,_,h=>by simp at h
 |t::ts,x::l,h,j,t',d,h1,h2=>by
  simp only [DataW.weightsEach,List.all_append,Bool.and_eq_true] at h
  cases j with
  |zero=>simp at h1 h2;subst h1;subst h2;exact h.1
  |succ j=>exact WQ ts l h.2 j t' d (by simpa using h1) (by simpa using h2)
def z51 (P:Program) (t:TypeId) (ts:List T):V:=if zI P t then .agg (ts.map V.t) else .t (ts.headD .QP)
def L.all (w:World):L:={lab:=z3X,fro:=fun _=>0,nxt:=0,w:=w,frf:=fun _ _=>0}
theorem Z4.all (w:World):Z4 (L.all w) ⟨[],0⟩:=⟨by simp [zi],fun b b' k h=>by simp [L.all] at h,fun _ _=>rfl,fun b k h=>by simp [L.all] at h,fun _ _=>rfl,fun b b' k i h=>by simp [L.all] at h,fun b k h=>by simp [L.all] at h,fun _ _ _=>rfl⟩
inductive WTs (P:Program):List TypeId->List V->Prop
 |nil:WTs P [] []
 |cons {t:TypeId} {ts:List TypeId} {n:Nat} {xs:List T} {vs:List V} (h:WT P n t xs) (r:WTs P ts vs):WTs P (t::ts) (z51 P t xs::vs)
theorem qK (hl:laidOutB P=true) {W W':World} (hb:Below W.heap.size W W') {sp':Nat->Bool}:∀(ts:List TypeId) (vs:List Value) (ds:List (DataW H)) (ps:List MemPlace),(∀t∈ts,P.readableRec t=true/\t<P.types.size)->DataW.TrodAll enc P W 0 (fun _=>true) true ts vs ds ps->
  (∀p∈ps,p.block<W.heap.size)->(∀p∈ps,sp' p.block=true)->DataW.TrodAll enc P W' 0 sp' true ts vs ds ps
 |[],[],[],_,_,h,_,_=>h
 |t::ts,v::vs,d::ds,_,hT,⟨p,q,h1,h2,e⟩,hlt,hs=>by
  subst e;refine ⟨p,q,WideElems.Trod_stays hl (hT t (by simp)).1 (hT t (by simp)).2 h1 (fun x hx=>hb.same (hlt x (List.mem_append_left _ hx))) (fun x hx=>hs x (List.mem_append_left _ hx)),?_,rfl⟩;exact qK hl hb ts vs ds q (fun t ht=>hT t (List.mem_cons_of_mem _ ht)) h2 (fun x hx=>hlt x (List.mem_append_right _ hx)) (fun x hx=>hs x (List.mem_append_right _ hx))
 |[],_::_,_,_,_,h,_,_=>by simp [DataW.TrodAll] at h
 |[],[],_::_,_,_,h,_,_=>by simp [DataW.TrodAll] at h
 |_::_,[],_,_,_,h,_,_=>by simp [DataW.TrodAll] at h
 |_::_,_::_,[],_,_,h,_,_=>by simp [DataW.TrodAll] at h
end
section
variable {H:Type} {enc:TypeId×Value->H} {P:Program}
theorem z24 {f:Func} {s:ChangeSpec} {apart fresh handsOn again:Bool} {W W':World} {args:Array Value} {v:Value} {ds gs:List (DataW H)} {before pa pv:List MemPlace}
  (hW:DataW.Whole enc P f.params.toList s.vars apart W args.toList ds gs before)
  (hres:∀(b:Nat) (sp:Nat->Bool) (hd:Bool),DataW.TrodAll enc P W' b sp hd f.resultTypes.toList (v.resultList f.resultTypes.size) (s.fn H (ds++gs)).results [])
  (hargs:∀sp:Nat->Bool,(∀p∈before,sp p.block=true)->DataW.TrodAll enc P W' 0 sp true f.params.toList args.toList (s.fn H (ds++gs)).args pa)
  (hvars:∀sp:Nat->Bool,(∀p∈before,sp p.block=true)->DataW.TrodVars enc P W' sp s.vars (s.fn H (ds++gs)).vars pv)
  (hps:before=pa++pv) (hb:Below W.heap.size W W')
  (hok:∀(j:Nat) (t:TypeId) (r:Value),f.resultTypes[j]?=some t->(v.resultList f.resultTypes.size)[j]?=some r->Value.okWide P W' .any 0 t r):
  s.post enc P f apart fresh handsOn again W args v W':=by
 have hlt:∀p∈before,p.block<W.heap.size:=fun p hp=>hW.lt p hp
 have hold:∀p∈before,(fun b=>decide (b<W.heap.size)) p.block=true:=fun p hp=>by simpa using hlt p hp
 refine ⟨ds,gs,before,[],pa,pv,hW,hres _ _ _,hargs _ hold,hvars _ hold,World.keptBut_mono (fun p hp=>⟨hp,?_⟩) (hb.frame (· ∈before)),fun _=>?_⟩
 ·rw [hps,List.mem_append] at hp;exact Or.inr hp
 ·obtain ⟨_,_,_,_,_,hz,hn⟩:=hW;refine ⟨hok,_,_,([]++pa)++pv,⟨[]++pa,pv,trodAll_append (hargs _ (fun _ _=>rfl)) (hres _ _ _),hvars _ (fun _ _=>rfl),rfl,?_,?_⟩,?_⟩
  ·intro b off hp
   have hin:MemPlace.cell b off∈before:=by rw [hps];simpa using hp
   rw [hb.frozen (hlt _ hin)];exact hz b off hin
  ·intro ha;have:=hn ha;rw [hps] at this;simpa using this
  ·intro p hp _;rw [hps];simpa using hp
end
inductive Sh where
 |bool
 |int (k:IntKind)
 |str
 |lst (b:Nat) (s:List Sh)
 |any
 |num (i:Nat)
def z06 (P:Program) (g:TypeId->Option (List Sh)):Nat->List (Nat×TypeId)->Option (List Sh)
 |_,[]=>some []
 |off,(o,t)::r=>
  if o=off then
   match g t with
   |some a=>if a.length=P.cellsOf t then (z06 P g (off+P.cellsOf t) r).map fun b=>a++b else none
   |none=>none
  else none
def Qd (P:Program) (sp:TypeId->Option Nat):Nat->TypeId->Option (List Sh)
 |0,t=>
  match P.underlying t with
  |some .bool=>some [.bool]
  |some (.int k)=>some [.int k]
  |some .string=>some [.str]
  |some (.slice e)=>match sp e with|some i=>some [.num i]|none=>some [.any]
  |_=>none
 |n+1,t=>
  match P.underlying t with
  |some .bool=>some [.bool]
  |some (.int k)=>some [.int k]
  |some .string=>some [.str]
  |some (.slice e)=>match sp e with|some i=>some [.num i]|none=>(Qd P sp n e).map fun s=>[.lst (P.bytesOf e) s]
  |some (.struct fs)=>(z06 P (Qd P sp n) 0 (fs.toList.map fun f=>(f.offset,f.type))).bind fun s=>if s.length=P.cellsOf t then some s else none
  |some (.array m e)=>(z06 P (Qd P sp n) 0 ((List.range m).map fun i=>(i*P.cellsOf e,e))).bind fun s=>if s.length=P.cellsOf t then some s else none
  |_=>none
mutual
def Sh.ok (Y:Nat->T->Prop):Sh->T->Prop
 | .bool,x=>∃b,x= .bool b
 | .int k,x=>∃n,x= .int k n/\(Lit.int k n).wf=true
 | .str,x=>∃s,x= .str s/\s.length<=reachBytes
 | .lst b sh,x=>∃xs:List (List T),x= .lst xs/\xs.length*b<=reachBytes/\xs.length<=maxLen/\∀c∈xs,Sh.oks Y sh c
 | .any,_=>True
 | .num i,x=>Y i x
def Sh.oks (Y:Nat->T->Prop):List Sh->List T->Prop
 |[],[]=>True
 |s::r,x::ts=>s.ok Y x/\Sh.oks Y r ts
 |_,_=>False
end
theorem Sh.z13 {Y:Nat->T->Prop}:∀{a b:List Sh} {ts us:List T},Sh.oks Y a ts->Sh.oks Y b us->Sh.oks Y (a++b) (ts++us)
 |[],b,[],us,_,h=>h
 |[],b,x::ts,us,h,_=>by simp [Sh.oks] at h
 |s::r,b,[],us,h,_=>by simp [Sh.oks] at h
 |s::r,b,x::ts,us,h,k=>by
  simp only [Sh.oks,List.cons_append] at h⊢;exact ⟨h.1,Sh.z13 h.2 k⟩
theorem z07 {P:Program} {Y:Nat->T->Prop} {g:TypeId->Option (List Sh)} {n:Nat} (hg:∀t sh ts,g t=some sh->WT P n t ts->Sh.oks Y sh ts):∀(l:List (Nat×TypeId)) (off:Nat) (sh:List Sh) (ts:List T),z06 P g off l=some sh->(∀p∈l,WT P n p.2 ((ts.drop p.1).take (P.cellsOf p.2)))->
  ∃us,Sh.oks Y sh us/\us=(ts.drop off).take sh.length
 |[],off,sh,ts,h,_=>by simp [z06] at h;subst h;exact ⟨[],trivial,by simp⟩
 |(o,t)::r,off,sh,ts,h,hp=>by
  simp only [z06] at h;split at h
  ·rename_i e;subst e;split at h
   ·rename_i a ha;split at h
    ·rename_i hl;simp only [Option.map_eq_some_iff] at h;obtain ⟨b,hb,rfl⟩:=h;have h1:=hg t a _ ha (hp (o,t) (by simp));obtain ⟨us,h2,h3⟩:=z07 hg r _ b ts hb fun p hpm=>hp p (List.mem_cons_of_mem _ hpm);refine ⟨_,Sh.z13 h1 h2,?_⟩;simp only at h1⊢;rw [h3,List.length_append,hl,List.take_add,List.drop_drop]
    ·cases h
   ·cases h
  ·cases h
theorem ql {P:Program} {sp:TypeId->Option Nat} {Y:Nat->T->Prop}:∀(n m:Nat) (t:TypeId) (sh:List Sh) (ts:List T),(∀e i k xs,k<n->sp e=some i->xs.length*P.bytesOf e<=reachBytes->xs.length<=maxLen->(∀c∈xs,WT P k e c)->Y i (.lst xs))->Qd P sp m t=some sh->WT P n t ts->Sh.oks Y sh ts
 |0,m,t,sh,ts,_,_,h=>by simp [WT] at h
 |n+1,0,t,sh,ts,hsp,hs,h=>by
  simp only [Qd] at hs;simp only [WT] at h
  cases hu:P.underlying t with
  |none=>rw [hu] at h;exact h.elim
  |some td=>
   rw [hu] at h hs
   cases td with
   |bool=>simp only [Option.some.injEq] at hs h;subst hs;obtain ⟨b,rfl⟩:=h;exact ⟨⟨b,rfl⟩,trivial⟩
   |int k=>simp at hs h;subst hs;obtain ⟨x,rfl,hw⟩:=h;exact ⟨⟨x,rfl,hw⟩,trivial⟩
   |string=>simp at hs h;subst hs;obtain ⟨s,rfl,hw⟩:=h;exact ⟨⟨s,rfl,hw⟩,trivial⟩
   |slice e=>
    obtain ⟨xs,rfl,hr,hl,hc⟩:=h
    cases he:sp e with
    |none=>simp only [he,Option.some.injEq] at hs;subst hs;exact ⟨trivial,trivial⟩
    |some i=>simp only [he,Option.some.injEq] at hs;subst hs;exact ⟨hsp e i n xs (by omega) he hr hl hc,trivial⟩
   |_=>simp at hs
 |n+1,m+1,t,sh,ts,hsp,hs,h=>by
  have hsp':∀e i k xs,k<n->sp e=some i->xs.length*P.bytesOf e<=reachBytes->xs.length<=maxLen->(∀c∈xs,WT P k e c)->Y i (.lst xs):=fun e i k xs hk=>hsp e i k xs (by omega);simp only [Qd] at hs;simp only [WT] at h
  cases hu:P.underlying t with
  |none=>rw [hu] at h;exact h.elim
  |some td=>
   rw [hu] at h hs
   cases td with
   |bool=>simp only [Option.some.injEq] at hs h;subst hs;obtain ⟨b,rfl⟩:=h;exact ⟨⟨b,rfl⟩,trivial⟩
   |int k=>simp at hs h;subst hs;obtain ⟨x,rfl,hw⟩:=h;exact ⟨⟨x,rfl,hw⟩,trivial⟩
   |string=>simp at hs h;subst hs;obtain ⟨s,rfl,hw⟩:=h;exact ⟨⟨s,rfl,hw⟩,trivial⟩
   |slice e=>
    obtain ⟨xs,rfl,hr,hl,hc⟩:=h
    cases hse:sp e with
    |none=>
     simp only [hse,Option.map_eq_some_iff] at hs;obtain ⟨s,he,rfl⟩:=hs;exact ⟨⟨xs,rfl,hr,hl,fun c hcm=>ql n m e s c hsp' he (hc c hcm)⟩,trivial⟩
    |some i=>simp only [hse,Option.some.injEq] at hs;subst hs;exact ⟨hsp e i n xs (by omega) hse hr hl hc,trivial⟩
   |struct fs=>
    simp only [Option.bind_eq_some_iff] at hs h;obtain ⟨s,hs,hs2⟩:=hs;split at hs2
    ·rename_i hl;simp at hs2;subst hs2
     obtain ⟨us,h1,h2⟩:=z07 (ts:=ts) (Y:=Y) (g:=Qd P sp m) (n:=n) (fun t sh ts a b=>ql n m t sh ts hsp' a b) _ 0 s hs (fun p hp=>by
      rw [List.mem_map] at hp;obtain ⟨f,hf,rfl⟩:=hp
      exact h.2 f hf)
     rw [List.drop_zero,List.take_of_length_le (by omega)] at h2;subst h2;exact h1
    ·cases hs2
   |array k e=>
    simp only [Option.bind_eq_some_iff] at hs h;obtain ⟨s,hs,hs2⟩:=hs;split at hs2
    ·rename_i hl;simp at hs2;subst hs2
     obtain ⟨us,h1,h2⟩:=z07 (ts:=ts) (Y:=Y) (g:=Qd P sp m) (n:=n) (fun t sh ts a b=>ql n m t sh ts hsp' a b) _ 0 s hs (fun p hp=>by
      rw [List.mem_map] at hp;obtain ⟨i,hi,rfl⟩:=hp
      exact h.2 i (List.mem_range.1 hi))
     rw [List.drop_zero,List.take_of_length_le (by omega)] at h2;subst h2;exact h1
    ·cases hs2
   |_=>simp at h
theorem Sh.zw {Y:Nat->T->Prop} {s:Sh} {r:List Sh} {ts:List T} (h:Sh.oks Y (s::r) ts):∃x ts',ts=x::ts'/\s.ok Y x/\Sh.oks Y r ts':=by
 cases ts with
 |nil=>simp [Sh.oks] at h
 |cons x ts=>exact ⟨x,ts,rfl,h⟩
theorem Sh.ZZ {Y:Nat->T->Prop} {ts:List T} (h:Sh.oks Y [] ts):ts=[]:=by
 cases ts with
 |nil=>rfl
 |cons x ts=>simp [Sh.oks] at h
theorem yo {α:Type} {f:α->List T} {Q:α->Prop}:∀(xs:List (List T)),(∀c∈xs,∃a,c=f a/\Q a)->∃l:List α,xs=l.map f/\∀a∈l,Q a
 |[],_=>⟨[],rfl,by simp⟩
 |c::xs,h=>by
  obtain ⟨l,h1,h2⟩:=yo xs (fun c hc=>h c (List.mem_cons_of_mem _ hc));obtain ⟨a,rfl,ha⟩:=h c (by simp)
  exact ⟨a::l,by simp [h1],fun b hb=>by
   rcases List.mem_cons.1 hb with e|e
   ·subst e;exact ha
   ·exact h2 b e⟩
theorem WTs.cons_inv {P:Program} {t:TypeId} {ts:List TypeId} {vs:List V} (h:WTs P (t::ts) vs) {m:Nat} {sh:List Sh} {sp:TypeId->Option Nat} {Y:Nat->T->Prop} (hsp:∀e i n xs,sp e=some i->xs.length*P.bytesOf e<=reachBytes->xs.length<=maxLen->(∀c∈xs,WT P n e c)->Y i (.lst xs)) (hs:Qd P sp m t=some sh):∃xs r,vs=z51 P t xs::r/\Sh.oks Y sh xs/\WTs P ts r:=by
 cases h with
 |cons h r=>exact ⟨_,_,rfl,ql _ _ _ _ _ (fun e i k xs _=>hsp e i k xs) hs h,r⟩
theorem WTs.ze8 {P:Program} {vs:List V} (h:WTs P [] vs):vs=[]:=by
 cases h;rfl
theorem ze4 {P:Program} {t:TypeId} (h:zI P t=true) (xs:List T):z51 P t xs= .agg (xs.map V.t):=by simp [z51,h]
theorem zeo {α:Type} {l:List α} (h:l.length=2):∃a b,l=[a,b]:=by
 match l,h with
 |[a,b],_=>exact ⟨a,b,rfl⟩
mutual
def T.bulk:T->Nat
 | .str s=>s.length+1
 | .lst xs=>Y9 xs+1
 | .bool _=>1
 | .int _ _=>1
 | .ptr _=>1
 | .fn _=>1
 | .QP=>1
 | .qG=>1
 | .z28=>1
 | .ad _ _=>1
def Y9:List (List T)->Nat
 |[]=>0
 |c::r=>yy c+Y9 r
def yy:List T->Nat
 |[]=>0
 |x::r=>x.bulk+yy r
end
theorem Qp:∀(a b:List T),yy (a++b)=yy a+yy b
 |[],b=>by simp [yy]
 |x::r,b=>by simp only [List.cons_append,yy,Qp r b];omega
structure zaO {H:Type} (B:DataW H->Nat):Prop where
 lit:∀l,1<=B (.lit l)
 str:∀bs,bs.length+1<=B (.lit (.string bs))
 nil:1<=B .nil
 slice:∀e s,(e.map B).sum+1<=B (.slice e s)
 agg:∀ps,(ps.map B).sum<=B (.agg ps)
theorem z2k {H:Type} {B:DataW H->Nat}:∀(xs:List (List T)) (es:List (DataW H)),xs.length=es.length->(∀(i:Nat) c e,xs[i]?=some c->es[i]?=some e->yy c<=B e)->Y9 xs<=(es.map B).sum
 |[],[],_,_=>by simp [Y9]
 |[],_::_,h,_=>by simp at h
 |_::_,[],h,_=>by simp at h
 |c::xs,e::es,h,hb=>by
  have h1:=hb 0 c e rfl rfl;have h2:=z2k xs es (by simpa using h) (fun i c e a b=>hb (i+1) c e (by simpa using a) (by simpa using b));simp only [Y9,List.map_cons,List.sum_cons];omega
theorem z42 {P:Program} {w:World} {n:Nat} {cs:List Value}:∀(l:List (Nat×TypeId)) (bs:List Nat) (off tot:Nat),QY P off l=some tot->tot<=cs.length->l.length=bs.length->(∀(j:Nat) p nb,l[j]?=some p->bs[j]?=some nb->∃ts,z29 w ((cs.drop p.1).take (P.cellsOf p.2)) ts/\WT P n p.2 ts/\yy ts<=nb)->
  off<=tot/\∃ts:List T,ts.length=tot - off/\(∀(j:Nat) (v:Value) (x:T),cs[off+j]?=some v->ts[j]?=some x->zO z3X w v x)/\(∀p∈l,off<=p.1/\WT P n p.2 ((ts.drop (p.1 - off)).take (P.cellsOf p.2)))/\yy ts<=bs.sum
 |[],bs,off,tot,hc,_,_,_=>by simp [QY] at hc;subst hc;exact ⟨Nat.le_refl _,[],by simp,by simp,by simp,by simp [yy]⟩
 |_::_,[],_,_,_,_,h,_=>by simp at h
 |(o,t)::r,nb::bs,off,tot,hc,hl,hlen,hp=>by
  simp only [QY] at hc;split at hc
  ·rename_i e;subst e;obtain ⟨h1,ts,h2,h3,h4,h5⟩:=z42 r bs (o+P.cellsOf t) tot hc hl (by simpa using hlen) (fun j p nb a b=>hp (j+1) p nb (by simpa using a) (by simpa using b));obtain ⟨us,k1,k2,k3⟩:=hp 0 (o,t) nb rfl rfl
   have hul:us.length=P.cellsOf t:=by rw [←k1.1];simp;omega
   refine ⟨by omega,us++ts,by simp [hul,h2];omega,fun j v x hv hx=>?_,fun p hpm=>?_,by rw [Qp];simp only [List.sum_cons];omega⟩
   ·by_cases hj:j<us.length
    ·rw [List.getElem?_append_left hj] at hx;refine k1.2 j v x ?_ hx;simp only;rw [List.getElem?_take,if_pos (by omega),List.getElem?_drop];exact hv
    ·rw [List.getElem?_append_right (by omega)] at hx;refine h3 (j - us.length) v x ?_ hx
     have:o+P.cellsOf t+(j - us.length)=o+j:=by omega
     rw [this];exact hv
   ·rcases List.mem_cons.1 hpm with e|e
    ·subst e;refine ⟨Nat.le_refl _,?_⟩;simp only [Nat.sub_self,List.drop_zero];rw [List.take_append_of_le_length (by omega),List.take_of_length_le (by omega)];exact k2
    ·obtain ⟨g1,g2⟩:=h4 p e
     refine ⟨by omega,?_⟩
     have:p.1 - o=us.length+(p.1 - (o+P.cellsOf t)):=by omega
     rw [this,List.drop_append,List.drop_eq_nil_of_le (by omega)];simpa using g2
  ·cases hc
section
variable {H:Type} {enc:TypeId×Value->H} {P:Program} {w:World} {sp:Nat->Bool} {held:Bool} {S:List TypeId} {B:DataW H->Nat}
theorem qn (hB:zaO B) (hp:z1b P S=true):∀(n:Nat) (t:TypeId) (cs:List Value) (d:DataW H) (ps:List MemPlace),t∈S->DataW.trod enc P w 0 sp held n t cs=some (d,ps)->(d.weights P t).all (· <=reachBytes)=true->∃ts,z29 w cs ts/\WT P n t ts/\yy ts<=B d
 |0,t,cs,d,ps,_,h,_=>by simp [DataW.trod] at h
 |n+1,t,cs,d,ps,ht,h,hwt=>by
  have hpt:=List.all_eq_true.1 hp t ht;simp only [WT]
  cases hu:P.underlying t with
  |none=>rw [hu] at hpt;simp at hpt
  |some td=>
   rw [hu] at hpt
   cases td with
   |bool=>
    rcases cs with _|⟨v,_|⟨v2,r⟩⟩<;>try (simp [DataW.trod,hu] at h;done)
    cases v<;>simp [DataW.trod,hu] at h
    rename_i b;refine ⟨[.bool b],z29.one (.bool b),⟨b,rfl⟩,?_⟩;rw [←h.1];simpa [yy,T.bulk] using hB.lit _
   |int k=>
    rcases cs with _|⟨v,_|⟨v2,r⟩⟩<;>try (simp [DataW.trod,hu] at h;done)
    cases v<;>simp [DataW.trod,hu] at h
    rename_i k' x;obtain ⟨⟨rfl,h2⟩,hd,_⟩:=h;refine ⟨[.int k' x],z29.one (.int _ _),⟨x,rfl,h2⟩,?_⟩;rw [←hd];simpa [yy,T.bulk] using hB.lit _
   |string=>
    rcases cs with _|⟨v,_|⟨v2,r⟩⟩<;>try (simp [DataW.trod,hu] at h;done)
    cases v<;>simp [DataW.trod,hu] at h
    rename_i s;rw [←h.2.1] at hwt
    refine ⟨[.str s.data.toList],z29.one (.str _),⟨s.data.toList,rfl,by simpa [DataW.weights] using hwt⟩,?_⟩
    have:=hB.str s.data.toList;rw [←h.2.1];simp only [yy,T.bulk];omega
   |slice e=>
    simp only [Bool.and_eq_true,decide_eq_true_eq] at hpt
    have he:e∈S:=by simpa using hpt.1
    rcases cs with _|⟨v,_|⟨v2,r⟩⟩<;>try (simp [DataW.trod,hu] at h;done)
    cases v<;>try (simp [DataW.trod,hu] at h;done)
    rename_i a len cap
    cases a with
    |none=>
     have h0:len=0/\cap=0:=by
      cases len<;>cases cap<;>simp_all [DataW.trod]
     obtain ⟨rfl,rfl⟩:=h0
     have hd:DataW.nil=d:=by
      simp only [DataW.trod,hu] at h;simp at h;exact h.1
     refine ⟨[.lst []],z29.one .nil,⟨[],rfl,by simp,by simp,by simp⟩,?_⟩
     rw [←hd];simpa [yy,Y9,T.bulk] using hB.nil
    |some a=>
     simp only [DataW.trod,hu] at h;split at h
     ·rename_i hcond;simp only [Option.bind_eq_some_iff] at h;obtain ⟨elems,hel,hrest⟩:=h;obtain ⟨hl,hat⟩:=Qs hel;simp at hl;rw [Option.map_eq_some_iff] at hrest;obtain ⟨rest,_,hde⟩:=hrest;simp only [Prod.mk.injEq] at hde;rw [←hde.1] at hwt;simp only [DataW.weights,hu,List.all_cons,List.all_append,Bool.and_eq_true,decide_eq_true_eq,List.length_map] at hwt
      have hreach:len*P.bytesOf e<=reachBytes:=by
       rw [hl];exact Nat.le_trans (Nat.mul_le_mul_right _ (Nat.le_add_right _ _)) hwt.1
      have hone:∀i,i<len->∃q:List Value×List T,w.cells? 0 (a.add (i*P.cellsOf e)) (P.cellsOf e)=some q.1/\z29 w q.1 q.2/\WT P n e q.2/\∀y,elems[i]?=some y->yy q.2<=B y.1:=by
       intro i hi;obtain ⟨y,hye,hy⟩:=hat i i (by simp [hi]);simp only [Option.bind_eq_some_iff] at hy;obtain ⟨c,hc,hy⟩:=hy;obtain ⟨d',ps'⟩:=y;obtain ⟨ts,k1,k2,k3⟩:=qn hB hp n e c d' ps' he hy (wK _ hwt.2.1 _ (List.mem_map.2 ⟨(d',ps'),zMG hye,rfl⟩))
       exact ⟨(c,ts),hc,k1,k2,fun y h=>by rw [hye] at h;simp at h;subst h;exact k3⟩
      obtain ⟨qs,hql,hq⟩:=z0g len hone
      have hsz:∀(i:Nat) (q:List Value×List T),qs[i]?=some q->q.1.length=P.cellsOf e/\q.2.length=P.cellsOf e:=by
       intro i q hi;obtain ⟨h1,h2,_⟩:=hq i q hi;have:=(cells?_at h1).1
       exact ⟨this,by rw [←h2.1];exact this⟩
      have hspot:0<len->a.spot=none:=by
       intro h0
       have hq0:qs[0]?=some (qs[0]'(by omega)):=by simp
       obtain ⟨h1,_,_⟩:=hq 0 _ hq0;obtain ⟨e1,e2⟩:=cells?_at h1
       have hlt:0<(qs[0]'(by omega)).1.length:=by rw [(hsz 0 _ hq0).1];exact hpt.2
       have:=z8j (e2 0 _ (List.getElem?_eq_getElem hlt));simpa [Addr.add] using this
      have hadd:∀m,0<len->a.add m=⟨a.block,a.off+m,none⟩:=by
       intro m h0;have hs:=hspot h0;obtain ⟨b,o,s⟩:=a;simp at hs;subst hs;exact ZW b o m
      refine ⟨[.lst (qs.map (·.2))],z29.one ?_,⟨qs.map (·.2),rfl,by simpa [hql] using hreach,by simp [hql];omega,fun c hc=>?_⟩,?_⟩
      ·have hlen:len=(qs.map (·.2)).length:=by simp [hql]
       rw [hlen];refine .lst (some a) cap (P.cellsOf e) (qs.map (·.2)) a.block a.off (fun i j=>((qs.map (·.1)).getD i []).getD j undef) (by rw [←hlen];exact hcond.2.1) ?_ ?_ ?_ ?_ ?_
       ·intro i c hc;rw [List.getElem?_map,Option.map_eq_some_iff] at hc;obtain ⟨q,h1,rfl⟩:=hc;exact (hsz i q h1).2
       ·intro i j c x hc hx
        have h0:0<len:=by have:=(List.getElem?_eq_some_iff.1 hc).1;simp [hql] at this;omega
        have hs:=hspot h0;obtain ⟨b,o,s⟩:=a;simp at hs;subst hs;rfl
       ·intro i j c x hc hx;trivial
       ·intro i j c x hc hx;rw [List.getElem?_map,Option.map_eq_some_iff] at hc;obtain ⟨q,h1,rfl⟩:=hc
        have h0:0<len:=by have:=(List.getElem?_eq_some_iff.1 h1).1;omega
        obtain ⟨g1,g2,_⟩:=hq i q h1;obtain ⟨e1,e2⟩:=cells?_at g1
        have hj:j<q.1.length:=by rw [g2.1];exact (List.getElem?_eq_some_iff.1 hx).1
        have:=e2 j _ (List.getElem?_eq_getElem hj);rw [hadd _ h0] at this;rw [ZW] at this;rw [this];simp [h1,hj]
       ·intro i j c x hc hx;rw [List.getElem?_map,Option.map_eq_some_iff] at hc;obtain ⟨q,h1,rfl⟩:=hc;obtain ⟨g1,g2,_⟩:=hq i q h1
        have hj:j<q.1.length:=by rw [g2.1];exact (List.getElem?_eq_some_iff.1 hx).1
        have:=g2.2 j _ x (List.getElem?_eq_getElem hj) hx;simpa [h1,hj] using this
      ·rw [List.mem_map] at hc;obtain ⟨q,h1,rfl⟩:=hc;obtain ⟨i,hi⟩:=List.mem_iff_getElem?.1 h1;exact (hq i q hi).2.2.1
      ·rw [←hde.1];have h1:=hB.slice (elems.map (·.1)) (rest.map (·.1))
       have h2:=z2k (B:=B) (qs.map (·.2)) (elems.map (·.1)) (by simp [hql,hl]) (fun i c e a b=>by
        rw [List.getElem?_map,Option.map_eq_some_iff] at a b;obtain ⟨q,a1,rfl⟩:=a;obtain ⟨y,b1,rfl⟩:=b
        exact (hq i q a1).2.2.2 y b1)
       simp only [yy,T.bulk];omega
     ·cases h
   |struct fs=>
    simp only [Bool.and_eq_true,List.all_eq_true,beq_iff_eq] at hpt
    have hh:cs.length=P.cellsOf t/\∃xs,(fs.toList.mapM fun f=>DataW.trod enc P w 0 sp held n f.type ((cs.drop f.offset).take (P.cellsOf f.type)))=some xs/\d= .agg (xs.map (·.1)):=by
     have h':=h;simp only [DataW.trod,hu] at h';split at h'
     ·rename_i hc;simp only [Option.map_eq_some_iff] at h';obtain ⟨xs,hxs,hd⟩:=h'
      exact ⟨hc,xs,hxs,by simp only [Prod.mk.injEq] at hd;exact hd.1.symm⟩
     ·cases h'
    obtain ⟨hlen,xs,hxs,rfl⟩:=hh;obtain ⟨hl,hat⟩:=Qs hxs;simp only [DataW.weights,hu] at hwt
    obtain ⟨_,ts,g1,g2,g3,g4⟩:=z42 (n:=n) (w:=w) (cs:=cs) _ ((xs.map (·.1)).map B) 0 _ hpt.2 (by omega) (by simp [hl]) (fun j p nb hpm hnb=>by
     rw [List.getElem?_map,Option.map_eq_some_iff] at hpm;obtain ⟨f,hj,rfl⟩:=hpm;have hf:=zMG hj;obtain ⟨y,hye,hy⟩:=hat j f hj;obtain ⟨d',ps'⟩:=y;rw [List.getElem?_map,List.getElem?_map,hye] at hnb;simp at hnb;subst hnb
     exact qn hB hp n f.type _ d' ps' (by simpa using hpt.1 f hf) hy (WQ _ _ hwt j f.type d' (by simp [hj]) (by simp [hye])))
    refine ⟨ts,⟨by omega,fun j v x hv hx=>g2 j v x (by simpa using hv) hx⟩,⟨by omega,fun f hf=>?_⟩,Nat.le_trans g4 (hB.agg _)⟩
    have:=(g3 (f.offset,f.type) (List.mem_map.2 ⟨f,hf,rfl⟩)).2;simpa using this
   |array m e=>
    simp only [Bool.and_eq_true,beq_iff_eq] at hpt
    have hh:cs.length=P.cellsOf t/\∃xs,((List.range m).mapM fun i=>DataW.trod enc P w 0 sp held n e ((cs.drop (i*P.cellsOf e)).take (P.cellsOf e)))=some xs/\d= .agg (xs.map (·.1)):=by
     have h':=h;simp only [DataW.trod,hu] at h';split at h'
     ·rename_i hc;simp only [Option.map_eq_some_iff] at h';obtain ⟨xs,hxs,hd⟩:=h'
      exact ⟨hc,xs,hxs,by simp only [Prod.mk.injEq] at hd;exact hd.1.symm⟩
     ·cases h'
    obtain ⟨hlen,xs,hxs,rfl⟩:=hh;obtain ⟨hl,hat⟩:=Qs hxs;simp only [DataW.weights,hu] at hwt
    obtain ⟨_,ts,g1,g2,g3,g4⟩:=z42 (n:=n) (w:=w) (cs:=cs) _ ((xs.map (·.1)).map B) 0 _ hpt.2 (by omega) (by simp [←hl]) (fun j p nb hpm hnb=>by
     rw [List.getElem?_map,Option.map_eq_some_iff] at hpm;obtain ⟨i,hj,rfl⟩:=hpm;obtain ⟨y,hye,hy⟩:=hat j i hj;obtain ⟨d',ps'⟩:=y;rw [List.getElem?_map,List.getElem?_map,hye] at hnb;simp at hnb;subst hnb
     exact qn hB hp n e _ d' ps' (by simpa using hpt.1) hy (wK _ hwt _ (List.mem_map.2 ⟨(d',ps'),zMG hye,rfl⟩)))
    refine ⟨ts,⟨by omega,fun j v x hv hx=>g2 j v x (by simpa using hv) hx⟩,⟨by omega,fun i hi=>?_⟩,Nat.le_trans g4 (hB.agg _)⟩
    have:=(g3 (i*P.cellsOf e,e) (List.mem_map.2 ⟨i,List.mem_range.2 hi,rfl⟩)).2;simpa using this
   |_=>simp at hpt
def vbs:List V->Nat
 |[]=>0
 | .t x::r=>x.bulk+vbs r
 |_::r=>vbs r
def vb:V->Nat
 | .t x=>x.bulk
 | .agg cs=>vbs cs
 |_=>0
theorem z7H:∀(ts:List T),vbs (ts.map V.t)=yy ts
 |[]=>rfl
 |x::r=>by simp only [List.map_cons,vbs,yy,z7H r]
theorem z9L (hB:zaO B) (hp:z1b P S=true) {base:Nat} {t:TypeId} {v:Value} {d:DataW H} {ps:List MemPlace} (ht:t∈S) (hok:Value.okWide P w .any base t v) (h:DataW.Trod enc P w 0 sp held t v d ps) (hwt:(d.weights P t).all (· <=reachBytes)=true):
  ∃n ts,WT P n t ts/\zn (L.all w) v (z51 P t ts)/\vb (z51 P t ts)<=B d:=by
 obtain ⟨n,hn⟩:=h;obtain ⟨ts,h1,h2,hbk⟩:=qn hB hp n t _ d ps ht hn hwt;refine ⟨n,ts,h2,?_⟩;have hpt:=List.all_eq_true.1 hp t ht;unfold z51;by_cases hag:zI P t=true
 ·simp only [hag,if_true]
  have:∃cs,v= .agg cs:=by
   unfold zI at hag;unfold Value.okWide at hok
   cases hu:P.underlying t with
   |none=>rw [hu] at hag;simp at hag
   |some td=>rw [hu] at hag hok;cases td<;>simp at hag<;>exact ⟨_,hok.choose_spec.1⟩
  obtain ⟨cs,rfl⟩:=this
  refine ⟨.agg (by simpa [Value.cells] using h1.1) fun j u c hj hc=>?_,by simpa [vb,z7H] using hbk⟩
  rw [List.getElem?_map,Option.map_eq_some_iff] at hc;obtain ⟨x,hx,rfl⟩:=hc;exact .t (h1.2 j u x (by simpa [Value.cells] using hj) hx)
 ·simp only [hag,if_false,Bool.false_eq_true]
  have hcells:v.cells=#[v]:=by
   unfold zI at hag;unfold Value.okWide at hok
   cases hu:P.underlying t with
   |none=>rw [hu] at hpt;simp at hpt
   |some td=>
    rw [hu] at hag hok hpt
    cases td<;>simp at hag hpt<;>simp only [Cell.okWide,Cell.ok,hu] at hok<;>cases v<;>first |rfl|(exact hok.elim)
  have hcl:ts.length=1:=by rw [←h1.1,hcells];rfl
  obtain ⟨x,rfl⟩:∃x,ts=[x]:=by
   match ts,hcl with
   |[x],_=>exact ⟨x,rfl⟩
  exact ⟨.t (h1.2 0 v x (by rw [hcells];rfl) Z),by simpa [vb,yy] using hbk⟩
theorem z3e (hB:zaO B) (hp:z1b P S=true) {base:Nat}:∀(ts:List TypeId) (args:List Value) (ds:List (DataW H)) (ps:List MemPlace),(∀t∈ts,t∈S)->(∀(j:Nat) t v,ts[j]?=some t->args[j]?=some v->Value.okWide P w .any base t v)->
  DataW.TrodAll enc P w 0 sp held ts args ds ps->(DataW.weightsEach P ts ds).all (· <=reachBytes)=true->∃vs,WTs P ts vs/\args.length=vs.length/\(vs.map vb).sum<=(ds.map B).sum/\∀(j:Nat) (v:Value) (x:V),args[j]?=some v->vs[j]?=some x->zn (L.all w) v x
 |[],[],[],ps,_,_,_,_=>⟨[],.nil,rfl,by simp,by simp⟩
 |t::ts,v::args,d::ds,ps,hS,hok,⟨p,q,h1,h2,_⟩,hwt=>by
  simp only [DataW.weightsEach,List.all_append,Bool.and_eq_true] at hwt;obtain ⟨vs,k1,k2,k4,k3⟩:=z3e hB hp ts args ds q (fun t ht=>hS t (List.mem_cons_of_mem _ ht)) (fun j t v a b=>hok (j+1) t v (by simpa using a) (by simpa using b)) h2 hwt.2;obtain ⟨n,xs,g1,g2,g3⟩:=z9L hB hp (hS t (by simp)) (hok 0 t v rfl rfl) h1 hwt.1
  refine ⟨z51 P t xs::vs,.cons g1 k1,by simp [k2],by simp only [List.map_cons,List.sum_cons];omega,fun j u x hu hx=>?_⟩
  cases j with
  |zero=>simp at hu hx;subst hu;subst hx;exact g2
  |succ j=>exact k3 j u x (by simpa using hu) (by simpa using hx)
 |[],_::_,_,_,_,_,h,_=>by simp [DataW.TrodAll] at h
 |[],[],_::_,_,_,_,h,_=>by simp [DataW.TrodAll] at h
 |_::_,[],_,_,_,_,h,_=>by simp [DataW.TrodAll] at h
 |_::_,_::_,[],_,_,_,h,_=>by simp [DataW.TrodAll] at h
end
section
variable {H:Type} {enc:TypeId×Value->H} {P:Program}
theorem z23 {B:DataW H->Nat} {N:Nat} (hB:zaO B) {S:List TypeId} {f:FuncId} {fn:Func} {s:ChangeSpec} {tb:TypeId} {apart fresh handsOn again:Bool} (hp:z1b P S=true) (hl:laidOutB P=true) (hT:∀t∈fn.params.toList,t∈S/\P.readableRec t=true/\t<P.types.size)
  (hrt:fn.resultTypes=#[tb]) (hb:P.underlying tb=some .bool) (hv:s.vars=[]) (hs:∀ds:List (DataW H),ds.length=fn.params.size->s.fn H ds={results:=[.lit (.bool true)],args:=ds})
  (W:World) (base:Nat) (args:Array Value) (ds gs:List (DataW H)) (before:List MemPlace)
  (hval:∀(j:Nat) t v,fn.params[j]?=some t->args[j]?=some v->Value.okWide P W .any base t v)
  (hW:DataW.Whole enc P fn.params.toList s.vars apart W args.toList ds gs before)
  (hwt:(DataW.weightsEach P (fn.params.toList++s.plain.varTypes P) (ds++gs)).all (· <=reachBytes)=true)
  (hbk:(ds.map B).sum<=N) (hok:∀vs,WTs P fn.params.toList vs->(vs.map vb).sum<=N->z9 P f vs ⟨[],0⟩ {v:= .t (.bool true)}):
  Calls P f args W fun e W'=>∃v,e= .returned v/\s.post enc P fn apart fresh handsOn again W args v W':=by
 have hW':=hW;obtain ⟨p,q,hA,hV,rfl,hfz,hnd⟩:=hW;rw [hv] at hV;obtain ⟨rfl,rfl⟩:=trodVars_none hV
 have hdl:ds.length=fn.params.size:=by
  have:∀(ts:List TypeId) (vs:List Value) (ds:List (DataW H)) (ps:List MemPlace),DataW.TrodAll enc P W 0 (fun _=>true) true ts vs ds ps->ds.length=ts.length:=by
   intro ts
   induction ts with
   |nil=>intro vs ds ps h;cases vs<;>cases ds<;>simp_all [DataW.TrodAll]
   |cons t ts ih=>
    intro vs ds ps h
    cases vs with
    |nil=>simp [DataW.TrodAll] at h
    |cons v vs=>
     cases ds with
     |nil=>simp [DataW.TrodAll] at h
     |cons d ds=>obtain ⟨p,q,_,h2,_⟩:=h;simp [ih vs ds q h2]
  simpa using this _ _ _ _ hA
 have hwt':(DataW.weightsEach P fn.params.toList ds).all (· <=reachBytes)=true:=by
  have happ:∀(ts us:List TypeId) (ds es:List (DataW H)),ts.length=ds.length->DataW.weightsEach P (ts++us) (ds++es)=DataW.weightsEach P ts ds++DataW.weightsEach P us es:=by
   intro ts
   induction ts with
   |nil=>intro us ds es h;cases ds with
    |nil=>simp [DataW.weightsEach]
    |cons d ds=>simp at h
   |cons t ts ih=>intro us ds es h;cases ds with
    |nil=>simp at h
    |cons d ds=>simp only [List.cons_append,DataW.weightsEach,List.append_assoc];rw [ih us ds es (by simpa using h)]
  rw [happ _ _ _ _ (by simpa using hdl.symm),List.all_append,Bool.and_eq_true] at hwt;exact hwt.1
 obtain ⟨vs,k1,k2,k4,k3⟩:=z3e hB hp _ _ _ _ (fun t ht=>(hT t ht).1) (fun j t v a b=>hval j t v (by simpa using a) (by simpa using b)) hA hwt';refine ((hok vs k1 (Nat.le_trans k4 hbk)).2 (L.all W) args (Z4.all W) Z (by simpa using k2) (fun j v x a b=>k3 j v x (by simpa using a) b)).mono fun e W' he=>?_;obtain ⟨v,Λ',rfl,rfl,g1,g2,g3,g4⟩:=he;have hvt:=g4.Zv.yW;subst hvt;have hbel:Below W.heap.size W Λ'.w:=⟨g1.fr.os,g1.fr.tape,g1.fr.output,g1.fr.size,fun b hb=>(g1.fr.fix b hb none rfl).2⟩;have hsf:=hs (ds++[]) (by simpa using hdl);refine ⟨_,rfl,z24 (pa:=p) (pv:=[]) (by simpa using hW') ?_ ?_ ?_ (by simp) hbel ?_⟩
 ·intro b sp hd;rw [hsf,hrt]
  exact ⟨[],[],⟨1,by simp [DataW.trod,hb,Value.cells]⟩,rfl,rfl⟩
 ·intro sp hsp;rw [hsf];have hlt:∀x∈p,x.block<W.heap.size:=fun x hx=>hW'.lt x (by simpa using hx);simpa using qK hl hbel _ _ _ _ (fun t ht=>(hT t ht).2) hA hlt (fun x hx=>hsp x (by simpa using hx))
 ·intro sp hsp;rw [hsf,hv];rfl
 ·intro j t r hj hr;rw [hrt] at hj
  cases j with
  |zero=>
   simp at hj;subst hj;simp [hrt,Value.resultList] at hr;subst hr;simp [Value.okWide,Cell.okWide,Cell.ok,hb]
  |succ j=>simp at hj
theorem ze7 {H:Type} {enc:TypeId×Value->H} {P:Program} {B:DataW H->Nat} {N:Nat} (hB:zaO B) (S:List TypeId) {f:FuncId} {fn:Func} {s:ChangeSpec} {tb:TypeId} {apart fresh handsOn again:Bool} (hp:z1b P S=true) (hl:laidOutB P=true)
  (hT:(fn.params.toList.all fun t=>S.contains t&&P.readableRec t&&decide (t<P.types.size))=true)
  (hrt:fn.resultTypes=#[tb]) (hb:P.underlying tb=some .bool) (hv:s.vars=[]) (hs:∀ds:List (DataW H),ds.length=fn.params.size->s.fn H ds={results:=[.lit (.bool true)],args:=ds})
  (W:World) (base:Nat) (args:Array Value) (ds gs:List (DataW H)) (before:List MemPlace)
  (hval:∀(j:Nat) t v,fn.params[j]?=some t->args[j]?=some v->Value.okWide P W .any base t v)
  (hW:DataW.Whole enc P fn.params.toList s.vars apart W args.toList ds gs before)
  (hwt:(DataW.weightsEach P (fn.params.toList++s.plain.varTypes P) (ds++gs)).all (· <=reachBytes)=true)
  (hbk:(ds.map B).sum<=N) (hok:∀vs,WTs P fn.params.toList vs->(vs.map vb).sum<=N->z9 P f vs ⟨[],0⟩ {v:= .t (.bool true)}):
  Calls P f args W fun e W'=>∃v,e= .returned v/\s.post enc P fn apart fresh handsOn again W args v W':=by
 refine z23 hB (S:=S) hp hl (fun t ht=>?_) hrt hb hv hs W base args ds gs before hval hW hwt hbk hok;rw [List.all_eq_true] at hT;have:=hT t ht;simp only [Bool.and_eq_true,decide_eq_true_eq,List.contains_iff_mem] at this;exact ⟨this.1.1,this.1.2,this.2⟩
end
end Go.GB
namespace Go.GB
inductive Sel where
 |mk (kind:Int) (ali name on:Str) (args:List Arg) (zS:List Dir) (z7:List Sel)
namespace Sel
def kind:Sel->Int| .mk k _ _ _ _ _ _=>k
def ali:Sel->Str| .mk _ k _ _ _ _ _=>k
def name:Sel->Str| .mk _ _ k _ _ _ _=>k
def on:Sel->Str| .mk _ _ _ k _ _ _=>k
def args:Sel->List Arg| .mk _ _ _ _ k _ _=>k
def zS:Sel->List Dir| .mk _ _ _ _ _ k _=>k
def z7:Sel->List Sel| .mk _ _ _ _ _ _ k=>k
mutual
def enc:Sel->List T
 | .mk k a n o ar ds ss=>[.int .i64 k,.str a,.str n,.str o,.lst (ar.map Arg.enc),.lst (ds.map Dir.enc),.lst (WH ss)]
def WH:List Sel->List (List T)
 |[]=>[]
 |v::r=>v.enc::WH r
end
theorem YU:∀l:List Sel,WH l=l.map enc
 |[]=>by simp [WH]
 |v::r=>by simp [WH,YU r]
def cs (v:Sel):List T:=[.int .i64 v.kind,.str v.ali,.str v.name,.str v.on,.lst (v.args.map Arg.enc),.lst (v.zS.map Dir.enc),.lst (v.z7.map enc)]
theorem Zf (v:Sel):v.enc=v.cs:=by
 cases v;simp [enc,cs,kind,ali,name,on,args,zS,z7,YU]
theorem zB:∀(v:Sel),SizeOf.sizeOf v.z7<SizeOf.sizeOf v
 | .mk k a n o ar ds ss=>by simp only [z7,Sel.mk.sizeOf_spec];omega
def v (v:Sel):V:= .agg [.t (.int .i64 v.kind),.t (.str v.ali),.t (.str v.name),.t (.str v.on),.t (.lst (v.args.map Arg.enc)),.t (.lst (v.zS.map Dir.enc)),.t (.lst (v.z7.map enc))]
end Sel
inductive Sel.Ok:Sel->Prop where
 |mk {k:Int} {a n o:Str} {ar:List Arg} {ds:List Dir} {ss:List Sel} (h1:a.length<=140737488355328) (h2:n.length<=140737488355328) (h3:o.length<=140737488355328) (h4:ar.length*96<=B47) (h5:ds.length<=140737488355328) (h6:ss.length*128<=B47)
  (h7:∀x,x∈ar->x.Ok/\x.name.length<=140737488355328) (h8:∀x,x∈ds->x.Ok/\∀y,y∈x.args->y.name.length<=140737488355328) (h9:∀x,x∈ss->Sel.Ok x):Sel.Ok (.mk k a n o ar ds ss)
namespace Sel.Ok
theorem al {v:Sel} (h:v.Ok):v.ali.length<=140737488355328:=by cases h with|mk h1=>exact h1
theorem nm {v:Sel} (h:v.Ok):v.name.length<=140737488355328:=by cases h with|mk h1 h2=>exact h2
theorem on {v:Sel} (h:v.Ok):v.on.length<=140737488355328:=by cases h with|mk h1 h2 h3=>exact h3
theorem arl {v:Sel} (h:v.Ok):v.args.length*96<=140737488355328:=by cases h with|mk h1 h2 h3 h4=>exact h4
theorem dl {v:Sel} (h:v.Ok):v.zS.length<=140737488355328:=by cases h with|mk h1 h2 h3 h4 h5=>exact h5
theorem sl {v:Sel} (h:v.Ok):v.z7.length*128<=140737488355328:=by cases h with|mk h1 h2 h3 h4 h5 h6=>exact h6
theorem ar {v:Sel} (h:v.Ok):∀x,x∈v.args->x.Ok/\x.name.length<=140737488355328:=by cases h with|mk h1 h2 h3 h4 h5 h6 h7=>exact h7
theorem d {v:Sel} (h:v.Ok):∀x,x∈v.zS->x.Ok/\∀y,y∈x.args->y.name.length<=140737488355328:=by cases h with|mk h1 h2 h3 h4 h5 h6 h7 h8=>exact h8
theorem s {v:Sel} (h:v.Ok):∀x,x∈v.z7->x.Ok:=by cases h with|mk h1 h2 h3 h4 h5 h6 h7 h8 h9=>exact h9
end Sel.Ok
structure Var where
 name:Str
 ty:Ref
 has:Bool
 yI:Val
def Var.enc (x:Var):List T:=[.str x.name,.str x.ty.name,.lst (x.ty.zq.map nE),.bool x.has,.int .i64 x.yI.kind,.int .i64 x.yI.int,.str x.yI.text,.lst (x.yI.items.map Val.enc),.lst (x.yI.keys.map sE)]
structure Op where
 kind:Int
 name:Str
 vars:List Var
 z7:List Sel
def Op.enc (x:Op):List T:=[.int .i64 x.kind,.str x.name,.lst (x.vars.map Var.enc),.lst (x.z7.map Sel.enc)]
structure zA where
 name:Str
 on:Str
 z7:List Sel
def zA.enc (x:zA):List T:=[.str x.name,.str x.on,.lst (x.z7.map Sel.enc)]
def zA.v (x:zA):V:= .agg [.t (.str x.name),.t (.str x.on),.t (.lst (x.z7.map Sel.enc))]
def zA.zero:zA:=⟨[],[],[]⟩
structure Query where
 ops:List Op
 z8:List zA
def Query.v (q:Query):V:= .agg [.t (.lst (q.ops.map Op.enc)),.t (.lst (q.z8.map zA.enc))]
def zU (l:List Sel):Prop:=l.length*128<=140737488355328/\∀x,x∈l->x.Ok
structure Var.Ok (x:Var):Prop where
 nm:x.name.length<=140737488355328
 t:x.ty.Ok
 v:x.yI.Ok
structure Op.Ok (x:Op):Prop where
 nm:x.name.length<=140737488355328
 vl:x.vars.length<=140737488355328
 v:∀y,y∈x.vars->y.Ok
 s:zU x.z7
structure zA.Ok (x:zA):Prop where
 nm:x.name.length<=140737488355328
 on:x.on.length<=140737488355328
 s:zU x.z7
theorem zA.Wi:zA.zero.Ok:=⟨by decide,by decide,by decide,by simp [zA.zero]⟩
structure Query.Ok (q:Query):Prop where
 ol:q.ops.length<=140737488355328
 o:∀x,x∈q.ops->x.Ok
 fl:q.z8.length*56<=140737488355328
 f:∀x,x∈q.z8->x.Ok
theorem zU.sub {x:Sel} (h:x.Ok):zU x.z7:=⟨h.sl,h.s⟩
end Go.GB
namespace Go.GB.C11
open Go.GB
structure ZU (P:Program):Prop extends Pr P where
 i124:zb P 124=some (n124,c124.bare,r124)
 i95:zb P 95=some (n95,c95.bare,r95)
 i27:zb P 27=some (n27,c27.bare,r27)
 i34:zb P 34=some (n34,c34.bare,r34)
 i99:zb P 99=some (n99,c99.bare,r99)
 i57:zb P 57=some (n57,c57.bare,r57)
 i24:zb P 24=some (n24,c24.bare,r24)
 i26:zb P 26=some (n26,c26.bare,r26)
 i31:zb P 31=some (n31,c31.bare,r31)
 i127:zb P 127=some (n127,c127.bare,r127)
 i55:zb P 55=some (n55,c55.bare,r55)
 i56:zb P 56=some (n56,c56.bare,r56)
 i19:zb P 19=some (n19,c19.bare,r19)
 i58:zb P 58=some (n58,c58.bare,r58)
 i100:zb P 100=some (n100,c100.bare,r100)
 i46:zb P 46=some (n46,c46.bare,r46)
 i47:zb P 47=some (n47,c47.bare,r47)
 i48:zb P 48=some (n48,c48.bare,r48)
 i53:zb P 53=some (n53,c53.bare,r53)
 i54:zb P 54=some (n54,c54.bare,r54)
 i145:zb P 145=some (n145,c145.bare,r145)
 i96:zb P 96=some (n96,c96.bare,r96)
 i97:zb P 97=some (n97,c97.bare,r97)
 i98:zb P 98=some (n98,c98.bare,r98)
 i78:zb P 78=some (n78,c78.bare,r78)
 i82:zb P 82=some (n82,c82.bare,r82)
 i83:zb P 83=some (n83,c83.bare,r83)
 i84:zb P 84=some (n84,c84.bare,r84)
 i91:zb P 91=some (n91,c91.bare,r91)
 i93:zb P 93=some (n93,c93.bare,r93)
 i113:zb P 113=some (n113,c113.bare,r113)
 i114:zb P 114=some (n114,c114.bare,r114)
 i115:zb P 115=some (n115,c115.bare,r115)
 i116:zb P 116=some (n116,c116.bare,r116)
 i121:zb P 121=some (n121,c121.bare,r121)
 i136:zb P 136=some (n136,c136.bare,r136)
 i151:zb P 151=some (n151,c151.bare,r151)
variable {P:Program}
def zd (n:Str):List zA->Option zA
 |[]=>none
 |d::r=>if (d.name==n)=true then some d else zd n r
theorem Zu {n:Str}:∀{l:List zA} {d:zA},zd n l=some d->d∈l
 |[],d,h=>by simp [zd] at h
 |x::r,d,h=>by
  simp only [zd] at h;split at h
  ·cases h;exact List.mem_cons_self ..
  ·exact List.mem_cons_of_mem _ (Zu h)
theorem ZM {n:Str}:∀{l:List zA} {d:zA},zd n l=some d->d.name=n
 |[],d,h=>by simp [zd] at h
 |x::r,d,h=>by
  simp only [zd] at h;split at h
  ·rename_i hx;cases h;simpa using hx
  ·exact ZM h
theorem zcu {q:Query} (h:q.Ok) (n:Str):((zd n q.z8).getD zA.zero).Ok:=by
 cases hf:zd n q.z8 with
 |none=>exact zA.Wi
 |some x=>exact h.f x (Zu hf)
theorem zay (H:ZU P) (q:Query) (hq:q.Ok) (n:Str):z9 P 124 [q.v,.t (.str n)] ⟨[],0⟩ {v:= .tup [((zd n q.z8).getD zA.zero).v,.t (.bool (zd n q.z8).isSome)]}:=by
 have hl:=hq.fl;refine z9.run H.i124 H.mixed Z Z ?_;refine fR Z ?_;refine lM Z Z Z ?_;refine fM Z ?_;refine zx q.z8 (fun i (_:Unit)=>{env:=[(1,.t (.str n)),(4,.ptr 1 0),(9,.t (.lst (q.z8.map zA.enc))),(10,.t (.int .i64 q.z8.length)),(11,.t (.int .i64 i))],s:=⟨[(1,.cells [.t (.str []),.t (.str []),.zV])],2⟩}) (fun r i _=>zd n q.z8=zd n r) 2 () Z Z Z Z Z ?_ ?_
 ·intro _ hinv;refine fR Z ?_;refine Run.zj Z Z (by simp) ?_;refine fR Z ?_
  have e:zd n q.z8=none:=by rw [hinv];rfl
  rw [e];refine Run.fin Z (z5.go ?_);exact .wu (.agg (.cons (.t Z) (.cons (.t Z) (.cons (.nil Z) .nil)))) (.t Z)
 ·intro i x r _ h1 hi hd hinv ih;refine fR Z ?_;refine Run.zm Z Z (by simp;omega) ?_;refine fR Z ?_;refine Mid.ze Z Z Z h1 Z Z ?_;refine fM Z ?_;refine Run.cond Z Z (fun h=>?_) (fun h=>?_)
  ·refine fR Z ?_
   have e:zd n q.z8=some x:=by rw [hinv];simp only [zd];rw [if_pos h]
   rw [e];refine Run.fin Z (z5.go ?_);exact .wu (.le (.same Z)) (.t Z)
  ·refine fR Z ?_;refine aL Z Z Z Z Z ?_;refine fM Z ?_
   have h':¬ (x.name==n)=true:=by rw [h];simp
   exact zk 2 Z (ih () (by rw [hinv];simp only [zd];rw [if_neg h'])) Z Z Z
theorem z3c (H:ZU P) (q:Query) (hq:q.Ok) (n:Str):z9 P 95 [q.v,.t (.str n)] ⟨[],0⟩ {v:= .tup [((zd n q.z8).getD zA.zero).v,.t (.bool (zd n q.z8).isSome)]}:=by
 have hl:=hq.fl;refine z9.run H.i95 H.mixed Z Z ?_;refine fR Z ?_;refine zx q.z8 (fun i (_:Unit)=>{env:=[(1,.t (.str n)),(2,.ptr 0 0),(4,.ptr 1 0),(6,.t (.int .i64 i))],s:=⟨[(0,.cells [.t (.lst (q.ops.map Op.enc)),.t (.lst (q.z8.map zA.enc))]),(1,.cells [.t (.str []),.t (.str []),.zV])],2⟩}) (fun r i _=>zd n q.z8=zd n r) 2 () Z Z Z Z Z ?_ ?_
 ·intro _ hinv;refine fR Z ?_;refine lM Z Z Z ?_;refine fM Z ?_;refine Run.zj Z Z (by simp) ?_;refine fR Z ?_
  have e:zd n q.z8=none:=by rw [hinv];rfl
  rw [e];refine Run.fin Z (z5.go ?_);exact .wu (.agg (.cons (.t Z) (.cons (.t Z) (.cons (.nil Z) .nil)))) (.t Z)
 ·intro i x r _ h1 hi hd hinv ih;refine fR Z ?_;refine lM Z Z Z ?_;refine fM Z ?_;refine Run.zm Z Z (by simp;omega) ?_;refine fR Z ?_;refine Mid.ze Z Z Z h1 Z Z ?_;refine fM Z ?_;refine Run.cond Z Z (fun h=>?_) (fun h=>?_)
  ·refine fR Z ?_;refine Mid.ze Z Z Z h1 Z Z ?_;refine fM Z ?_
   have e:zd n q.z8=some x:=by rw [hinv];simp only [zd];rw [if_pos h]
   rw [e];refine Run.fin Z (z5.go ?_);exact .wu (.le (.same Z)) (.t Z)
  ·refine fR Z ?_;refine aL Z Z Z Z Z ?_;refine fM Z ?_
   have h':¬ (x.name==n)=true:=by rw [h];simp
   exact zk 2 Z (ih () (by rw [hinv];simp only [zd];rw [if_neg h'])) Z Z Z
theorem Qr (H:ZU P) (l:List Str) (hl:l.length<=140737488355328) (s:Str):z9 P 100 [.t (.lst (l.map sE)),.t (.str s)] ⟨[],0⟩ {v:= .t (.bool (decide (s∈l)))}:=by
 refine z9.run H.i100 H.mixed Z Z ?_;refine fR Z ?_;refine zx l (fun i (_:Unit)=>{env:=[(0,.t (.lst (l.map sE))),(1,.t (.str s)),(5,.t (.int .i64 i))],s:=⟨[],0⟩}) (fun r i _=>decide (s∈l)=decide (s∈r)) 0 () Z Z Z Z Z ?_ ?_
 ·intro _ hinv;refine fR Z ?_;refine lM Z Z Z ?_;refine fM Z ?_;refine Run.zj Z Z (by simp) ?_;refine fR Z ?_;refine Run.fin Z (z5.go ?_);exact .t (by rw [hinv];simp)
 ·intro i x r _ h1 hi hd hinv ih;refine fR Z ?_;refine lM Z Z Z ?_;refine fM Z ?_;refine Run.zm Z Z (by simp;omega) ?_;refine fR Z ?_;refine Mid.ze Z Z Z h1 Z Z ?_;refine fM Z ?_;refine Run.cond Z Z (fun h=>?_) (fun h=>?_)
  ·have h':x=s:=by simpa using h
   refine fR Z ?_;refine Run.fin Z (z5.go ?_);exact .t (by rw [hinv];simp [h'])
  ·have h':¬ x=s:=by simpa using h
   have h2:¬ s=x:=fun e=>h' e.symm;refine fR Z ?_;refine aL Z Z Z Z Z ?_;refine fM Z ?_;exact zk 0 Z (ih () (by rw [hinv];simp [h2])) Z Z Z
end Go.GB.C11
namespace Go.GB
variable {P:Program}
theorem z9.wk {f:FuncId} {vs vs':List V} {s s':S} {out out':Out} (h:z9 P f vs' s' out') (hm:s.nxt<=s'.nxt) (hv:za s.nxt s'.nxt vs vs') (hs:LeS s.nxt s'.nxt s.sto s'.sto)
  (hn:s.nxt+out.n=s'.nxt+out'.n) (ho:Zj s'.sto out'.ob=Zj s.sto out.ob) (hx:out'.v=out.v):z9 P f vs s out:=by
 refine ⟨h.1,fun Λ args h1 h2 h3 h4=>?_⟩;have hl:=hv.length
 have:=h.2 (Λ.cut s.nxt s'.nxt) args (h1.WJ (by omega) hm hs) rfl (by omega) (fun j v x a1 a2=>by
  have hj:j<vs.length:=by rw [hl];exact (List.getElem?_eq_some_iff.1 a2).1
  have hc:=List.getElem?_eq_getElem hj
  exact (hv.at j _ x hc a2).cut hm (by omega) (h4 j v _ a1 hc))
 refine Calls.mono this ?_;rintro e w' ⟨v,Λ',e1,e2,e3,e4,e5,e6⟩
 exact ⟨v,Λ',e1,e2,((Kp.refl Λ).cut (by omega) hm).trans e3,by omega,by rw [←ho];exact e5,by rw [←hx];exact e6⟩
section
variable {n m:Nat} {R:St->Prop} {draw:Bool} {all:List AO} {after:List (List Nat)} {live:List Nat} {k:List It} {b b':Nat} {fl:List (Bool×Bool)} {ops:List AO} {st st':St} {d:Option Nat}
end
end Go.GB
namespace Go.GB.C11
open Go.GB
variable {P:Program}
def z5p (q:Query) (out:List Str):Nat:=q.z8.countP fun f=>!decide (f.name∈out)
theorem z2Q {α:Type} {p q:α->Bool}:∀{l:List α} {x:α},x∈l->(∀y,p y=true->q y=true)->q x=true->p x=false->l.countP p<l.countP q
 |[],_,h,_,_,_=>by cases h
 |a::r,x,h,h1,h2,h3=>by
  simp only [List.countP_cons];have hle:r.countP p<=r.countP q:=List.countP_mono_left fun y _ hy=>h1 y hy
  rcases List.mem_cons.1 h with rfl|h
  ·rw [h2,h3];simp;omega
  ·have:=z2Q h h1 h2 h3
   have h4:(if p a=true then 1 else 0)<=(if q a=true then 1 else 0):=by
    by_cases hp:p a=true
    ·simp [hp,h1 a hp]
    ·simp [hp]
   omega
theorem z7n {q:Query} {out:List Str} {f:zA} (hf:f∈q.z8) (hn:¬ f.name∈out):z5p q (out++[f.name])<z5p q out:=by
 unfold z5p;refine z2Q hf ?_ ?_ ?_
 ·intro y hy;simp at hy⊢;exact hy.1
 ·simpa using hn
 ·simp
def zX (q:Query):Nat->List Sel->List Str->List Str×Bool
 |_,[],out=>(out,true)
 |n,s::r,out=>
  if s.kind=2 then
   match zd s.name q.z8 with
   |none=>((zX q n r out).1,false)
   |some f=>
    if s.name∈out then zX q n r out
    else match n with
     |0=>(out,true)
     |n'+1=>((zX q (n'+1) r (zX q n' f.z7 (out++[s.name])).1).1,(zX q n' f.z7 (out++[s.name])).2&&(zX q (n'+1) r (zX q n' f.z7 (out++[s.name])).1).2)
  else ((zX q n r (zX q n s.z7 out).1).1,(zX q n s.z7 out).2&&(zX q n r (zX q n s.z7 out).1).2)
termination_by n l=>(n,SizeOf.sizeOf l)
decreasing_by
 all_goals first
  |(apply Prod.Lex.right;simp only [List.cons.sizeOf_spec];have:=Sel.zB s;omega)
  |(apply Prod.Lex.left;omega)
theorem z02 (q:Query) (n:Nat) (out:List Str):zX q n [] out=(out,true):=by rw [zX]
theorem z1w {q:Query} {n:Nat} {s:Sel} {r:List Sel} {out:List Str} (h:s.kind=2) (hf:zd s.name q.z8=none):zX q n (s::r) out=((zX q n r out).1,false):=by
 rw [zX,if_pos h,hf]
theorem z1X {q:Query} {n:Nat} {s:Sel} {r:List Sel} {out:List Str} {f:zA} (h:s.kind=2) (hf:zd s.name q.z8=some f) (hi:s.name∈out):zX q n (s::r) out=zX q n r out:=by
 rw [zX,if_pos h,hf];simp only;rw [if_pos hi]
theorem QW {q:Query} {n:Nat} {s:Sel} {r:List Sel} {out:List Str} {f:zA} (h:s.kind=2) (hf:zd s.name q.z8=some f) (hi:¬ s.name∈out):zX q (n+1) (s::r) out=((zX q (n+1) r (zX q n f.z7 (out++[s.name])).1).1,(zX q n f.z7 (out++[s.name])).2&&(zX q (n+1) r (zX q n f.z7 (out++[s.name])).1).2):=by
 rw [zX,if_pos h,hf];simp only;rw [if_neg hi]
theorem QT {q:Query} {n:Nat} {s:Sel} {r:List Sel} {out:List Str} (h:¬ s.kind=2):zX q n (s::r) out=((zX q n r (zX q n s.z7 out).1).1,(zX q n s.z7 out).2&&(zX q n r (zX q n s.z7 out).1).2):=by
 rw [zX,if_neg h]
structure WOk (q:Query) (n:Nat) (out:List Str):Prop where
 n:z5p q out<=n
 l:out.length+z5p q out<=q.z8.length
theorem WOk.start (q:Query):WOk q q.z8.length []:=⟨by unfold z5p;exact List.countP_le_length,by unfold z5p;simp⟩
theorem WOk.add {q:Query} {n:Nat} {out:List Str} (h:WOk q (n+1) out) {s:Str} {f:zA} (hf:zd s q.z8=some f) (hs:¬ s∈out):WOk q n (out++[s]):=by
 have e:=ZM hf;subst e;have:=z7n (Zu hf) hs;have h1:=h.n;have h2:=h.l
 exact ⟨by omega,by simp only [List.length_append,List.length_singleton];omega⟩
theorem WOk.pos {q:Query} {n:Nat} {out:List Str} (h:WOk q n out) {s:Str} {f:zA} (hf:zd s q.z8=some f) (hs:¬ s∈out):∃n',n=n'+1:=by
 have e:=ZM hf;subst e;have:=z7n (Zu hf) hs;have h1:=h.n
 exact ⟨n - 1,by omega⟩
theorem y3 (q:Query):∀(n:Nat) (l:List Sel) (out:List Str),WOk q n out->WOk q n (zX q n l out).1/\∀x,x∈out->x∈(zX q n l out).1
 |n,[],out,h=>by rw [z02];exact ⟨h,fun _ h=>h⟩
 |n,s::r,out,h=>by
  by_cases hk:s.kind=2
  ·cases hf:zd s.name q.z8 with
   |none=>rw [z1w hk hf];exact y3 q n r out h
   |some f=>
    by_cases hi:s.name∈out
    ·rw [z1X hk hf hi];exact y3 q n r out h
    ·match n,h.pos hf hi with
     |n'+1,_=>
      rw [QW hk hf hi];have h1:=y3 q n' f.z7 (out++[s.name]) (h.add hf hi)
      have h2:=y3 q (n'+1) r (zX q n' f.z7 (out++[s.name])).1 ⟨by have:=h1.1.n;omega,h1.1.l⟩
      exact ⟨h2.1,fun x hx=>h2.2 x (h1.2 x (by simp [hx]))⟩
     |0,e=>exact absurd e.choose_spec (by omega)
  ·rw [QT hk];have h1:=y3 q n s.z7 out h;have h2:=y3 q n r (zX q n s.z7 out).1 h1.1;exact ⟨h2.1,fun x hx=>h2.2 x (h1.2 x hx)⟩
termination_by n l=>(n,SizeOf.sizeOf l)
decreasing_by
 all_goals first
  |(apply Prod.Lex.right;simp only [List.cons.sizeOf_spec];have:=Sel.zB s;omega)
  |(apply Prod.Lex.left;omega)
def z0C (P:Program) (f:FuncId) (q:Query) (n:Nat) (l:List Sel) (out:List Str):Prop:=
 z9 P f [q.v,.t (.lst (l.map Sel.enc)),.own 0 1 (out.map sE)] ⟨[(0,.arr out.length)],1⟩ {v:= .tup [.own 0 1 ((zX q n l out).1.map sE),.t (.bool (zX q n l out).2)],ob:=[(0,.arr (zX q n l out).1.length)],rd:=true}
theorem zU.zbb {q:Query} (hq:q.Ok) {n:Str} {f:zA} (h:zd n q.z8=some f):zU f.z7:=(hq.f f (Zu h)).s
theorem z6m (H:ZU P) (q:Query) (hq:q.Ok) (n:Nat) (l:List Sel) (out:List Str) (hl:zU l) (hw:WOk q n out)
  (ih:∀n' l' out',(n'<n∨n'=n/\SizeOf.sizeOf l'<SizeOf.sizeOf l)->zU l'->WOk q n' out'->z0C P 99 q n' l' out'):z0C P 99 q n l out:=by
 have hfl:=hq.fl;have hll:=hl.1;have hwl:=hw.l;unfold z0C;generalize hW:zX q n l out=W;refine z9.run H.i99 H.mixed Z Z ?_;refine fR Z ?_;refine zx l (fun i (B:List Str×Bool)=>{env:=[(1,.t (.lst (l.map Sel.enc))),(2,.own 0 1 (B.1.map sE)),(3,.ptr 1 0),(8,.t (.bool B.2)),(9,.t (.int .i64 i))],s:=⟨[(0,.arr B.1.length),(1,.cells [.t (.lst (q.ops.map Op.enc)),.t (.lst (q.z8.map zA.enc))])],2⟩}) (fun r i B=>WOk q n B.1/\W=((zX q n r B.1).1,B.2&&(zX q n r B.1).2)) 2 (out,true) Z (by refine ⟨hw,?_⟩;rw [←hW];simp) Z Z Z ?_ ?_
 ·rintro ⟨B,a⟩ ⟨hB,hinv⟩;dsimp only at hB hinv⊢;rw [z02] at hinv;subst hinv;refine fR Z ?_;refine lM Z Z Z ?_;refine fM Z ?_;refine Run.zj Z Z (by simp) ?_;refine fR Z ?_;refine Run.fin Z (z5.chg Z Z ?_ ?_)
  ·exact .wu (.le (.same Z)) (.t (by simp))
  ·exact leSA
 ·rintro i x r ⟨B,a⟩ h1 hi hd ⟨hB,hinv⟩ ihl;dsimp only at hB hinv ihl⊢;have hxm:x∈l:=zMG h1;have hx:=hl.2 x hxm;have hBl:=hB.l;have hsz:SizeOf.sizeOf x.z7<SizeOf.sizeOf l:=Nat.lt_trans (Sel.zB x) (List.sizeOf_lt_of_mem hxm);refine fR Z ?_;refine lM Z Z Z ?_;refine fM Z ?_;refine Run.zm Z Z (by simp;omega) ?_;refine fR Z ?_;refine Mid.Ze (Sel.Zf x) Z Z Z h1 Z Z ?_;refine fM Z ?_;refine Mid.Ze (Sel.Zf x) Z Z Z h1 Z Z ?_;refine fM Z ?_;refine Run.cond Z Z (fun hk=>?_) (fun hk=>?_)
  ·have hk':x.kind=2:=by simpa using hk
   refine fR Z ?_;refine Mid.Ze (Sel.Zf x) Z Z Z h1 Z Z ?_;refine fM Z ?_;refine Mid.call (z3c H q hq x.name) Z Z Z Z ?_;refine fM Z ?_
   cases hf:zd x.name q.z8 with
   |none=>
    rw [z1w hk' hf] at hinv;refine Run.zm Z Z Z ?_;refine fR Z ?_;refine caG Z Z (fun hg=>⟨_,rfl,Qr H B (by omega) zA.zero.name,rfl⟩) Z Z ?_;refine fM Z ?_;refine Run.zm Z Z Z ?_;refine fR Z ?_;refine aL Z Z Z Z Z ?_;refine fM Z ?_;exact zk 2 Z (ihl (B,false) ⟨hB,by rw [hinv];simp⟩) rfl rfl rfl
   |some f=>
    have hfn:=ZM hf;refine Run.zj Z Z Z ?_;refine fR Z ?_;refine caG Z Z (fun hg=>⟨_,rfl,Qr H B (by omega) f.name,rfl⟩) Z Z ?_;refine fM Z ?_;refine Run.cond Z Z (fun hi=>?_) (fun hi=>?_)
    ·have hi':x.name∈B:=by rw [←hfn];simpa using hi
     rw [z1X hk' hf hi'] at hinv;refine fR Z ?_;refine aL Z Z Z Z Z ?_;refine fM Z ?_;exact zk 2 Z (ihl (B,a) ⟨hB,hinv⟩) Z Z Z
    ·have hi':¬ x.name∈B:=by rw [←hfn];simpa using hi
     obtain ⟨n',rfl⟩:=hB.pos hf hi';rw [QW hk' hf hi',←hfn] at hinv;have hadd:=hB.add hf hi';rw [←hfn] at hadd;refine fR Z ?_;refine apM sE B [f.name] Z Z Z Z Z ?_ (h1:=by first |omega|(simp;omega)|(simp;done)) (h2:=by first |omega|(simp;omega)|(simp;done));refine fM rfl ?_;generalize hV:zX q n' f.z7 (B++[f.name])=V at hinv;have hV1:=(y3 q n' f.z7 (B++[f.name]) hadd).1;rw [hV] at hV1;have hcall:=ih n' f.z7 (B++[f.name]) (.inl (by omega)) (zU.zbb hq hf) hadd;unfold z0C at hcall;rw [hV] at hcall
     refine Mid.yD [0] (hcall) Z Z Z Z (by simp [zG];simp [z3.bd]) (by repeat' (first |exact trivial|exact rfl|refine And.intro ?_ ?_|exact (congrArg some (z3.zF _ _ _ _ _ _)).symm|exact (congrArg some (z3.ren_cE _ _ _)).symm)) Z Z (ob':=[(0,.arr V.1.length)]) (rfl) Z Z ?_
     refine fM Z ?_;refine aL Z Z Z Z Z ?_;refine fM Z ?_;exact zk 2 Z (ihl (V.1,a&&V.2) ⟨⟨by have:=hV1.n;show z5p q V.1<=n'+1;omega,hV1.l⟩,by rw [hinv];simp [Bool.and_assoc]⟩) rfl rfl rfl
  ·have hk':¬ x.kind=2:=by simpa using hk
   rw [QT hk'] at hinv;refine fR Z ?_;generalize hV:zX q n x.z7 B=V at hinv;have hV1:=(y3 q n x.z7 B hB).1;rw [hV] at hV1;have hcall:=ih n x.z7 B (.inr ⟨rfl,hsz⟩) (zU.sub hx) hB;unfold z0C at hcall;rw [hV] at hcall
   refine Mid.yD [0] (hcall) Z Z Z Z (by simp [zG];simp [z3.bd]) (by repeat' (first |exact trivial|exact rfl|refine And.intro ?_ ?_|exact (congrArg some (z3.zF _ _ _ _ _ _)).symm|exact (congrArg some (z3.ren_cE _ _ _)).symm)) Z Z (ob':=[(0,.arr V.1.length)]) (rfl) Z Z ?_
   refine fM Z ?_;refine aL Z Z Z Z Z ?_;refine fM Z ?_;exact zk 2 Z (ihl (V.1,a&&V.2) ⟨hV1,by rw [hinv];simp [Bool.and_assoc]⟩) rfl rfl rfl
theorem z16 (H:ZU P) (q:Query) (hq:q.Ok) (n:Nat) (l:List Sel) (out:List Str) (hl:zU l) (hw:WOk q n out):z0C P 99 q n l out:=
 z6m H q hq n l out hl hw fun n' l' out' h hl' hw'=>z16 H q hq n' l' out' hl' hw'
termination_by (n,SizeOf.sizeOf l)
decreasing_by
 rcases h with h|⟨h1,h2⟩
 ·exact Prod.Lex.left _ _ h
 ·subst h1;exact Prod.Lex.right _ h2
def wF (q:Query) (l:List Sel):List Str×Bool:=zX q q.z8.length l []
theorem z0C.nil {f:FuncId} {q:Query} {l:List Sel} (h:z0C P f q q.z8.length l []):z9 P f [q.v,.t (.lst (l.map Sel.enc)),.zV] ⟨[],0⟩ {v:= .tup [.own 0 1 ((wF q l).1.map sE),.t (.bool (wF q l).2)],ob:=[(0,.arr (wF q l).1.length)],n:=1,rd:=true}:=
 h.wk (by decide) (.cons (.same rfl) (.cons (.same rfl) (.cons (.zp (Nat.le_refl _) (by decide)) .nil))) (by simp [LeS,z3.fresh]) rfl rfl rfl
theorem zaQ (q:Query) (l:List Sel):(wF q l).1.length<=q.z8.length:=by
 have:=(y3 q q.z8.length l [] (WOk.start q)).1.l;unfold wF;omega
def qg (q:Query) (f:zA):Bool:=decide (f.name∈(wF q f.z7).1)
theorem qO (H:ZU P) (q:Query) (hq:q.Ok) (f:zA) (hf:f.Ok):z9 P 57 [q.v,f.v] ⟨[],0⟩ {v:= .t (.bool (qg q f))}:=by
 have hfl:=hq.fl;have hl:=zaQ q f.z7;refine z9.run H.i57 H.mixed Z Z ?_;refine fR Z ?_
 refine Mid.yD [] ((z16 H q hq q.z8.length f.z7 [] hf.s (WOk.start q)).nil) Z Z Z Z (by simp [zG]) (by repeat' (first |exact trivial|exact rfl|refine And.intro ?_ ?_|exact (congrArg some (z3.zF _ _ _ _ _ _)).symm|exact (congrArg some (z3.ren_cE _ _ _)).symm)) Z Z (ob':=[(2,.arr (wF q f.z7).1.length)]) (rfl) Z Z ?_
 refine fM Z ?_;refine Mid.call (Qr H (wF q f.z7).1 (by omega) f.name) Z Z Z Z ?_;refine fM Z ?_;refine Run.fin Z (z5.go ?_);exact .t Z
end Go.GB.C11
namespace Go.GB.C11
open Go.GB
variable {P:Program}
def z5h (ds:List Def) (n:Str):Int:=((zh n ds).getD Def.zero).kind
def zcD (k:Int):Bool:=k==1||k==2||k==3
def Z6 (ds:List Def) (n:Str):Bool:=!wj n&&zcD (z5h ds n)
theorem zaT (H:ZU P) (ds:List Def) (hD:Zd ds) (n:Str):z9 P 145 [yd ds,.t (.str n)] ⟨[],0⟩ {v:= .t (.int .i64 (z5h ds n))}:=by
 refine z9.run H.i145 H.mixed Z Z ?_;refine fR Z ?_;refine Mid.call (z7s H.toPr ds hD.l n) Z Z Z Z ?_;refine fM Z ?_;refine Run.fin Z (z5.go ?_);exact .t Z
theorem z3T (H:ZU P) (ds:List Def) (hD:Zd ds) (n:Str):z9 P 127 [yd ds,.t (.str n)] ⟨[],0⟩ {v:= .t (.bool (Z6 ds n))}:=by
 refine z9.run H.i127 H.mixed Z Z ?_;refine fR Z ?_;refine Mid.call (zaT H ds hD n) Z Z Z Z ?_;refine fM Z ?_;refine Mid.call (z8t H.toPr n) Z Z Z Z ?_;refine fM Z ?_;refine Run.fin Z (z5.go ?_);exact .t Z
theorem z6i (ds:List Def) (n:Str):((!wj n&&(zh n ds).isSome)&&zcD (z5h ds n))=Z6 ds n:=by
 unfold Z6 z5h
 cases zh n ds with
 |none=>simp [zcD,Def.zero]
 |some d=>simp
theorem z27 (H:ZU P) (ds:List Def) (hD:Zd ds) (n:Str):z9 P 34 [yd ds,.t (.str n)] ⟨[],0⟩ {v:= .t (.bool (Z6 ds n))}:=by
 refine z9.run H.i34 H.mixed Z Z ?_;refine fR Z ?_;refine Mid.call (yl H.toPr ds hD.l n) Z Z Z Z ?_;refine fM Z ?_;refine Mid.call (Yt H.toPr n) Z Z Z Z ?_;refine fM Z ?_;refine Run.fin Z (z5.go ?_);exact .t (by rw [←z6i];rfl)
def knF (ds:List Def) (n:Str):Str:=if Z6 ds n then n else []
theorem Zr (H:ZU P) (ds:List Def) (hD:Zd ds) (n:Str):z9 P 56 [yd ds,.t (.str n)] ⟨[],0⟩ {v:= .t (.str (knF ds n))}:=by
 refine z9.run H.i56 H.mixed Z Z ?_;refine fR Z ?_;refine Mid.call (z27 H ds hD n) Z Z Z Z ?_;refine fM Z ?_;refine Run.cond Z Z (fun h=>?_) (fun h=>?_)
 ·refine fR Z ?_;refine Run.fin Z (z5.go ?_);exact .t (by unfold knF;rw [if_pos h])
 ·refine fR Z ?_;refine Run.fin Z (z5.go ?_);exact .t (by unfold knF;rw [if_neg (by rw [h];simp)])
def apF (ds:List Def) (a b:Str):Bool:=Z6 ds a&&!ovF ds a b
def ifL (c:Bool) (x:z4):List z4:=if c then [x] else []
def z88 (ds:List Def) (a b at_:Str):List z4:=if (a==[]||b==[]||ovF ds a b)=true then [] else [⟨25,at_⟩]
theorem z05 (H:ZU P) (ds:List Def) (hD:Zd ds) (a b at_:Str):z9 P 96 [yd ds,.t (.str a),.t (.str b),.t (.str at_)] ⟨[],0⟩ {v:= .t (.lst ((z88 ds a b at_).map z4.enc))}:=by
 refine z9.run H.i96 H.mixed Z Z ?_;refine fR Z ?_;refine caG Z Z (fun hg=>⟨_,rfl,z57 H.toPr ds hD a b,rfl⟩) Z Z ?_;refine fM Z ?_;refine Run.cond Z Z (fun h=>?_) (fun h=>?_)
 ·refine fR Z ?_;refine Run.fin Z (z5.go ?_);exact .nil (by unfold z88;rw [if_pos h];rfl)
 ·refine fR Z ?_;refine Run.fin Z (z5.go ?_)
  first
  |exact .t (by unfold z88;rw [if_neg (by rw [h];simp)];rfl)
  |exact .own (by unfold z88;rw [if_neg (by rw [h];simp)];rfl)
def Z7 (s:Sel):Str:=if s.ali=[] then s.name else s.ali
theorem za0 (H:ZU P) (s:Sel):z9 P 98 [s.v] ⟨[],0⟩ {v:= .t (.str (Z7 s))}:=by
 refine z9.run H.i98 H.mixed Z Z ?_;refine fR Z ?_;refine Run.cond Z Z (fun h=>?_) (fun h=>?_)
 ·refine fR Z ?_
  have h':¬ s.ali=[]:=by simpa using h
  refine Run.fin Z (z5.go ?_);exact .t (by unfold Z7;rw [if_neg h'])
 ·refine fR Z ?_
  have h':s.ali=[]:=by simpa using h
  refine Run.fin Z (z5.go ?_);exact .t (by unfold Z7;rw [if_pos h'])
def z4O (ds:List Def) (on n:Str):Str:=
 if (on==[]||!(zh on ds).isSome||!(zD n ((zh on ds).getD Def.zero).fields).isSome)=true then [] else knF ds ((zD n ((zh on ds).getD Def.zero).fields).getD Field.zero).ty.name
theorem z4G (H:ZU P) (ds:List Def) (hD:Zd ds) (on n:Str):z9 P 97 [yd ds,.t (.str on),.t (.str n)] ⟨[],0⟩ {v:= .t (.str (z4O ds on n))}:=by
 have hF:=Qq hD on;refine z9.run H.i97 H.mixed Z Z ?_;refine fR Z ?_;refine Mid.call (yl H.toPr ds hD.l on) Z Z Z Z ?_;refine fM Z ?_;refine Mid.call (WX H.toPr ((zh on ds).getD Def.zero) hF.fl n) Z Z Z Z ?_;refine fM Z ?_;refine Run.cond Z Z (fun h=>?_) (fun h=>?_)
 ·refine fR Z ?_;refine Run.fin Z (z5.go ?_);exact .t (by unfold z4O;rw [if_pos h])
 ·refine fR Z ?_;refine Mid.call (Zr H ds hD ((zD n ((zh on ds).getD Def.zero).fields).getD Field.zero).ty.name) Z Z Z Z ?_;refine fM Z ?_;refine Run.fin Z (z5.go ?_);exact .t (by unfold z4O;rw [if_neg (by rw [h];simp)])
def wi (k:Int):Str:=if k=1 then [81,117,101,114,121] else if k=2 then [77,117,116,97,116,105,111,110] else if k=3 then [83,117,98,115,99,114,105,112,116,105,111,110] else []
theorem z37 (f:FuncId) (hi:zb P f=some (n31,c31.bare,r31)) (hm:P.follows .mixedOrders=true) (k:Int):z9 P f [.t (.int .i64 k)] ⟨[],0⟩ {v:= .t (.str (wi k))}:=by
 refine z9.run hi hm Z Z ?_;refine fR Z ?_;refine Run.cond Z Z (fun h1=>?_) (fun h1=>?_)
 ·have h':k=1:=by simpa using h1
  refine fR Z ?_;refine Run.fin Z (z5.go ?_);exact .t (by unfold wi;rw [if_pos h'])
 ·have h1':¬ k=1:=by simpa using h1
  refine fR Z ?_;refine Run.cond Z Z (fun h2=>?_) (fun h2=>?_)
  ·have h':k=2:=by simpa using h2
   refine fR Z ?_;refine Run.fin Z (z5.go ?_);exact .t (by unfold wi;rw [if_neg h1',if_pos h'])
  ·have h2':¬ k=2:=by simpa using h2
   refine fR Z ?_;refine Run.cond Z Z (fun h3=>?_) (fun h3=>?_)
   ·have h':k=3:=by simpa using h3
    refine fR Z ?_;refine Run.fin Z (z5.go ?_);exact .t (by unfold wi;rw [if_neg h1',if_neg h2',if_pos h'])
   ·have h':¬ k=3:=by simpa using h3
    refine fR Z ?_;refine Run.fin Z (z5.go ?_);exact .t (by unfold wi;rw [if_neg h1',if_neg h2',if_neg h'])
theorem z3E (H:ZU P) (k:Int):z9 P 31 [.t (.int .i64 k)] ⟨[],0⟩ {v:= .t (.str (wi k))}:=z37 31 H.i31 H.mixed k
theorem z9z (H:ZU P) (k:Int):z9 P 19 [.t (.int .i64 k)] ⟨[],0⟩ {v:= .t (.str (wi k))}:=z37 19 H.i19 H.mixed k
def wb (q:Query) (n:Str):Bool:=q.ops.any fun o=>decide (n∈(wF q o.z7).1)
theorem z0Y (H:ZU P) (q:Query) (hq:q.Ok) (n:Str):z9 P 58 [q.v,.t (.str n)] ⟨[],0⟩ {v:= .t (.bool (wb q n))}:=by
 have hfl:=hq.fl;have hol:=hq.ol;refine z9.run H.i58 H.mixed Z Z ?_;refine fR Z ?_;refine zx q.ops (fun i (_:Unit)=>{env:=[(1,.t (.str n)),(2,.ptr 0 0),(5,.t (.int .i64 i))],s:=⟨[(0,.cells [.t (.lst (q.ops.map Op.enc)),.t (.lst (q.z8.map zA.enc))])],1⟩}) (fun r i _=>wb q n=r.any fun o=>decide (n∈(wF q o.z7).1)) 1 () Z Z Z Z Z ?_ ?_
 ·intro _ hinv;refine fR Z ?_;refine lM Z Z Z ?_;refine fM Z ?_;refine Run.zj Z Z (by simp) ?_;refine fR Z ?_;refine Run.fin Z (z5.go ?_);exact .t (by rw [hinv];rfl)
 ·intro i x r _ h1 hi hd hinv ih;have hx:=hq.o x (zMG h1);have hw:=zaQ q x.z7;refine fR Z ?_;refine lM Z Z Z ?_;refine fM Z ?_;refine Run.zm Z Z (by simp;omega) ?_;refine fR Z ?_;refine Mid.ze Z Z Z h1 Z Z ?_;refine fM Z ?_
  refine Mid.yD [] ((z16 H q hq q.z8.length x.z7 [] hx.s (WOk.start q)).nil) Z Z Z Z (by simp [zG]) (by repeat' (first |exact trivial|exact rfl|refine And.intro ?_ ?_|exact (congrArg some (z3.zF _ _ _ _ _ _)).symm|exact (congrArg some (z3.ren_cE _ _ _)).symm)) Z Z (ob':=[(1,.arr (wF q x.z7).1.length)]) (rfl) Z Z ?_
  refine fM Z ?_;refine Mid.call (Qr H (wF q x.z7).1 (by omega) n) Z Z Z Z ?_;refine fM Z ?_;refine Run.cond Z Z (fun hc=>?_) (fun hc=>?_)
  ·refine fR Z ?_;refine Run.fin Z (z5.go ?_);exact .t (by rw [hinv,List.any_cons,hc];rfl)
  ·refine fR Z ?_;refine aL Z Z Z Z Z ?_;refine fM Z ?_;exact zk 1 Z (ih () (by rw [hinv,List.any_cons,hc];rfl)) Z Z Z
end Go.GB.C11
namespace Go.GB
mutual
def Sel.w:Sel->Nat
 | .mk _ a n _ _ _ ss=>2+a.length+n.length+Sel.ws ss
def Sel.ws:List Sel->Nat
 |[]=>0
 |x::r=>x.w+Sel.ws r
end
theorem Sel.z9R (s:Sel):s.w=2+s.ali.length+s.name.length+Sel.ws s.z7:=by cases s;simp only [Sel.w,Sel.ali,Sel.name,Sel.z7]
theorem Sel.z6G:∀{l:List Sel} {x:Sel},x∈l->x.w<=Sel.ws l
 |[],x,h=>by cases h
 |y::r,x,h=>by
  simp only [Sel.ws]
  rcases List.mem_cons.1 h with rfl|h
  ·omega
  ·have:=Sel.z6G h;omega
end Go.GB
namespace Go.GB.C11
open Go.GB
variable {P:Program}
def z4h (ds:List Def) (on n:Str):Str:=
 if ((zh on ds).isSome&&Z6 ds on)=true then (if (zD n ((zh on ds).getD Def.zero).fields).isSome=true then ((zD n ((zh on ds).getD Def.zero).fields).getD Field.zero).ty.name else []) else []
def Yo (ds:List Def) (q:Query):List Sel->Str->Str->List z4
 |[],_,_=>[]
 |s::r,on,at_=>
  (if s.kind=2 then ifL (!(zd s.name q.z8).isSome) ⟨24,at_⟩++ifL (((zd s.name q.z8).isSome&&Z6 ds ((zd s.name q.z8).getD zA.zero).on)&&apF ds on ((zd s.name q.z8).getD zA.zero).on) ⟨25,at_⟩
   else if s.kind=3 then (if s.on=[] then [] else ifL (!Z6 ds s.on) ⟨24,at_⟩++ifL (Z6 ds s.on&&apF ds on s.on) ⟨25,at_⟩)++Yo ds q s.z7 (if s.on=[] then on else s.on) at_
   else Yo ds q s.z7 (z4h ds on s.name) (at_++[47]++Z7 s))++Yo ds q r on at_
termination_by l=>SizeOf.sizeOf l
decreasing_by
 all_goals simp_wf
 all_goals (have:=Sel.zB s;omega)
theorem z5w (ds:List Def) (q:Query) (on at_:Str):Yo ds q [] on at_=[]:=by rw [Yo]
theorem qc {ds:List Def} {q:Query} {s:Sel} {r:List Sel} {on at_:Str} (h:s.kind=2):Yo ds q (s::r) on at_=(ifL (!(zd s.name q.z8).isSome) ⟨24,at_⟩++ifL (((zd s.name q.z8).isSome&&Z6 ds ((zd s.name q.z8).getD zA.zero).on)&&apF ds on ((zd s.name q.z8).getD zA.zero).on) ⟨25,at_⟩)++Yo ds q r on at_:=by
 rw [Yo,if_pos h]
theorem WU {ds:List Def} {q:Query} {s:Sel} {r:List Sel} {on at_:Str} (h:s.kind=3):Yo ds q (s::r) on at_=((if s.on=[] then [] else ifL (!Z6 ds s.on) ⟨24,at_⟩++ifL (Z6 ds s.on&&apF ds on s.on) ⟨25,at_⟩)++Yo ds q s.z7 (if s.on=[] then on else s.on) at_)++Yo ds q r on at_:=by
 rw [Yo,if_neg (by omega),if_pos h]
theorem Q6 {ds:List Def} {q:Query} {s:Sel} {r:List Sel} {on at_:Str} (h:¬ s.kind=2) (h':¬ s.kind=3):Yo ds q (s::r) on at_=Yo ds q s.z7 (z4h ds on s.name) (at_++[47]++Z7 s)++Yo ds q r on at_:=by
 rw [Yo,if_neg h,if_neg h']
theorem YE (c:Bool) (x:z4):(ifL c x).length<=1:=by cases c<;>simp [ifL]
theorem z4Q (s:Sel):(Z7 s).length<=s.ali.length+s.name.length:=by unfold Z7;split<;>omega
theorem yR (ds:List Def) (q:Query):∀(l:List Sel) (on at_:Str),(Yo ds q l on at_).length<=Sel.ws l
 |[],on,at_=>by rw [z5w];exact Nat.zero_le _
 |s::r,on,at_=>by
  have hr:=yR ds q r on at_;have hw:=Sel.z9R s;have hsz:=Sel.zB s;simp only [Sel.ws];by_cases h2:s.kind=2
  ·rw [qc h2];have a1:=YE (!(zd s.name q.z8).isSome) ⟨24,at_⟩;have a2:=YE (((zd s.name q.z8).isSome&&Z6 ds ((zd s.name q.z8).getD zA.zero).on)&&apF ds on ((zd s.name q.z8).getD zA.zero).on) ⟨25,at_⟩;simp only [List.length_append];omega
  ·by_cases h3:s.kind=3
   ·rw [WU h3];have a1:=YE (!Z6 ds s.on) ⟨24,at_⟩;have a2:=YE (Z6 ds s.on&&apF ds on s.on) ⟨25,at_⟩;have a3:=yR ds q s.z7 (if s.on=[] then on else s.on) at_;simp only [List.length_append]
    split<;>simp only [List.length_append,List.length_nil]<;>split at a3<;>simp_all<;>omega
   ·rw [Q6 h2 h3];have a3:=yR ds q s.z7 (z4h ds on s.name) (at_++[47]++Z7 s);simp only [List.length_append];omega
termination_by l=>SizeOf.sizeOf l
decreasing_by
 all_goals simp_wf
 all_goals (have:=Sel.zB s;omega)
end Go.GB.C11
namespace Go.GB.C11
open Go.GB
variable {P:Program}
def yN (l:List Op):Nat:=(l.map fun o=>Sel.ws o.z7+o.name.length).sum
def frW (l:List zA):Nat:=(l.map fun o=>Sel.ws o.z7+o.name.length+3).sum
theorem W6 (o:Op) (l:List Op):yN (o::l)=Sel.ws o.z7+o.name.length+yN l:=by simp [yN]
theorem qe (o:zA) (l:List zA):frW (o::l)=Sel.ws o.z7+o.name.length+3+frW l:=by simp [frW]
theorem z1m:∀{l:List Op} {o:Op},o∈l->Sel.ws o.z7+o.name.length<=yN l
 |[],o,h=>by cases h
 |y::r,o,h=>by
  rw [W6]
  rcases List.mem_cons.1 h with rfl|h
  ·omega
  ·have:=z1m h;omega
theorem z3Z:∀{l:List zA} {o:zA},o∈l->Sel.ws o.z7+o.name.length+3<=frW l
 |[],o,h=>by cases h
 |y::r,o,h=>by
  rw [qe]
  rcases List.mem_cons.1 h with rfl|h
  ·omega
  ·have:=z3Z h;omega
def opL (ds:List Def) (q:Query):List Op->List z4
 |[]=>[]
 |o::r=>Yo ds q o.z7 (wi o.kind) o.name++opL ds q r
def frL (ds:List Def) (q:Query):List zA->List z4
 |[]=>[]
 |f::r=>ifL (!Z6 ds f.on) ⟨24,f.name⟩++ifL (qg q f) ⟨24,f.name⟩++ifL (!wb q f.name) ⟨26,f.name⟩++Yo ds q f.z7 f.on f.name++frL ds q r
def z4Y (ds:List Def) (q:Query):List z4:=opL ds q q.ops++frL ds q q.z8
theorem z44 (ds:List Def) (q:Query):∀l:List Op,(opL ds q l).length<=yN l
 |[]=>by simp [opL]
 |o::r=>by
  have:=z44 ds q r;have:=yR ds q o.z7 (wi o.kind) o.name;rw [W6];simp only [opL,List.length_append];omega
theorem z7z (ds:List Def) (q:Query):∀l:List zA,(frL ds q l).length<=frW l
 |[]=>by simp [frL]
 |o::r=>by
  have:=z7z ds q r;have:=yR ds q o.z7 o.on o.name;have:=YE (!Z6 ds o.on) ⟨24,o.name⟩;have:=YE (qg q o) ⟨24,o.name⟩;have:=YE (!wb q o.name) ⟨26,o.name⟩;rw [qe];simp only [frL,List.length_append];omega
theorem z9N (ds:List Def) (q:Query):(z4Y ds q).length<=yN q.ops+frW q.z8:=by
 have:=z44 ds q q.ops;have:=z7z ds q q.z8;unfold z4Y;rw [List.length_append];omega
end Go.GB.C11
namespace Go.GB.C11
open Go.GB
variable {P:Program}
theorem z6X (ds:List Def):knF ds []=[]:=by unfold knF;split<;>rfl
theorem z3o {ds:List Def} (hE:Z6 ds []=false) (on b at_:Str):z88 ds (knF ds on) (knF ds b) at_=ifL (Z6 ds b&&apF ds on b) ⟨25,at_⟩:=by
 unfold z88 apF knF ifL
 cases ha:Z6 ds on with
 |false=>simp
 |true=>
  have ha':¬ on=[]:=by rintro rfl;rw [hE] at ha;cases ha
  cases hb:Z6 ds b with
  |false=>simp
  |true=>
   have hb':¬ b=[]:=by rintro rfl;rw [hE] at hb;cases hb
   simp only [ha',hb',if_true]
   cases ovF ds on b<;>simp [ha',hb']
theorem z9E {ds:List Def} (hE:Z6 ds []=false) (on n:Str):z4O ds (knF ds on) n=knF ds (z4h ds on n):=by
 unfold z4O z4h
 cases ha:Z6 ds on with
 |false=>simp [knF,ha]
 |true=>
  have ha':¬ on=[]:=by rintro rfl;rw [hE] at ha;cases ha
  have hk:knF ds on=on:=by unfold knF;rw [if_pos ha]
  rw [hk]
  cases hf:zh on ds with
  |none=>simp [z6X]
  |some d=>
   cases hg:zD n ((some d).getD Def.zero).fields with
   |none=>simp only [Option.getD_some] at hg;simp [z6X,hg]
   |some x=>simp only [Option.getD_some] at hg;simp [ha',hg]
def Qu (P:Program) (ds:List Def) (q:Query) (l:List Sel) (on at_:Str):Prop:=
 z9 P 55 [yd ds,q.v,.t (.lst (l.map Sel.enc)),.t (.str (knF ds on)),.t (.str at_)] ⟨[],0⟩ {v:= .t (.lst ((Yo ds q l on at_).map z4.enc))}
theorem z6C (H:ZU P) (ds:List Def) (hD:Zd ds) (hE:Z6 ds []=false) (q:Query) (hq:q.Ok) (l:List Sel) (on at_:Str) (hl:zU l) (ho:Sel.ws l<=4398046511104) (ha:at_.length+Sel.ws l<=4398046511104)
  (ih:∀l' on' at',SizeOf.sizeOf l'<SizeOf.sizeOf l->zU l'->Sel.ws l'<=4398046511104->at'.length+Sel.ws l'<=4398046511104->Qu P ds q l' on' at'):Qu P ds q l on at_:=by
 have hll:=hl.1;unfold Qu;generalize hT:Yo ds q l on at_=tot;refine z9.run H.i55 H.mixed Z Z ?_;refine fR Z ?_
 refine zx l (fun i (B:List z4)=>{env:=[(2,.t (.lst (l.map Sel.enc))),(3,.t (.str (knF ds on))),(4,.t (.str at_)),(5,.ptr 0 0),(6,.ptr 1 0),(11,.own 2 2 (List.map z4.enc (B))),(12,.t (.int .i64 i))],s:=⟨[(0,.cells [.t (.lst (ds.map Def.enc))]),(1,.cells [.t (.lst (q.ops.map Op.enc)),.t (.lst (q.z8.map zA.enc))]),(2,.arr (B).length)],3⟩}) (fun r i B=>B.length+Sel.ws r<=4398046511104/\B++Yo ds q r on at_=tot) 2 [] Z ⟨by simpa using ho,hT⟩ rfl rfl rfl ?_ ?_
 ·rintro B ⟨_,hB⟩
  obtain rfl:B=tot:=by rw [←hB,z5w];simp
  refine fR Z ?_;refine lM Z Z Z ?_;refine fM Z ?_;refine Run.zj Z Z (by simp) ?_;refine fR Z ?_;refine Run.fin Z (z5.go ?_);exact .own Z
 ·rintro i x r B h1 hi hd ⟨hlB,hB⟩ ihl;have hxm:x∈l:=zMG h1;have hx:=hl.2 x hxm;have hw:=Sel.z9R x;have hwm:=Sel.z6G hxm;have hkl:=z4Q x;have hsz:SizeOf.sizeOf x.z7<SizeOf.sizeOf l:=Nat.lt_trans (Sel.zB x) (List.sizeOf_lt_of_mem hxm);simp only [Sel.ws] at hlB;have hal:=hx.al;have hnl:=hx.nm;refine fR Z ?_;refine lM Z Z Z ?_;refine fM Z ?_;refine Run.zm Z Z (by simp;omega) ?_;refine fR Z ?_;refine Mid.Ze (Sel.Zf x) Z Z Z h1 Z Z ?_;refine fM Z ?_;refine Run.cond Z Z (fun hk=>?_) (fun hk=>?_)
  ·have hk':x.kind=2:=by simpa using hk
   rw [qc hk'] at hB;refine fR Z ?_;refine Mid.call (z3c H q hq x.name) Z Z Z Z ?_;refine fM Z ?_;have hfo:=zcu hq x.name
   cases hf:zd x.name q.z8 with
   |none=>
    rw [hf] at hB;simp [ifL] at hB;refine Run.zm Z Z Z ?_;refine fR Z ?_;refine apM z4.enc B [(⟨24,at_⟩:z4)] Z Z Z Z Z ?_ (h1:=by first |omega|(simp;omega)|(simp;done)) (h2:=by first |omega|(simp;omega)|(simp;done));refine fM rfl ?_;refine aL rfl rfl rfl rfl rfl ?_;refine fM rfl ?_;exact zk 3 rfl (ihl (B++[⟨24,at_⟩]) ⟨by simp;omega,by rw [←hB];simp⟩) rfl rfl rfl
   |some f=>
    rw [hf] at hB;simp only [Option.isSome_some,Option.getD_some,Bool.not_true,Bool.true_and] at hB;refine Run.zj Z Z Z ?_;refine fR Z ?_;refine Mid.call (Zr H ds hD f.on) Z Z Z Z ?_;refine fM Z ?_;refine Mid.call (z05 H ds hD (knF ds on) (knF ds f.on) at_) Z Z Z Z ?_;skip;rw [z3o hE];have a2:=YE (Z6 ds f.on&&apF ds on f.on) ⟨25,at_⟩;generalize ifL (Z6 ds f.on&&apF ds on f.on) ⟨25,at_⟩=N2 at hB a2;refine apM z4.enc B N2 Z Z Z Z Z ?_ (h1:=by first |omega|(simp;omega)|(simp;done)) (h2:=by first |omega|(simp;omega)|(simp;done));refine fM rfl ?_;refine aL rfl rfl rfl rfl rfl ?_;refine fM rfl ?_;exact zk 3 rfl (ihl (B++N2) ⟨by simp;omega,by rw [←hB];simp [ifL]⟩) rfl rfl rfl
  ·have hk':¬ x.kind=2:=by simpa using hk
   refine fR Z ?_;refine Run.cond Z Z (fun h3=>?_) (fun h3=>?_)
   ·have h3':x.kind=3:=by simpa using h3
    rw [WU h3'] at hB;refine fR Z ?_;refine Run.cond Z Z (fun ho=>?_) (fun ho=>?_)
    ·have ho':¬ x.on=[]:=by simpa using ho
     rw [if_neg ho',if_neg ho'] at hB;have a1:=YE (!Z6 ds x.on) ⟨24,at_⟩;have a2:=YE (Z6 ds x.on&&apF ds on x.on) ⟨25,at_⟩;have hcall:=ih x.z7 x.on at_ hsz (zU.sub hx) (by omega) (by omega);unfold Qu at hcall;have a3:=yR ds q x.z7 x.on at_;generalize Yo ds q x.z7 x.on at_=N3 at hB a3 hcall;refine fR Z ?_;refine Mid.call (Zr H ds hD x.on) Z Z Z Z ?_;refine fM Z ?_;refine Run.cond Z Z (fun hc=>?_) (fun hc=>?_)
     ·have hc':Z6 ds x.on=false:=by
       cases hcc:Z6 ds x.on with
       |false=>rfl
       |true=>simp [knF,hcc,ho'] at hc
      have e1:ifL (!Z6 ds x.on) ⟨24,at_⟩=[⟨24,at_⟩]:=by rw [hc'];rfl
      rw [e1] at hB;refine fR Z ?_;refine apM z4.enc B [(⟨24,at_⟩:z4)] Z Z Z Z Z ?_ (h1:=by first |omega|(simp;omega)|(simp;done)) (h2:=by first |omega|(simp;omega)|(simp;done));refine fM rfl ?_;refine Mid.call (z05 H ds hD (knF ds on) (knF ds x.on) at_) rfl rfl rfl rfl ?_;skip;rw [z3o hE];generalize ifL (Z6 ds x.on&&apF ds on x.on) ⟨25,at_⟩=N2 at hB a2;refine apM z4.enc (B++[(⟨24,at_⟩:z4)]) N2 rfl rfl rfl rfl rfl ?_ (h1:=by first |omega|(simp;omega)|(simp;done)) (h2:=by first |omega|(simp;omega)|(simp;done));refine fM rfl ?_;refine Mid.call (hcall) rfl rfl rfl rfl ?_;skip;refine apM z4.enc (B++[(⟨24,at_⟩:z4)]++N2) N3 rfl rfl rfl rfl rfl ?_ (h1:=by first |omega|(simp;omega)|(simp;done)) (h2:=by first |omega|(simp;omega)|(simp;done));refine fM rfl ?_;refine aL rfl rfl rfl rfl rfl ?_;refine fM rfl ?_;exact zk 3 rfl (ihl (B++[⟨24,at_⟩]++N2++N3) ⟨by simp;omega,by rw [←hB];simp⟩) rfl rfl rfl
     ·have hc':Z6 ds x.on=true:=by
       cases hcc:Z6 ds x.on with
       |true=>rfl
       |false=>simp [knF,hcc] at hc
      have e1:ifL (!Z6 ds x.on) ⟨24,at_⟩=[]:=by rw [hc'];rfl
      rw [e1] at hB;refine fR Z ?_;refine Mid.call (z05 H ds hD (knF ds on) (knF ds x.on) at_) Z Z Z Z ?_;skip;rw [z3o hE];generalize ifL (Z6 ds x.on&&apF ds on x.on) ⟨25,at_⟩=N2 at hB a2;refine apM z4.enc B N2 Z Z Z Z Z ?_ (h1:=by first |omega|(simp;omega)|(simp;done)) (h2:=by first |omega|(simp;omega)|(simp;done));refine fM rfl ?_;refine Mid.call (hcall) rfl rfl rfl rfl ?_;skip;refine apM z4.enc (B++N2) N3 rfl rfl rfl rfl rfl ?_ (h1:=by first |omega|(simp;omega)|(simp;done)) (h2:=by first |omega|(simp;omega)|(simp;done));refine fM rfl ?_;refine aL rfl rfl rfl rfl rfl ?_;refine fM rfl ?_;exact zk 3 rfl (ihl (B++N2++N3) ⟨by simp;omega,by rw [←hB];simp⟩) rfl rfl rfl
    ·have ho':x.on=[]:=by simpa using ho
     rw [if_pos ho',if_pos ho'] at hB;have hcall:=ih x.z7 on at_ hsz (zU.sub hx) (by omega) (by omega);unfold Qu at hcall;have a3:=yR ds q x.z7 on at_;generalize Yo ds q x.z7 on at_=N3 at hB a3 hcall;refine fR Z ?_;refine Mid.call (hcall) Z Z Z Z ?_;skip;refine apM z4.enc B N3 Z Z Z Z Z ?_ (h1:=by first |omega|(simp;omega)|(simp;done)) (h2:=by first |omega|(simp;omega)|(simp;done));refine fM rfl ?_;refine aL rfl rfl rfl rfl rfl ?_;refine fM rfl ?_;exact zk 3 rfl (ihl (B++N3) ⟨by simp;omega,by rw [←hB];simp⟩) rfl rfl rfl
   ·have h3':¬ x.kind=3:=by simpa using h3
    rw [Q6 hk' h3'] at hB;have hcall:=ih x.z7 (z4h ds on x.name) (at_++[47]++Z7 x) hsz (zU.sub hx) (by omega) (by simp;omega);unfold Qu at hcall;have a3:=yR ds q x.z7 (z4h ds on x.name) (at_++[47]++Z7 x);generalize Yo ds q x.z7 (z4h ds on x.name) (at_++[47]++Z7 x)=N3 at hB a3 hcall;refine fR Z ?_;refine Mid.call (z4G H ds hD (knF ds on) x.name) Z Z Z Z ?_;refine fM Z ?_;refine pu Z ?_;refine fM Z ?_;rw [z9E hE];refine Mid.call (za0 H x) Z Z Z Z ?_;refine pu Z ?_;refine Mid.call (hcall) Z Z Z Z ?_;skip;refine apM z4.enc B N3 Z Z Z Z Z ?_ (h1:=by first |omega|(simp;omega)|(simp;done)) (h2:=by first |omega|(simp;omega)|(simp;done));refine fM rfl ?_;refine aL rfl rfl rfl rfl rfl ?_;refine fM rfl ?_;exact zk 3 rfl (ihl (B++N3) ⟨by simp;omega,by rw [←hB];simp⟩) rfl rfl rfl
theorem z1U (H:ZU P) (ds:List Def) (hD:Zd ds) (hE:Z6 ds []=false) (q:Query) (hq:q.Ok):∀(l:List Sel) (on at_:Str) (hl:zU l) (ho:Sel.ws l<=4398046511104) (ha:at_.length+Sel.ws l<=4398046511104),Qu P ds q l on at_
 |l,on,at_,hl,ho,ha=>z6C H ds hD hE q hq l on at_ hl ho ha fun l' on' at' h h1 h2 h3=>z1U H ds hD hE q hq l' on' at' h1 h2 h3
termination_by l=>SizeOf.sizeOf l
theorem z4C (H:ZU P) (ds:List Def) (hD:Zd ds) (hE:Z6 ds []=false) (q:Query) (hq:q.Ok) (hw:yN q.ops+frW q.z8<=1099511627776):z9 P 27 [yd ds,q.v] ⟨[],0⟩ {v:= .t (.lst ((z4Y ds q).map z4.enc))}:=by
 have hfl:=hq.fl;have hol:=hq.ol;have hct:=z9N ds q;generalize hT:z4Y ds q=tot at hct;refine z9.run H.i27 H.mixed Z Z ?_;refine fR Z ?_
 refine zx q.ops (fun i (B:List z4)=>{env:=[(2,.ptr 0 0),(3,.ptr 1 0),(5,.own 2 2 (List.map z4.enc (B))),(6,.t (.int .i64 i))],s:=⟨[(0,.cells [.t (.lst (ds.map Def.enc))]),(1,.cells [.t (.lst (q.ops.map Op.enc)),.t (.lst (q.z8.map zA.enc))]),(2,.arr (B).length)],3⟩}) (fun r i B=>B.length+yN r<=yN q.ops/\B++opL ds q r=opL ds q q.ops) 2 [] Z ⟨by simp,rfl⟩ rfl rfl rfl ?_ ?_
 ·rintro B ⟨_,hB⟩
  have hB':B=opL ds q q.ops:=by have:=hB;simpa [opL] using this
  have hBl:=z44 ds q q.ops;rw [←hB'] at hBl;refine fR Z ?_;refine lM Z Z Z ?_;refine fM Z ?_;refine Run.zj Z Z (by simp) ?_;refine fR Z ?_
  refine zx q.z8 (fun i (B:List z4)=>{env:=[(2,.ptr 0 0),(3,.ptr 1 0),(5,.own 2 2 (List.map z4.enc (B))),(7,.t (.int .i64 i))],s:=⟨[(0,.cells [.t (.lst (ds.map Def.enc))]),(1,.cells [.t (.lst (q.ops.map Op.enc)),.t (.lst (q.z8.map zA.enc))]),(2,.arr (B).length)],3⟩}) (fun r i C=>C.length+frW r<=yN q.ops+frW q.z8/\C++frL ds q r=tot) 3 B Z ⟨by omega,by rw [hB',←hT];rfl⟩ rfl rfl rfl ?_ ?_
  ·rintro C ⟨_,hC⟩
   obtain rfl:C=tot:=by rw [←hC];simp [frL]
   refine fR Z ?_;refine lM Z Z Z ?_;refine fM Z ?_;refine Run.zj Z Z (by simp) ?_;refine fR Z ?_;refine Run.fin Z (z5.go ?_);exact .own Z
  ·rintro i f r C h1 hi hd ⟨hlC,hC⟩ ih;rw [qe] at hlC;simp only [frL] at hC;have hfm:f∈q.z8:=zMG h1;have hfk:=hq.f f hfm;have hfw:=z3Z hfm;have hcall:=z1U H ds hD hE q hq f.z7 f.on f.name hfk.s (by omega) (by omega);unfold Qu at hcall;have a4:=yR ds q f.z7 f.on f.name;generalize Yo ds q f.z7 f.on f.name=N4 at hC a4 hcall;refine fR Z ?_;refine lM Z Z Z ?_;refine fM Z ?_;refine Run.zm Z Z (by simp;omega) ?_;refine fR Z ?_;refine Mid.ze Z Z Z h1 Z Z ?_;refine fM Z ?_;refine Mid.call (Zr H ds hD f.on) Z Z Z Z ?_;refine fM Z ?_;refine Run.cond Z Z (fun hc=>?_) (fun hc=>?_)
   ·have hc':Z6 ds f.on=false:=by
     cases hcc:Z6 ds f.on with
     |false=>rfl
     |true=>
      have hne:¬ f.on=[]:=by intro e;rw [e,hE] at hcc;cases hcc
      simp [knF,hcc,hne] at hc
    have e1:ifL (!Z6 ds f.on) ⟨24,f.name⟩=[⟨24,f.name⟩]:=by rw [hc'];rfl
    rw [e1] at hC;refine fR Z ?_;refine apM z4.enc C [(⟨24,f.name⟩:z4)] Z Z Z Z Z ?_ (h1:=by first |omega|(simp;omega)|(simp;done)) (h2:=by first |omega|(simp;omega)|(simp;done));refine fM rfl ?_;refine Mid.call (qO H q hq f hfk) rfl rfl rfl rfl ?_;refine fM rfl ?_;refine Run.cond rfl rfl (fun hlp=>?_) (fun hlp=>?_)
    ·have e2:ifL (qg q f) ⟨24,f.name⟩=[⟨24,f.name⟩]:=by rw [hlp];rfl
     rw [e2] at hC;refine fR Z ?_;refine apM z4.enc (C++[(⟨24,f.name⟩:z4)]) [(⟨24,f.name⟩:z4)] Z Z Z Z Z ?_ (h1:=by first |omega|(simp;omega)|(simp;done)) (h2:=by first |omega|(simp;omega)|(simp;done));refine fM rfl ?_;refine Mid.call (z0Y H q hq f.name) rfl rfl rfl rfl ?_;refine fM rfl ?_;refine Run.cond rfl rfl (fun hu=>?_) (fun hu=>?_)
     ·have e3:ifL (!wb q f.name) ⟨26,f.name⟩=[⟨26,f.name⟩]:=by rw [hu];rfl
      rw [e3] at hC;refine fR Z ?_;refine apM z4.enc (C++[(⟨24,f.name⟩:z4)]++[(⟨24,f.name⟩:z4)]) [(⟨26,f.name⟩:z4)] Z Z Z Z Z ?_ (h1:=by first |omega|(simp;omega)|(simp;done)) (h2:=by first |omega|(simp;omega)|(simp;done));refine fM rfl ?_;refine Mid.call (Zr H ds hD f.on) rfl rfl rfl rfl ?_;refine fM rfl ?_;refine Mid.call (hcall) rfl rfl rfl rfl ?_;skip;refine apM z4.enc (C++[(⟨24,f.name⟩:z4)]++[(⟨24,f.name⟩:z4)]++[(⟨26,f.name⟩:z4)]) N4 rfl rfl rfl rfl rfl ?_ (h1:=by first |omega|(simp;omega)|(simp;done)) (h2:=by first |omega|(simp;omega)|(simp;done));refine fM rfl ?_;refine aL rfl rfl rfl rfl rfl ?_;refine fM rfl ?_;exact zk 3 rfl (ih (C++[(⟨24,f.name⟩:z4)]++[(⟨24,f.name⟩:z4)]++[(⟨26,f.name⟩:z4)]++N4) ⟨by simp;omega,by rw [←hC];simp⟩) rfl rfl rfl
     ·have e3:ifL (!wb q f.name) ⟨26,f.name⟩=[]:=by rw [hu];rfl
      rw [e3] at hC;refine fR Z ?_;refine Mid.call (Zr H ds hD f.on) Z Z Z Z ?_;refine fM Z ?_;refine Mid.call (hcall) Z Z Z Z ?_;skip;refine apM z4.enc (C++[(⟨24,f.name⟩:z4)]++[(⟨24,f.name⟩:z4)]) N4 Z Z Z Z Z ?_ (h1:=by first |omega|(simp;omega)|(simp;done)) (h2:=by first |omega|(simp;omega)|(simp;done));refine fM rfl ?_;refine aL rfl rfl rfl rfl rfl ?_;refine fM rfl ?_;exact zk 3 rfl (ih (C++[(⟨24,f.name⟩:z4)]++[(⟨24,f.name⟩:z4)]++N4) ⟨by simp;omega,by rw [←hC];simp⟩) rfl rfl rfl
    ·have e2:ifL (qg q f) ⟨24,f.name⟩=[]:=by rw [hlp];rfl
     rw [e2] at hC;refine fR Z ?_;refine Mid.call (z0Y H q hq f.name) Z Z Z Z ?_;refine fM Z ?_;refine Run.cond Z Z (fun hu=>?_) (fun hu=>?_)
     ·have e3:ifL (!wb q f.name) ⟨26,f.name⟩=[⟨26,f.name⟩]:=by rw [hu];rfl
      rw [e3] at hC;refine fR Z ?_;refine apM z4.enc (C++[(⟨24,f.name⟩:z4)]) [(⟨26,f.name⟩:z4)] Z Z Z Z Z ?_ (h1:=by first |omega|(simp;omega)|(simp;done)) (h2:=by first |omega|(simp;omega)|(simp;done));refine fM rfl ?_;refine Mid.call (Zr H ds hD f.on) rfl rfl rfl rfl ?_;refine fM rfl ?_;refine Mid.call (hcall) rfl rfl rfl rfl ?_;skip;refine apM z4.enc (C++[(⟨24,f.name⟩:z4)]++[(⟨26,f.name⟩:z4)]) N4 rfl rfl rfl rfl rfl ?_ (h1:=by first |omega|(simp;omega)|(simp;done)) (h2:=by first |omega|(simp;omega)|(simp;done));refine fM rfl ?_;refine aL rfl rfl rfl rfl rfl ?_;refine fM rfl ?_;exact zk 3 rfl (ih (C++[(⟨24,f.name⟩:z4)]++[(⟨26,f.name⟩:z4)]++N4) ⟨by simp;omega,by rw [←hC];simp⟩) rfl rfl rfl
     ·have e3:ifL (!wb q f.name) ⟨26,f.name⟩=[]:=by rw [hu];rfl
      rw [e3] at hC;refine fR Z ?_;refine Mid.call (Zr H ds hD f.on) Z Z Z Z ?_;refine fM Z ?_;refine Mid.call (hcall) Z Z Z Z ?_;skip;refine apM z4.enc (C++[(⟨24,f.name⟩:z4)]) N4 Z Z Z Z Z ?_ (h1:=by first |omega|(simp;omega)|(simp;done)) (h2:=by first |omega|(simp;omega)|(simp;done));refine fM rfl ?_;refine aL rfl rfl rfl rfl rfl ?_;refine fM rfl ?_;exact zk 3 rfl (ih (C++[(⟨24,f.name⟩:z4)]++N4) ⟨by simp;omega,by rw [←hC];simp⟩) rfl rfl rfl
   ·have hc':Z6 ds f.on=true:=by
     cases hcc:Z6 ds f.on with
     |true=>rfl
     |false=>simp [knF,hcc] at hc
    have e1:ifL (!Z6 ds f.on) ⟨24,f.name⟩=[]:=by rw [hc'];rfl
    rw [e1] at hC;refine fR Z ?_;refine Mid.call (qO H q hq f hfk) Z Z Z Z ?_;refine fM Z ?_;refine Run.cond Z Z (fun hlp=>?_) (fun hlp=>?_)
    ·have e2:ifL (qg q f) ⟨24,f.name⟩=[⟨24,f.name⟩]:=by rw [hlp];rfl
     rw [e2] at hC;refine fR Z ?_;refine apM z4.enc (C) [(⟨24,f.name⟩:z4)] Z Z Z Z Z ?_ (h1:=by first |omega|(simp;omega)|(simp;done)) (h2:=by first |omega|(simp;omega)|(simp;done));refine fM rfl ?_;refine Mid.call (z0Y H q hq f.name) rfl rfl rfl rfl ?_;refine fM rfl ?_;refine Run.cond rfl rfl (fun hu=>?_) (fun hu=>?_)
     ·have e3:ifL (!wb q f.name) ⟨26,f.name⟩=[⟨26,f.name⟩]:=by rw [hu];rfl
      rw [e3] at hC;refine fR Z ?_;refine apM z4.enc (C++[(⟨24,f.name⟩:z4)]) [(⟨26,f.name⟩:z4)] Z Z Z Z Z ?_ (h1:=by first |omega|(simp;omega)|(simp;done)) (h2:=by first |omega|(simp;omega)|(simp;done));refine fM rfl ?_;refine Mid.call (Zr H ds hD f.on) rfl rfl rfl rfl ?_;refine fM rfl ?_;refine Mid.call (hcall) rfl rfl rfl rfl ?_;skip;refine apM z4.enc (C++[(⟨24,f.name⟩:z4)]++[(⟨26,f.name⟩:z4)]) N4 rfl rfl rfl rfl rfl ?_ (h1:=by first |omega|(simp;omega)|(simp;done)) (h2:=by first |omega|(simp;omega)|(simp;done));refine fM rfl ?_;refine aL rfl rfl rfl rfl rfl ?_;refine fM rfl ?_;exact zk 3 rfl (ih (C++[(⟨24,f.name⟩:z4)]++[(⟨26,f.name⟩:z4)]++N4) ⟨by simp;omega,by rw [←hC];simp⟩) rfl rfl rfl
     ·have e3:ifL (!wb q f.name) ⟨26,f.name⟩=[]:=by rw [hu];rfl
      rw [e3] at hC;refine fR Z ?_;refine Mid.call (Zr H ds hD f.on) Z Z Z Z ?_;refine fM Z ?_;refine Mid.call (hcall) Z Z Z Z ?_;skip;refine apM z4.enc (C++[(⟨24,f.name⟩:z4)]) N4 Z Z Z Z Z ?_ (h1:=by first |omega|(simp;omega)|(simp;done)) (h2:=by first |omega|(simp;omega)|(simp;done));refine fM rfl ?_;refine aL rfl rfl rfl rfl rfl ?_;refine fM rfl ?_;exact zk 3 rfl (ih (C++[(⟨24,f.name⟩:z4)]++N4) ⟨by simp;omega,by rw [←hC];simp⟩) rfl rfl rfl
    ·have e2:ifL (qg q f) ⟨24,f.name⟩=[]:=by rw [hlp];rfl
     rw [e2] at hC;refine fR Z ?_;refine Mid.call (z0Y H q hq f.name) Z Z Z Z ?_;refine fM Z ?_;refine Run.cond Z Z (fun hu=>?_) (fun hu=>?_)
     ·have e3:ifL (!wb q f.name) ⟨26,f.name⟩=[⟨26,f.name⟩]:=by rw [hu];rfl
      rw [e3] at hC;refine fR Z ?_;refine apM z4.enc (C) [(⟨26,f.name⟩:z4)] Z Z Z Z Z ?_ (h1:=by first |omega|(simp;omega)|(simp;done)) (h2:=by first |omega|(simp;omega)|(simp;done));refine fM rfl ?_;refine Mid.call (Zr H ds hD f.on) rfl rfl rfl rfl ?_;refine fM rfl ?_;refine Mid.call (hcall) rfl rfl rfl rfl ?_;skip;refine apM z4.enc (C++[(⟨26,f.name⟩:z4)]) N4 rfl rfl rfl rfl rfl ?_ (h1:=by first |omega|(simp;omega)|(simp;done)) (h2:=by first |omega|(simp;omega)|(simp;done));refine fM rfl ?_;refine aL rfl rfl rfl rfl rfl ?_;refine fM rfl ?_;exact zk 3 rfl (ih (C++[(⟨26,f.name⟩:z4)]++N4) ⟨by simp;omega,by rw [←hC];simp⟩) rfl rfl rfl
     ·have e3:ifL (!wb q f.name) ⟨26,f.name⟩=[]:=by rw [hu];rfl
      rw [e3] at hC;refine fR Z ?_;refine Mid.call (Zr H ds hD f.on) Z Z Z Z ?_;refine fM Z ?_;refine Mid.call (hcall) Z Z Z Z ?_;skip;refine apM z4.enc (C) N4 Z Z Z Z Z ?_ (h1:=by first |omega|(simp;omega)|(simp;done)) (h2:=by first |omega|(simp;omega)|(simp;done));refine fM rfl ?_;refine aL rfl rfl rfl rfl rfl ?_;refine fM rfl ?_;exact zk 3 rfl (ih (C++N4) ⟨by simp;omega,by rw [←hC];simp⟩) rfl rfl rfl
 ·rintro i o r B h1 hi hd ⟨hlB,hB⟩ ih;rw [W6] at hlB;simp only [opL] at hB;have hom:o∈q.ops:=zMG h1;have hok:=hq.o o hom;have how:=z1m hom;have hcall:=z1U H ds hD hE q hq o.z7 (wi o.kind) o.name hok.s (by omega) (by omega);unfold Qu at hcall;have a4:=yR ds q o.z7 (wi o.kind) o.name;generalize Yo ds q o.z7 (wi o.kind) o.name=N4 at hB a4 hcall;refine fR Z ?_;refine lM Z Z Z ?_;refine fM Z ?_;refine Run.zm Z Z (by simp;omega) ?_;refine fR Z ?_;refine Mid.ze Z Z Z h1 Z Z ?_;refine fM Z ?_;refine Mid.ze Z Z Z h1 Z Z ?_;refine fM Z ?_;refine Mid.call (z9z H o.kind) Z Z Z Z ?_;skip;refine Mid.call (Zr H ds hD (wi o.kind)) Z Z Z Z ?_;refine fM Z ?_;refine Mid.ze Z Z Z h1 Z Z ?_;refine fM Z ?_;refine Mid.call (hcall) Z Z Z Z ?_;skip;refine apM z4.enc B N4 Z Z Z Z Z ?_ (h1:=by first |omega|(simp;omega)|(simp;done)) (h2:=by first |omega|(simp;omega)|(simp;done));refine fM rfl ?_;refine aL rfl rfl rfl rfl rfl ?_;refine fM rfl ?_;exact zk 3 rfl (ih (B++N4) ⟨by simp;omega,by rw [←hB];simp⟩) rfl rfl rfl
end Go.GB.C11
namespace Go.GB.C11
open Go.GB
variable {P:Program}
end Go.GB.C11
namespace Go.GB.C11
open Go.GB
variable {P:Program}
def szV (v:Val):Int:=v.items.attach.foldl (fun n x=>IntKind.i64.wrap (n+szV x.1)) 1
termination_by SizeOf.sizeOf v
decreasing_by exact Val.ZQ v x.2
def dpV (v:Val):Int:=IntKind.i64.wrap (v.items.attach.foldl (fun n x=>if dpV x.1>n then dpV x.1 else n) 0+1)
termination_by SizeOf.sizeOf v
decreasing_by all_goals exact Val.ZQ v x.2
def twS:List Str->List Str->Bool
 |_,[]=>false
 |p,s::r=>decide (s∈p)||twS (p++[s]) r
def z2e (v:Val):Bool:=v.items.attach.all (fun x=>z2e x.1)&&v.kind !=7
termination_by SizeOf.sizeOf v
decreasing_by exact Val.ZQ v x.2
theorem z6x (v:Val):szV v=v.items.foldl (fun n x=>IntKind.i64.wrap (n+szV x)) 1:=by
 rw [szV];exact List.foldl_attach (l:=v.items) (f:=fun n x=>IntKind.i64.wrap (n+szV x)) (b:=1)
theorem zda (v:Val):dpV v=IntKind.i64.wrap (v.items.foldl (fun n x=>if dpV x>n then dpV x else n) 0+1):=by
 rw [dpV];rw [List.foldl_attach (l:=v.items) (f:=fun n x=>if dpV x>n then dpV x else n) (b:=0)]
theorem zbp (v:Val):z2e v=(v.items.all z2e&&v.kind !=7):=by
 rw [z2e];congr 1;rw [Bool.eq_iff_iff];simp [List.all_eq_true]
def SzC (P:Program) (v:Val):Prop:=z9 P 78 [v.v] ⟨[],0⟩ {v:= .t (.int .i64 (szV v))}
theorem z4i (H:ZU P) (v:Val) (hv:v.Ok) (ih:∀x,x∈v.items->SzC P x):SzC P v:=by
 have hil:=hv.il;unfold SzC;rw [z6x];refine z9.run H.i78 H.mixed Z Z ?_;refine fR Z ?_;refine zx v.items (fun i (n:Int)=>{env:=[(1,.ptr 0 0),(3,.t (.int .i64 n)),(4,.t (.int .i64 i))],s:=⟨[(0,(VCo v))],1⟩}) (fun r i n=>v.items.foldl (fun n x=>IntKind.i64.wrap (n+szV x)) 1=r.foldl (fun n x=>IntKind.i64.wrap (n+szV x)) n) 1 1 Z Z Z Z Z ?_ ?_
 ·intro n hinv;refine fR Z ?_;refine lM Z Z Z ?_;refine fM Z ?_;refine Run.zj Z Z (by simp) ?_;refine fR Z ?_;refine Run.fin Z (z5.go ?_);exact .t (by rw [hinv];rfl)
 ·intro i x r n h1 hi hd hinv ihl;have hcall:=ih x (zMG h1);unfold SzC at hcall;refine fR Z ?_;refine lM Z Z Z ?_;refine fM Z ?_;refine Run.zm Z Z (by simp;omega) ?_;refine fR Z ?_;refine Mid.Ze (Val.Zf x) Z Z Z h1 Z Z ?_;refine fM Z ?_;refine Mid.call (hcall) Z Z Z Z ?_;refine p0 Z ?_;refine fM Z ?_;refine aL Z Z Z Z Z ?_;refine fM Z ?_;exact zk 1 Z (ihl (IntKind.i64.wrap (n+szV x)) hinv) Z Z Z
theorem z35 (H:ZU P):∀(v:Val),v.Ok->SzC P v
 |v,hv=>z4i H v hv fun x hx=>z35 H x (hv.it x hx)
termination_by v=>SizeOf.sizeOf v
decreasing_by exact Val.ZQ v hx
def DpC (P:Program) (v:Val):Prop:=z9 P 113 [v.v] ⟨[],0⟩ {v:= .t (.int .i64 (dpV v))}
theorem z3V (H:ZU P) (v:Val) (hv:v.Ok) (ih:∀x,x∈v.items->DpC P x):DpC P v:=by
 have hil:=hv.il;unfold DpC;rw [zda];refine z9.run H.i113 H.mixed Z Z ?_;refine fR Z ?_;refine zx v.items (fun i (n:Int)=>{env:=[(1,.ptr 0 0),(3,.t (.int .i64 n)),(4,.t (.int .i64 i))],s:=⟨[(0,(VCo v))],1⟩}) (fun r i n=>v.items.foldl (fun n x=>if dpV x>n then dpV x else n) 0=r.foldl (fun n x=>if dpV x>n then dpV x else n) n) 1 0 Z Z Z Z Z ?_ ?_
 ·intro n hinv;refine fR Z ?_;refine lM Z Z Z ?_;refine fM Z ?_;refine Run.zj Z Z (by simp) ?_;refine fR Z ?_;refine p0 Z ?_;refine fM Z ?_;refine Run.fin Z (z5.go ?_);exact .t (by rw [hinv];rfl)
 ·intro i x r n h1 hi hd hinv ihl;have hcall:=ih x (zMG h1);unfold DpC at hcall;refine fR Z ?_;refine lM Z Z Z ?_;refine fM Z ?_;refine Run.zm Z Z (by simp;omega) ?_;refine fR Z ?_;refine Mid.Ze (Val.Zf x) Z Z Z h1 Z Z ?_;refine fM Z ?_;refine Mid.call (hcall) Z Z Z Z ?_;refine fM Z ?_;refine aL Z Z Z Z Z ?_;refine fM Z ?_;exact zk 1 Z (ihl (if dpV x>n then dpV x else n) hinv) Z Z Z
theorem z1V (H:ZU P):∀(v:Val),v.Ok->DpC P v
 |v,hv=>z3V H v hv fun x hx=>z1V H x (hv.it x hx)
termination_by v=>SizeOf.sizeOf v
decreasing_by exact Val.ZQ v hx
def z7N (P:Program) (v:Val):Prop:=z9 P 83 [v.v] ⟨[],0⟩ {v:= .t (.bool (z2e v))}
theorem z2a (H:ZU P) (v:Val) (hv:v.Ok) (ih:∀x,x∈v.items->z7N P x):z7N P v:=by
 have hil:=hv.il;unfold z7N;rw [zbp];refine z9.run H.i83 H.mixed Z Z ?_;refine fR Z ?_;refine zx v.items (fun i (_:Unit)=>{env:=[(1,.ptr 0 0),(3,.t (.int .i64 i))],s:=⟨[(0,(VCo v))],1⟩}) (fun r i _=>v.items.all z2e=r.all z2e) 1 () Z Z Z Z Z ?_ ?_
 ·intro _ hinv;refine fR Z ?_;refine lM Z Z Z ?_;refine fM Z ?_;refine Run.zj Z Z (by simp) ?_;refine fR Z ?_;refine Run.fin Z (z5.go ?_);exact .t (by rw [hinv];rfl)
 ·intro i x r _ h1 hi hd hinv ihl;have hcall:=ih x (zMG h1);unfold z7N at hcall;refine fR Z ?_;refine lM Z Z Z ?_;refine fM Z ?_;refine Run.zm Z Z (by simp;omega) ?_;refine fR Z ?_;refine Mid.Ze (Val.Zf x) Z Z Z h1 Z Z ?_;refine fM Z ?_;refine Mid.call (hcall) Z Z Z Z ?_;refine fM Z ?_;refine Run.cond Z Z (fun hc=>?_) (fun hc=>?_)
  ·have hc':z2e x=false:=by simpa using hc
   refine fR Z ?_;refine Run.fin Z (z5.go ?_);exact .t (by rw [hinv,List.all_cons,hc'];rfl)
  ·have hc':z2e x=true:=by simpa using hc
   refine fR Z ?_;refine aL Z Z Z Z Z ?_;refine fM Z ?_;exact zk 1 Z (ihl () (by rw [hinv,List.all_cons,hc'];rfl)) Z Z Z
theorem z0h (H:ZU P):∀(v:Val),v.Ok->z7N P v
 |v,hv=>z2a H v hv fun x hx=>z0h H x (hv.it x hx)
termination_by v=>SizeOf.sizeOf v
decreasing_by exact Val.ZQ v hx
theorem zbj (p:List Str) (l:List Str):∀{i:Nat} {x:Str} {r:List Str},l[i]?=some x->l.drop i=x::r->twS (l.take i) (x::r)=(decide (x∈l.take i)||twS (l.take (i+1)) r):=by
 intro i x r h1 h2
 have htk:l.take i++[x]=l.take (i+1):=by rw [List.take_add_one,h1];rfl
 rw [←htk];rfl
theorem z6I (H:ZU P) (l:List Str) (hl:l.length<=140737488355328):z9 P 151 [.t (.lst (l.map sE))] ⟨[],0⟩ {v:= .t (.bool (twS [] l))}:=by
 generalize hT:twS [] l=tot;refine z9.run H.i151 H.mixed Z Z ?_;refine fR Z ?_;refine zx l (fun i (_:Unit)=>{env:=[(0,.t (.lst (l.map sE))),(3,.t (.int .i64 i))],s:=⟨[],0⟩}) (fun r i _=>l.drop i=r/\twS (l.take i) r=tot) 0 () Z ⟨rfl,hT⟩ Z Z Z ?_ ?_
 ·rintro _ ⟨_,hinv⟩;refine fR Z ?_;refine lM Z Z Z ?_;refine fM Z ?_;refine Run.zj Z Z (by simp) ?_;refine fR Z ?_;refine Run.fin Z (z5.go ?_);exact .t (by rw [←hinv];rfl)
 ·rintro i x r _ h1 hi hd ⟨hdr,hinv⟩ ih;rw [zbj [] l h1 hdr] at hinv
  have hdr':l.drop (i+1)=r:=by rw [←List.drop_drop,hdr];rfl
  refine fR Z ?_;refine lM Z Z Z ?_;refine fM Z ?_;refine Run.zm Z Z (by simp;omega) ?_;refine fR Z ?_;refine zx (l.take i) (fun k (_:Unit)=>{env:=[(0,.t (.lst (l.map sE))),(3,.t (.int .i64 i)),(4,.t (.int .i64 k))],s:=⟨[],0⟩}) (fun r k _=>decide (x∈l.take i)=decide (x∈r)) 0 () Z Z Z Z Z ?_ ?_
  ·intro _ hinv2
   have hnot:decide (x∈l.take i)=false:=by rw [hinv2];simp
   rw [hnot] at hinv
   have htl:(l.take i).length=i:=by rw [List.length_take];omega
   refine fR Z ?_;refine Run.zj Z Z (by simp [htl]) ?_;refine fR Z ?_;refine aL Z Z Z Z Z ?_;refine fM Z ?_;exact zk 0 Z (ih () ⟨hdr',by simpa using hinv⟩) rfl rfl rfl
  ·intro k y r2 _ g1 gi gd hinv2 ih2
   have htl:(l.take i).length=i:=by rw [List.length_take];omega
   have g1':l[k]?=some y:=by
    rw [List.getElem?_take] at g1;split at g1
    ·exact g1
    ·cases g1
   refine fR Z ?_;refine Run.zm Z Z (by simp;omega) ?_;refine fR Z ?_;refine Mid.ze Z Z Z h1 Z Z ?_;refine fM Z ?_;refine Mid.ze Z Z Z g1' Z Z ?_;refine fM Z ?_;refine Run.cond Z Z (fun hc=>?_) (fun hc=>?_)
   ·have hc':x=y:=by simpa using hc
    have hm:decide (x∈l.take i)=true:=by rw [hinv2];simp [hc']
    rw [hm] at hinv;refine fR Z ?_;refine Run.fin Z (z5.go ?_);exact .t (by rw [←hinv];rfl)
   ·have hc':¬ x=y:=by simpa using hc
    refine fR Z ?_;refine aL Z Z Z Z Z ?_;refine fM Z ?_;exact zk 0 Z (ih2 () (by rw [hinv2];simp [hc'])) Z Z Z
end Go.GB.C11
namespace Go.GB.C11
open Go.GB
variable {P:Program}
def z1C (v:Val) (lit:Bool):Bool:=
 if (v.kind==0)=true then (((v.int==0&&v.text==[])&&(v.items.length:Int)==0)&&(v.keys.length:Int)==0)
 else if (v.kind==1)=true then ((((v.int==0||v.int==1)&&v.text==[])&&(v.items.length:Int)==0)&&(v.keys.length:Int)==0)
 else if (v.kind==2)=true then ((v.text==[]&&(v.items.length:Int)==0)&&(v.keys.length:Int)==0)
 else if (v.kind==3)=true then ((v.int==0&&(v.items.length:Int)==0)&&(v.keys.length:Int)==0)
 else if (v.kind==4)=true then ((((((v.int==0&&(v.items.length:Int)==0)&&(v.keys.length:Int)==0)&&zl v.text)&&v.text !=[116,114,117,101])&&v.text !=[102,97,108,115,101])&&v.text !=[110,117,108,108])
 else if (v.kind==5)=true then ((v.int==0&&v.text==[])&&(v.keys.length:Int)==0)
 else if (v.kind==6)=true then (((v.int==0&&v.text==[])&&(v.keys.length:Int)==(v.items.length:Int))&&!twS [] v.keys)
 else if (v.kind==7)=true then ((((lit&&v.int==0)&&(v.items.length:Int)==0)&&(v.keys.length:Int)==0)&&zl v.text)
 else false
theorem z7Z (H:ZU P) (v:Val) (hv:v.Ok) (lit:Bool):z9 P 136 [v.v,.t (.bool lit)] ⟨[],0⟩ {v:= .t (.bool (z1C v lit))}:=by
 have hkl:=hv.kl;have htl:=hv.tl;generalize hT:z1C v lit=tot;unfold z1C at hT;refine z9.run H.i136 H.mixed Z Z ?_;refine fR Z ?_;refine Run.cond Z Z (fun h0=>?_) (fun h0=>?_)
 ·rw [if_pos h0] at hT;refine fR Z ?_;refine lMG Z Z Z Z ?_;refine fM Z ?_;refine lMG Z Z Z Z ?_;refine fM Z ?_;refine Run.fin Z (z5.go ?_);exact .t (by rw [←hT])
 ·rw [if_neg (by rw [h0];simp)] at hT;refine fR Z ?_;refine Run.cond Z Z (fun h1=>?_) (fun h1=>?_)
  ·rw [if_pos h1] at hT;refine fR Z ?_;refine lMG Z Z Z Z ?_;refine fM Z ?_;refine lMG Z Z Z Z ?_;refine fM Z ?_;refine Run.fin Z (z5.go ?_);exact .t (by rw [←hT])
  ·rw [if_neg (by rw [h1];simp)] at hT;refine fR Z ?_;refine Run.cond Z Z (fun h2=>?_) (fun h2=>?_)
   ·rw [if_pos h2] at hT;refine fR Z ?_;refine lMG Z Z Z Z ?_;refine fM Z ?_;refine lMG Z Z Z Z ?_;refine fM Z ?_;refine Run.fin Z (z5.go ?_);exact .t (by rw [←hT])
   ·rw [if_neg (by rw [h2];simp)] at hT;refine fR Z ?_;refine Run.cond Z Z (fun h3=>?_) (fun h3=>?_)
    ·rw [if_pos h3] at hT;refine fR Z ?_;refine lMG Z Z Z Z ?_;refine fM Z ?_;refine lMG Z Z Z Z ?_;refine fM Z ?_;refine Run.fin Z (z5.go ?_);exact .t (by rw [←hT])
    ·rw [if_neg (by rw [h3];simp)] at hT;refine fR Z ?_;refine Run.cond Z Z (fun h4=>?_) (fun h4=>?_)
     ·rw [if_pos h4] at hT;refine fR Z ?_;refine lMG Z Z Z Z ?_;refine fM Z ?_;refine lMG Z Z Z Z ?_;refine fM Z ?_;refine caG Z Z (fun hg=>⟨_,rfl,yt H.toPr v.text htl,rfl⟩) Z Z ?_;refine fM Z ?_;refine Run.fin Z (z5.go ?_);exact .t (by rw [←hT];rfl)
     ·rw [if_neg (by rw [h4];simp)] at hT;refine fR Z ?_;refine Run.cond Z Z (fun h5=>?_) (fun h5=>?_)
      ·rw [if_pos h5] at hT;refine fR Z ?_;refine lMG Z Z Z Z ?_;refine fM Z ?_;refine Run.fin Z (z5.go ?_);exact .t (by rw [←hT])
      ·rw [if_neg (by rw [h5];simp)] at hT;refine fR Z ?_;refine Run.cond Z Z (fun h6=>?_) (fun h6=>?_)
       ·rw [if_pos h6] at hT;refine fR Z ?_;refine lMG Z Z Z Z ?_;refine fM Z ?_;refine lMG Z Z Z Z ?_;refine fM Z ?_;refine caG Z Z (fun hg=>⟨_,rfl,z6I H v.keys (by omega),rfl⟩) Z Z ?_;refine fM Z ?_;refine Run.fin Z (z5.go ?_);exact .t (by rw [←hT])
       ·rw [if_neg (by rw [h6];simp)] at hT;refine fR Z ?_;refine Run.cond Z Z (fun h7=>?_) (fun h7=>?_)
        ·rw [if_pos h7] at hT;refine fR Z ?_;refine lMG Z Z Z Z ?_;refine fM Z ?_;refine lMG Z Z Z Z ?_;refine fM Z ?_;refine caG Z Z (fun hg=>⟨_,rfl,yt H.toPr v.text htl,rfl⟩) Z Z ?_;refine fM Z ?_;refine Run.fin Z (z5.go ?_);exact .t (by rw [←hT])
        ·rw [if_neg (by rw [h7];simp)] at hT;refine fR Z ?_;refine Run.fin Z (z5.go ?_);exact .t (by rw [←hT])
def z25 (lit:Bool) (v:Val):Bool:=z1C v lit&&(v.keys.all (fun k=>!(lit&&!zl k))&&v.items.attach.all (fun x=>z25 lit x.1))
termination_by SizeOf.sizeOf v
decreasing_by exact Val.ZQ v x.2
theorem zca (lit:Bool) (v:Val):z25 lit v=(z1C v lit&&(v.keys.all (fun k=>!(lit&&!zl k))&&v.items.all (z25 lit))):=by
 rw [z25];congr 2;rw [Bool.eq_iff_iff];simp [List.all_eq_true]
def WhC (P:Program) (lit:Bool) (v:Val):Prop:=z9 P 114 [v.v,.t (.bool lit)] ⟨[],0⟩ {v:= .t (.bool (z25 lit v))}
theorem z3h (H:ZU P) (lit:Bool) (v:Val) (hv:v.Ok) (ih:∀x,x∈v.items->WhC P lit x):WhC P lit v:=by
 have hil:=hv.il;have hkl:=hv.kl;unfold WhC;rw [zca];refine z9.run H.i114 H.mixed Z Z ?_;refine fR Z ?_;refine Mid.call (z7Z H v hv lit) Z Z Z Z ?_;refine fM Z ?_;refine Run.cond Z Z (fun h0=>?_) (fun h0=>?_)
 ·have h0':z1C v lit=false:=by simpa using h0
  refine fR Z ?_;refine Run.fin Z (z5.go ?_);exact .t (by rw [h0'];rfl)
 ·have h0':z1C v lit=true:=by simpa using h0
  rw [h0',Bool.true_and];refine fR Z ?_;refine zx v.keys (fun i (_:Unit)=>{env:=[(1,.t (.bool lit)),(2,.ptr 0 0),(5,.t (.int .i64 i))],s:=⟨[(0,(VCo v))],1⟩}) (fun r i _=>v.keys.all (fun k=>!(lit&&!zl k))=r.all (fun k=>!(lit&&!zl k))) 1 () Z Z Z Z Z ?_ ?_
  ·intro _ hk
   have hk':v.keys.all (fun k=>!(lit&&!zl k))=true:=by rw [hk];rfl
   rw [hk',Bool.true_and];refine fR Z ?_;refine lM Z Z Z ?_;refine fM Z ?_;refine Run.zj Z Z (by simp) ?_;refine fR Z ?_;refine zx v.items (fun i (_:Unit)=>{env:=[(1,.t (.bool lit)),(2,.ptr 0 0),(6,.t (.int .i64 i))],s:=⟨[(0,(VCo v))],1⟩}) (fun r i _=>v.items.all (z25 lit)=r.all (z25 lit)) 1 () Z Z Z Z Z ?_ ?_
   ·intro _ hinv;refine fR Z ?_;refine lM Z Z Z ?_;refine fM Z ?_;refine Run.zj Z Z (by simp) ?_;refine fR Z ?_;refine Run.fin Z (z5.go ?_);exact .t (by rw [hinv];rfl)
   ·intro i x r _ h1 hi hd hinv ihl;have hcall:=ih x (zMG h1);unfold WhC at hcall;refine fR Z ?_;refine lM Z Z Z ?_;refine fM Z ?_;refine Run.zm Z Z (by simp;omega) ?_;refine fR Z ?_;refine Mid.Ze (Val.Zf x) Z Z Z h1 Z Z ?_;refine fM Z ?_;refine Mid.call (hcall) Z Z Z Z ?_;refine fM Z ?_;refine Run.cond Z Z (fun hc=>?_) (fun hc=>?_)
    ·have hc':z25 lit x=false:=by simpa using hc
     refine fR Z ?_;refine Run.fin Z (z5.go ?_);exact .t (by rw [hinv,List.all_cons,hc'];rfl)
    ·have hc':z25 lit x=true:=by simpa using hc
     refine fR Z ?_;refine aL Z Z Z Z Z ?_;refine fM Z ?_;exact zk 1 Z (ihl () (by rw [hinv,List.all_cons,hc'];rfl)) Z Z Z
  ·intro i x r _ h1 hi hd hinv ihl;have hxl:=hv.kt x (zMG h1);refine fR Z ?_;refine lM Z Z Z ?_;refine fM Z ?_;refine Run.zm Z Z (by simp;omega) ?_;refine fR Z ?_;refine elG Z Z Z Z h1 Z Z ?_;refine fM Z ?_;refine caG Z Z (fun hg=>⟨_,rfl,yt H.toPr x hxl,rfl⟩) Z Z ?_;refine fM Z ?_;refine Run.cond Z Z (fun hc=>?_) (fun hc=>?_)
   ·refine fR Z ?_;refine Run.fin Z (z5.go ?_);exact .t (by rw [hinv,List.all_cons,hc];rfl)
   ·refine fR Z ?_;refine aL Z Z Z Z Z ?_;refine fM Z ?_;exact zk 1 Z (ihl () (by rw [hinv,List.all_cons,hc];rfl)) Z Z Z
theorem z1o (H:ZU P) (lit:Bool):∀(v:Val),v.Ok->WhC P lit v
 |v,hv=>z3h H lit v hv fun x hx=>z1o H lit x (hv.it x hx)
termination_by v=>SizeOf.sizeOf v
decreasing_by exact Val.ZQ v hx
def Q1 (v:Val):Bool:=(decide (szV v<=4096)&&decide (dpV v<=24))&&z25 true v
theorem qY (H:ZU P) (v:Val) (hv:v.Ok):z9 P 82 [v.v] ⟨[],0⟩ {v:= .t (.bool (Q1 v))}:=by
 have h1:=z35 H v hv;have h2:=z1V H v hv;have h3:=z1o H true v hv;unfold SzC at h1;unfold DpC at h2;unfold WhC at h3;refine z9.run H.i82 H.mixed Z Z ?_;refine fR Z ?_;refine Mid.call (h1) Z Z Z Z ?_;refine fM Z ?_;refine caG Z Z (fun hg=>⟨_,rfl,h2,rfl⟩) Z Z ?_;refine fM Z ?_;refine caG Z Z (fun hg=>⟨_,rfl,h3,rfl⟩) Z Z ?_;refine fM Z ?_;refine Run.fin Z (z5.go ?_);exact .t Z
def z3D (a:Arg):Bool:=!zl a.name||!Q1 a.val
def z4J (l:List Arg):Bool:=!l.any z3D&&decide ((l.length:Int)<=16)
theorem z4c (H:ZU P) (l:List Arg) (hl:l.length<=140737488355328) (ha:∀x,x∈l->x.Ok) (hn:∀x,x∈l->x.name.length<=140737488355328):z9 P 116 [.t (.lst (l.map Arg.enc))] ⟨[],0⟩ {v:= .t (.bool (z4J l))}:=by
 generalize hT:z4J l=tot;unfold z4J at hT;refine z9.run H.i116 H.mixed Z Z ?_;refine fR Z ?_;refine zx l (fun i (_:Unit)=>{env:=[(0,.t (.lst (l.map Arg.enc))),(3,.t (.int .i64 i))],s:=⟨[],0⟩}) (fun r i _=>(!r.any z3D&&decide ((l.length:Int)<=16))=tot) 0 () Z hT Z Z Z ?_ ?_
 ·intro _ hinv;refine fR Z ?_;refine lM Z Z Z ?_;refine fM Z ?_;refine Run.zj Z Z (by simp) ?_;refine fR Z ?_;refine lM Z Z Z ?_;refine fM Z ?_;refine Run.fin Z (z5.go ?_);exact .t (by rw [←hinv];simp)
 ·intro i x r _ h1 hi hd hinv ih;have hxm:=zMG h1;have hxn:=hn x hxm;refine fR Z ?_;refine lM Z Z Z ?_;refine fM Z ?_;refine Run.zm Z Z (by simp;omega) ?_;refine fR Z ?_;refine Mid.ze Z Z Z h1 Z Z ?_;refine fM Z ?_;refine Mid.call (yt H.toPr x.name hxn) Z Z Z Z ?_;refine fM Z ?_;refine elG Z Z Z Z h1 Z Z ?_;refine fM Z ?_;refine caG Z Z (fun hg=>⟨_,rfl,qY H x.val (ha x hxm),rfl⟩) Z Z ?_;refine fM Z ?_;refine Run.cond Z Z (fun hc=>?_) (fun hc=>?_)
  ·have hc':z3D x=true:=hc;refine fR Z ?_;refine Run.fin Z (z5.go ?_);exact .t (by rw [←hinv,List.any_cons,hc'];rfl)
  ·have hc':z3D x=false:=hc;refine fR Z ?_;refine aL Z Z Z Z Z ?_;refine fM Z ?_;exact zk 0 Z (ih () (by rw [←hinv,List.any_cons,hc'];rfl)) Z Z Z
def z43 (d:Dir):Bool:=!zl d.name||!z4J d.args
def yS (l:List Dir):Bool:=!l.any z43&&decide ((l.length:Int)<=16)
theorem z99 (H:ZU P) (l:List Dir) (hl:l.length<=140737488355328) (ha:∀x,x∈l->x.Ok/\∀y,y∈x.args->y.name.length<=140737488355328):z9 P 115 [.t (.lst (l.map Dir.enc))] ⟨[],0⟩ {v:= .t (.bool (yS l))}:=by
 generalize hT:yS l=tot;unfold yS at hT;refine z9.run H.i115 H.mixed Z Z ?_;refine fR Z ?_;refine zx l (fun i (_:Unit)=>{env:=[(0,.t (.lst (l.map Dir.enc))),(3,.t (.int .i64 i))],s:=⟨[],0⟩}) (fun r i _=>(!r.any z43&&decide ((l.length:Int)<=16))=tot) 0 () Z hT Z Z Z ?_ ?_
 ·intro _ hinv;refine fR Z ?_;refine lM Z Z Z ?_;refine fM Z ?_;refine Run.zj Z Z (by simp) ?_;refine fR Z ?_;refine lM Z Z Z ?_;refine fM Z ?_;refine Run.fin Z (z5.go ?_);exact .t (by rw [←hinv];simp)
 ·intro i x r _ h1 hi hd hinv ih;have hxm:=zMG h1;have hx:=ha x hxm;have hxn:=hx.1.nm;refine fR Z ?_;refine lM Z Z Z ?_;refine fM Z ?_;refine Run.zm Z Z (by simp;omega) ?_;refine fR Z ?_;refine Mid.ze Z Z Z h1 Z Z ?_;refine fM Z ?_;refine Mid.call (yt H.toPr x.name hxn) Z Z Z Z ?_;refine fM Z ?_;refine elG Z Z Z Z h1 Z Z ?_;refine fM Z ?_;refine caG Z Z (fun hg=>⟨_,rfl,z4c H x.args hx.1.l hx.1.a hx.2,rfl⟩) Z Z ?_;refine fM Z ?_;refine Run.cond Z Z (fun hc=>?_) (fun hc=>?_)
  ·have hc':z43 x=true:=hc;refine fR Z ?_;refine Run.fin Z (z5.go ?_);exact .t (by rw [←hinv,List.any_cons,hc'];rfl)
  ·have hc':z43 x=false:=hc;refine fR Z ?_;refine aL Z Z Z Z Z ?_;refine fM Z ?_;exact zk 0 Z (ih () (by rw [←hinv,List.any_cons,hc'];rfl)) Z Z Z
def zcs (s:Str):Bool:=zl s&&s !=[111,110]
theorem z4b (H:ZU P) (s:Str) (hs:s.length<=140737488355328):z9 P 48 [.t (.str s)] ⟨[],0⟩ {v:= .t (.bool (zcs s))}:=by
 refine z9.run H.i48 H.mixed Z Z ?_;refine fR Z ?_;refine Mid.call (yt H.toPr s hs) Z Z Z Z ?_;refine fM Z ?_;refine Run.fin Z (z5.go ?_);exact .t Z
def z3P (x:Var):Bool:=((!zl x.name||!wo x.ty)||!Q1 x.yI)||!z2e x.yI
def z0N (x:Var):Bool:=!x.has&&x.yI.kind !=0
def z6M (l:List Var):Bool:=!l.any (fun x=>z3P x||z0N x)&&decide ((l.length:Int)<=16)
theorem z9G (H:ZU P) (l:List Var) (hl:l.length<=140737488355328) (ha:∀x,x∈l->x.Ok):z9 P 46 [.t (.lst (l.map Var.enc))] ⟨[],0⟩ {v:= .t (.bool (z6M l))}:=by
 generalize hT:z6M l=tot;unfold z6M at hT;refine z9.run H.i46 H.mixed Z Z ?_;refine fR Z ?_;refine zx l (fun i (_:Unit)=>{env:=[(0,.t (.lst (l.map Var.enc))),(3,.t (.int .i64 i))],s:=⟨[],0⟩}) (fun r i _=>(!r.any (fun x=>z3P x||z0N x)&&decide ((l.length:Int)<=16))=tot) 0 () Z hT Z Z Z ?_ ?_
 ·intro _ hinv;refine fR Z ?_;refine lM Z Z Z ?_;refine fM Z ?_;refine Run.zj Z Z (by simp) ?_;refine fR Z ?_;refine lM Z Z Z ?_;refine fM Z ?_;refine Run.fin Z (z5.go ?_);exact .t (by rw [←hinv];simp)
 ·intro i x r _ h1 hi hd hinv ih;have hxm:=zMG h1;have hx:=ha x hxm;have hxn:=hx.nm;have hcon:=z0h H x.yI hx.v;unfold z7N at hcon;refine fR Z ?_;refine lM Z Z Z ?_;refine fM Z ?_;refine Run.zm Z Z (by simp;omega) ?_;refine fR Z ?_;refine Mid.ze Z Z Z h1 Z Z ?_;refine fM Z ?_;refine Mid.call (yt H.toPr x.name hxn) Z Z Z Z ?_;refine fM Z ?_;refine caG Z Z (fun hg=>⟨_,rfl,Qf H.toPr x.ty hx.t,rfl⟩) Z Z ?_;refine fM Z ?_;refine caG Z Z (fun hg=>⟨_,rfl,qY H x.yI hx.v,rfl⟩) Z Z ?_;refine fM Z ?_;refine caG Z Z (fun hg=>⟨_,rfl,hcon,rfl⟩) Z Z ?_;refine fM Z ?_;refine Run.cond Z Z (fun hc=>?_) (fun hc=>?_)
  ·have hc':z3P x=true:=hc;refine fR Z ?_;refine Run.fin Z (z5.go ?_);exact .t (by rw [←hinv,List.any_cons,hc'];rfl)
  ·have hc':z3P x=false:=hc;refine fR Z ?_;refine Run.cond Z Z (fun hc2=>?_) (fun hc2=>?_)
   ·have hc2':z0N x=true:=hc2;refine fR Z ?_;refine Run.fin Z (z5.go ?_);exact .t (by rw [←hinv,List.any_cons,hc',hc2'];rfl)
   ·have hc2':z0N x=false:=hc2;refine fR Z ?_;refine aL Z Z Z Z Z ?_;refine fM Z ?_;exact zk 0 Z (ih () (by rw [←hinv,List.any_cons,hc',hc2'];rfl)) Z Z Z
end Go.GB.C11
namespace Go.GB.C11
open Go.GB
variable {P:Program}
def z0z (s:Sel) (b:Bool):Bool:=
 if (!yS s.zS||!z4J s.args)=true then false
 else if (s.kind==1)=true then ((((zl s.name&&(s.ali==[]||zl s.ali))&&s.on==[]))&&((s.z7.length:Int)==0||b))
 else if (s.kind==2)=true then ((((zcs s.name&&s.ali==[])&&s.on==[])&&(s.args.length:Int)==0)&&(s.z7.length:Int)==0)
 else if (s.kind==3)=true then ((((s.name==[]&&s.ali==[])&&(s.on==[]||zl s.on))&&(s.args.length:Int)==0)&&b)
 else false
def z75 (n:Int) (l:List Sel):Bool:=((l.length:Int)==0||decide ((l.length:Int)>64))||decide (n>24)
def ssR (n:Int) (l:List Sel):Bool:=if z75 n l=true then false else l.attach.all (fun s=>z0z s.1 (ssR (IntKind.i64.wrap (n+1)) s.1.z7))
termination_by SizeOf.sizeOf l
decreasing_by exact Nat.lt_trans (Sel.zB s.1) (List.sizeOf_lt_of_mem s.2)
theorem zaG (n:Int) (l:List Sel):ssR n l=if z75 n l=true then false else l.all (fun s=>z0z s (ssR (IntKind.i64.wrap (n+1)) s.z7)):=by
 rw [ssR];congr 1;rw [Bool.eq_iff_iff];simp [List.all_eq_true]
def SsC (P:Program) (n:Int) (l:List Sel):Prop:=z9 P 47 [.t (.lst (l.map Sel.enc)),.t (.int .i64 n)] ⟨[],0⟩ {v:= .t (.bool (ssR n l))}
theorem zb8 (H:ZU P) (n:Int) (s:Sel) (hs:s.Ok) (hc:SsC P (IntKind.i64.wrap (n+1)) s.z7):z9 P 84 [s.v,.t (.int .i64 n)] ⟨[],0⟩ {v:= .t (.bool (z0z s (ssR (IntKind.i64.wrap (n+1)) s.z7)))}:=by
 have hnl:=hs.nm;have hal:=hs.al;have hol:=hs.on;have hrl:=hs.arl;unfold SsC at hc;generalize ssR (IntKind.i64.wrap (n+1)) s.z7=b at hc;generalize hT:z0z s b=tot;unfold z0z at hT;refine z9.run H.i84 H.mixed Z Z ?_;refine fR Z ?_;refine Mid.call (z99 H s.zS hs.dl hs.d) Z Z Z Z ?_;refine fM Z ?_;refine caG Z Z (fun hg=>⟨_,rfl,z4c H s.args (by omega) (fun x hx=>(hs.ar x hx).1) (fun x hx=>(hs.ar x hx).2),rfl⟩) Z Z ?_;refine fM Z ?_;refine Run.cond Z Z (fun h0=>?_) (fun h0=>?_)
 ·rw [if_pos h0] at hT;refine fR Z ?_;refine Run.fin Z (z5.go ?_);exact .t (by rw [←hT])
 ·rw [if_neg (by rw [h0];simp)] at hT;refine fR Z ?_;refine Run.cond Z Z (fun h1=>?_) (fun h1=>?_)
  ·rw [if_pos h1] at hT;refine fR Z ?_;refine Mid.call (yt H.toPr s.name hnl) Z Z Z Z ?_;refine fM Z ?_;refine caG Z Z (fun hg=>⟨_,rfl,yt H.toPr s.ali hal,rfl⟩) Z Z ?_;refine fM Z ?_;refine lMG Z Z Z Z ?_;refine fM Z ?_;refine gr Z ?_;refine caG Z Z (fun hg=>⟨_,rfl,hc,rfl⟩) Z Z ?_;refine fM Z ?_;refine Run.fin Z (z5.go ?_);exact .t (by rw [←hT])
  ·rw [if_neg (by rw [h1];simp)] at hT;refine fR Z ?_;refine Run.cond Z Z (fun h2=>?_) (fun h2=>?_)
   ·rw [if_pos h2] at hT;refine fR Z ?_;refine Mid.call (z4b H s.name hnl) Z Z Z Z ?_;refine fM Z ?_;refine lMG Z Z Z Z ?_;refine fM Z ?_;refine lMG Z Z Z Z ?_;refine fM Z ?_;refine Run.fin Z (z5.go ?_);exact .t (by rw [←hT])
   ·rw [if_neg (by rw [h2];simp)] at hT;refine fR Z ?_;refine Run.cond Z Z (fun h3=>?_) (fun h3=>?_)
    ·rw [if_pos h3] at hT;refine fR Z ?_;refine caG Z Z (fun hg=>⟨_,rfl,yt H.toPr s.on hol,rfl⟩) Z Z ?_;refine fM Z ?_;refine lMG Z Z Z Z ?_;refine fM Z ?_;refine gr Z ?_;refine caG Z Z (fun hg=>⟨_,rfl,hc,rfl⟩) Z Z ?_;refine fM Z ?_;refine Run.fin Z (z5.go ?_);exact .t (by rw [←hT])
    ·rw [if_neg (by rw [h3];simp)] at hT;refine fR Z ?_;refine Run.fin Z (z5.go ?_);exact .t (by rw [←hT])
theorem zba (H:ZU P) (n:Int) (l:List Sel) (hl:zU l) (ih:∀m l',SizeOf.sizeOf l'<SizeOf.sizeOf l->zU l'->SsC P m l'):SsC P n l:=by
 have hll:=hl.1;unfold SsC;generalize hT:ssR n l=tot;rw [zaG] at hT;refine z9.run H.i47 H.mixed Z Z ?_;refine fR Z ?_;refine lM Z Z Z ?_;refine fM Z ?_;refine lMG Z Z Z Z ?_;refine fM Z ?_;refine Run.cond Z Z (fun h0=>?_) (fun h0=>?_)
 ·have h0':z75 n l=true:=h0;rw [if_pos h0'] at hT;refine fR Z ?_;refine Run.fin Z (z5.go ?_);exact .t (by rw [←hT])
 ·have h0':z75 n l=false:=h0;rw [if_neg (by rw [h0'];simp)] at hT;refine fR Z ?_;refine zx l (fun i (_:Unit)=>{env:=[(0,.t (.lst (l.map Sel.enc))),(1,.t (.int .i64 n)),(5,.t (.int .i64 i))],s:=⟨[],0⟩}) (fun r i _=>r.all (fun s=>z0z s (ssR (IntKind.i64.wrap (n+1)) s.z7))=tot) 0 () Z hT Z Z Z ?_ ?_
  ·intro _ hinv;refine fR Z ?_;refine lM Z Z Z ?_;refine fM Z ?_;refine Run.zj Z Z (by simp) ?_;refine fR Z ?_;refine Run.fin Z (z5.go ?_);exact .t (by rw [←hinv];rfl)
  ·intro i x r _ h1 hi hd hinv ihl;have hxm:x∈l:=zMG h1;have hx:=hl.2 x hxm;have hsz:SizeOf.sizeOf x.z7<SizeOf.sizeOf l:=Nat.lt_trans (Sel.zB x) (List.sizeOf_lt_of_mem hxm);have hcall:=zb8 H n x hx (ih _ x.z7 hsz (zU.sub hx));rw [List.all_cons] at hinv;generalize z0z x (ssR (IntKind.i64.wrap (n+1)) x.z7)=b at hinv hcall;refine fR Z ?_;refine lM Z Z Z ?_;refine fM Z ?_;refine Run.zm Z Z (by simp;omega) ?_;refine fR Z ?_;refine Mid.Ze (Sel.Zf x) Z Z Z h1 Z Z ?_;refine fM Z ?_;refine Mid.call (hcall) Z Z Z Z ?_;refine fM Z ?_;refine Run.cond Z Z (fun hc=>?_) (fun hc=>?_)
   ·have hc':b=false:=by simpa using hc
    refine fR Z ?_;refine Run.fin Z (z5.go ?_);exact .t (by rw [←hinv,hc'];rfl)
   ·have hc':b=true:=by simpa using hc
    refine fR Z ?_;refine aL Z Z Z Z Z ?_;refine fM Z ?_;exact zk 0 Z (ihl () (by rw [←hinv,hc'];rfl)) Z Z Z
theorem z9T (H:ZU P):∀(n:Int) (l:List Sel),zU l->SsC P n l
 |n,l,hl=>zba H n l hl fun m l' h h1=>z9T H m l' h1
termination_by n l=>SizeOf.sizeOf l
def z4P (o:Op):Bool:=(((decide (o.kind<1)||decide (o.kind>3))||(o.name !=[]&&!zl o.name))||!z6M o.vars)||!ssR 1 o.z7
def z1t (f:zA):Bool:=(!zcs f.name||!zl f.on)||!ssR 1 f.z7
def qS (q:Query):Bool:=if (decide (((q.ops.length+q.z8.length:Nat):Int)<1)||decide (((q.ops.length+q.z8.length:Nat):Int)>64))=true then false else (!q.ops.any z4P&&!q.z8.any z1t)
theorem z6l (H:ZU P) (q:Query) (hq:q.Ok):z9 P 24 [q.v] ⟨[],0⟩ {v:= .t (.bool (qS q))}:=by
 have hfl:=hq.fl;have hol:=hq.ol;generalize hT:qS q=tot;unfold qS at hT;refine z9.run H.i24 H.mixed Z Z ?_;refine fR Z ?_;refine lM Z Z Z ?_;refine fM Z ?_;refine lM Z Z Z ?_;refine aN Z Z Z ?_;refine fM Z ?_;refine Run.cond Z Z (fun h0=>?_) (fun h0=>?_)
 ·rw [if_pos h0] at hT;refine fR Z ?_;refine Run.fin Z (z5.go ?_);exact .t (by rw [←hT])
 ·rw [if_neg (by rw [h0];simp)] at hT;refine fR Z ?_;refine zx q.ops (fun i (_:Unit)=>{env:=[(1,.ptr 0 0),(4,.t (.int .i64 i))],s:=⟨[(0,.cells [.t (.lst (q.ops.map Op.enc)),.t (.lst (q.z8.map zA.enc))])],1⟩}) (fun r i _=>(!r.any z4P&&!q.z8.any z1t)=tot) 1 () Z hT Z Z Z ?_ ?_
  ·intro _ hinv
   have hinv':(!q.z8.any z1t)=tot:=by rw [←hinv];rfl
   refine fR Z ?_;refine lM Z Z Z ?_;refine fM Z ?_;refine Run.zj Z Z (by simp) ?_;refine fR Z ?_;refine zx q.z8 (fun i (_:Unit)=>{env:=[(1,.ptr 0 0),(6,.t (.int .i64 i))],s:=⟨[(0,.cells [.t (.lst (q.ops.map Op.enc)),.t (.lst (q.z8.map zA.enc))])],1⟩}) (fun r i _=>(!r.any z1t)=tot) 1 () Z hinv' Z Z Z ?_ ?_
   ·intro _ hinv2;refine fR Z ?_;refine lM Z Z Z ?_;refine fM Z ?_;refine Run.zj Z Z (by simp) ?_;refine fR Z ?_;refine Run.fin Z (z5.go ?_);exact .t (by rw [←hinv2];rfl)
   ·intro i x r _ h1 hi hd hinv2 ih;have hx:=hq.f x (zMG h1);have hss:=z9T H 1 x.z7 hx.s;unfold SsC at hss;refine fR Z ?_;refine lM Z Z Z ?_;refine fM Z ?_;refine Run.zm Z Z (by simp;omega) ?_;refine fR Z ?_;refine Mid.ze Z Z Z h1 Z Z ?_;refine fM Z ?_;refine Mid.call (z4b H x.name hx.nm) Z Z Z Z ?_;refine fM Z ?_;refine caG Z Z (fun hg=>⟨_,rfl,yt H.toPr x.on hx.on,rfl⟩) Z Z ?_;refine fM Z ?_;refine caG Z Z (fun hg=>⟨_,rfl,hss,rfl⟩) Z Z ?_;refine fM Z ?_;refine Run.cond Z Z (fun hc=>?_) (fun hc=>?_)
    ·have hc':z1t x=true:=hc;refine fR Z ?_;refine Run.fin Z (z5.go ?_);exact .t (by rw [←hinv2,List.any_cons,hc'];rfl)
    ·have hc':z1t x=false:=hc;refine fR Z ?_;refine aL Z Z Z Z Z ?_;refine fM Z ?_;exact zk 1 Z (ih () (by rw [←hinv2,List.any_cons,hc'];rfl)) Z Z Z
  ·intro i x r _ h1 hi hd hinv ih;have hx:=hq.o x (zMG h1);have hss:=z9T H 1 x.z7 hx.s;unfold SsC at hss;refine fR Z ?_;refine lM Z Z Z ?_;refine fM Z ?_;refine Run.zm Z Z (by simp;omega) ?_;refine fR Z ?_;refine Mid.ze Z Z Z h1 Z Z ?_;refine fM Z ?_;refine caG Z Z (fun hg=>⟨_,rfl,yt H.toPr x.name hx.nm,rfl⟩) Z Z ?_;refine fM Z ?_;refine caG Z Z (fun hg=>⟨_,rfl,z9G H x.vars hx.vl hx.v,rfl⟩) Z Z ?_;refine fM Z ?_;refine caG Z Z (fun hg=>⟨_,rfl,hss,rfl⟩) Z Z ?_;refine fM Z ?_;refine Run.cond Z Z (fun hc=>?_) (fun hc=>?_)
   ·have hc':z4P x=true:=hc;refine fR Z ?_;refine Run.fin Z (z5.go ?_);exact .t (by rw [←hinv,List.any_cons,hc'];rfl)
   ·have hc':z4P x=false:=hc;refine fR Z ?_;refine aL Z Z Z Z Z ?_;refine fM Z ?_;exact zk 1 Z (ih () (by rw [←hinv,List.any_cons,hc'];rfl)) Z Z Z
end Go.GB.C11
namespace Go.GB.C11
open Go.GB
variable {P:Program}
theorem z1W (a b:Ref):z0y a b=z0y b a:=by
 unfold z0y;rw [Bool.eq_iff_iff];simp;exact ⟨fun h=>⟨h.1.symm,h.2.symm⟩,fun h=>⟨h.1.symm,h.2.symm⟩⟩
theorem z4x (H:ZU P) (a b:Ref) (ha:a.Ok) (hb:b.Ok):z9 P 121 [a.v,b.v] ⟨[],0⟩ {v:= .t (.bool (z0y a b))}:=by
 have h1:=ha.l;have h2:=hb.l;refine z9.run H.i121 H.mixed Z Z ?_;refine fR Z ?_;refine caG Z Z (fun hg=>⟨_,rfl,zbZ H.toPr a.zq b.zq (by omega) (by omega),rfl⟩) Z Z ?_;refine fM Z ?_;refine Run.fin Z (z5.go ?_);exact .t Z
theorem z3b (H:ZU P) (ds:List Def) (hD:Zd ds) (n:Str) (k:Int) (hk:k≠0):z9 P 91 [yd ds,.t (.str n),.t (.int .i64 k)] ⟨[],0⟩ {v:= .t (.int .i64 (yi ds n k))}:=by
 refine z9.run H.i91 H.mixed Z Z ?_;refine fR Z ?_;refine Mid.call (yl H.toPr ds hD.l n) Z Z Z Z ?_;refine fM Z ?_;refine caG Z Z (fun hg=>⟨_,rfl,Yt H.toPr n,rfl⟩) Z Z ?_;refine fM Z ?_;refine Run.cond Z Z (fun h1=>?_) (fun h1=>?_)
 ·refine fR Z ?_;refine Run.fin Z (z5.go ?_);exact .t (by unfold yi;rw [if_pos h1])
 ·have h1':¬ (!(zh n ds).isSome&&!(wj n))=true:=by
   rw [show (!(zh n ds).isSome&&!(wj n))=false from h1];simp
  refine fR Z ?_;refine Run.cond Z Z (fun h2=>?_) (fun h2=>?_)
  ·have h2':(!(zh n ds).isSome||((zh n ds).getD Def.zero).kind !=k)=true:=by
    have:(((zh n ds).getD Def.zero).kind !=k)=true:=h2;rw [this];simp
   refine fR Z ?_;refine Run.fin Z (z5.go ?_);exact .t (by unfold yi;rw [if_neg h1',if_pos h2'])
  ·have h2':¬ (!(zh n ds).isSome||((zh n ds).getD Def.zero).kind !=k)=true:=by
    have:(((zh n ds).getD Def.zero).kind !=k)=false:=h2;rw [this]
    cases hf:zh n ds with
    |none=>rw [hf] at this;exact absurd (by simpa [Def.zero] using this) hk.symm
    |some d=>simp
   refine fR Z ?_;refine Run.fin Z (z5.go ?_);exact .t (by unfold yi;rw [if_neg h1',if_neg h2'])
theorem z8i (H:ZU P) (ds:List Def) (hD:Zd ds) (t:Def) (ht:t.Ok) (x:Field) (hx:x.Ok) (hl:(z4S ds t x).length<=4398046511104):z9 P 93 [yd ds,t.v,x.v] ⟨[],0⟩ {v:= .t (.lst ((z4S ds t x).map z4.enc))}:=by
 have hxn:=hx.nm;have htn:=ht.nm;have hxa:=hx.al
 have hatl:List.length (atF t x)<=281474976710657:=by unfold atF;simp;omega
 generalize hT:z4S ds t x=tot at hl;unfold z4S at hT;generalize hAt:atF t x=at_ at hT hatl;have hAt':t.name++[46]++x.name=at_:=hAt;refine z9.run H.i93 H.mixed Z Z ?_;refine fR Z ?_;refine pu Z ?_;refine fM Z ?_;refine pu Z ?_;refine fM Z ?_;rw [hAt'];refine Mid.call (WX H.toPr t ht.fl x.name) Z Z Z Z ?_;refine fM Z ?_
 cases hy:zD x.name t.fields with
 |none=>
  rw [hy] at hT;refine Run.zm Z Z Z ?_;refine fR Z ?_;refine Run.fin Z (z5.go ?_)
  first
  |exact .t (by rw [←hT];rfl)
  |exact .own (by rw [←hT];rfl)
 |some y=>
  rw [hy] at hT;simp only at hT;have hyo:=ht.f y (YD hy);have hya:=hyo.al;refine Run.zj Z Z Z ?_;refine fR Z ?_;refine Mid.call (z7M H.toPr ds hD y.ty x.ty hyo.t hx.t) Z Z Z Z ?_;refine fM Z ?_
  have tail:∀B0:List z4,B0++(qd y at_ x.args++Wv x at_ y.args)=tot->Run P n93 (⟨[],0⟩:S).nxt (z5 ⟨[],0⟩ {v:= .t (.lst (tot.map z4.enc))} r93 YX.ret)
    [It.c c93_20,It.blk 0,It.c c93_11] {env:=[(5,.ptr 2 0),(7,.t (.str at_)),(8,.ptr 3 0),(10,.own 4 2 (List.map z4.enc (B0))),(11,.t (.int .i64 0))],s:=⟨[(2,.cells [.t (.str x.name),.t (.lst (x.args.map Input.enc)),.t (.str x.ty.name),.t (.lst (x.ty.zq.map nE)),.t (.lst (x.zS.map Dir.enc))]),(3,.cells [.t (.str y.name),.t (.lst (y.args.map Input.enc)),.t (.str y.ty.name),.t (.lst (y.ty.zq.map nE)),.t (.lst (y.zS.map Dir.enc))]),(4,.arr (B0).length)],5⟩}:=by
   intro B0 hB0;refine zx x.args (fun i (B:List z4)=>{env:=[(5,.ptr 2 0),(7,.t (.str at_)),(8,.ptr 3 0),(10,.own 4 2 (List.map z4.enc (B))),(11,.t (.int .i64 i))],s:=⟨[(2,.cells [.t (.str x.name),.t (.lst (x.args.map Input.enc)),.t (.str x.ty.name),.t (.lst (x.ty.zq.map nE)),.t (.lst (x.zS.map Dir.enc))]),(3,.cells [.t (.str y.name),.t (.lst (y.args.map Input.enc)),.t (.str y.ty.name),.t (.lst (y.ty.zq.map nE)),.t (.lst (y.zS.map Dir.enc))]),(4,.arr (B).length)],5⟩}) (fun r i B=>B++(qd y at_ r++Wv x at_ y.args)=tot) 5 B0 Z hB0 Z Z Z ?_ ?_
   ·rintro B hB;simp only [qd,List.nil_append] at hB;refine fR Z ?_;refine lM Z Z Z ?_;refine fM Z ?_;refine Run.zj Z Z (by simp) ?_;refine fR Z ?_;refine zx y.args (fun i (B:List z4)=>{env:=[(5,.ptr 2 0),(7,.t (.str at_)),(8,.ptr 3 0),(10,.own 4 2 (List.map z4.enc (B))),(14,.t (.int .i64 i))],s:=⟨[(2,.cells [.t (.str x.name),.t (.lst (x.args.map Input.enc)),.t (.str x.ty.name),.t (.lst (x.ty.zq.map nE)),.t (.lst (x.zS.map Dir.enc))]),(3,.cells [.t (.str y.name),.t (.lst (y.args.map Input.enc)),.t (.str y.ty.name),.t (.lst (y.ty.zq.map nE)),.t (.lst (y.zS.map Dir.enc))]),(4,.arr (B).length)],5⟩}) (fun r i B=>B++Wv x at_ r=tot) 5 B Z hB Z Z Z ?_ ?_
    ·rintro C hC
     obtain rfl:C=tot:=by rw [←hC];simp [Wv]
     refine fR Z ?_;refine lM Z Z Z ?_;refine fM Z ?_;refine Run.zj Z Z (by simp) ?_;refine fR Z ?_;refine Run.fin Z (z5.go ?_);exact .own Z
    ·rintro i b r C h1 hi hd hC ih;have hb:=hyo.a b (zMG h1);have hbn:=hb.nm;have hlen:=congrArg List.length hC;simp only [List.length_append] at hlen;refine fR Z ?_;refine lM Z Z Z ?_;refine fM Z ?_;refine Run.zm Z Z (by simp;omega) ?_;refine fR Z ?_;refine Mid.ze Z Z Z h1 Z Z ?_;refine fM Z ?_;refine Mid.call (q8 H.toPr x.args hxa b.name) Z Z Z Z ?_;refine fM Z ?_;refine elG Z Z Z Z h1 Z Z ?_;refine fM Z ?_;refine caG Z Z (fun hg=>⟨_,rfl,z20 H.toPr b.ty hb.t,rfl⟩) Z Z ?_;refine fM Z ?_;refine elG Z Z Z Z h1 Z Z ?_;refine fM Z ?_;refine Run.cond Z Z (fun hc=>?_) (fun hc=>?_)
     ·have hc':zaY x b=true:=hc;simp only [Wv] at hC hlen;rw [if_pos hc'] at hC hlen;simp only [List.length_cons] at hlen;refine fR Z ?_;refine pu Z ?_;refine fM Z ?_;refine Mid.ze Z Z Z h1 Z Z ?_;refine fM Z ?_;refine pu Z ?_;refine pu Z ?_;refine fM Z ?_;refine apM z4.enc C [(⟨22,at_++[40]++b.name++[41]⟩:z4)] Z Z Z Z Z ?_ (h1:=by first |omega|(simp;omega)|(simp;done)) (h2:=by first |omega|(simp;omega)|(simp;done));refine fM rfl ?_;refine aL rfl rfl rfl rfl rfl ?_;refine fM rfl ?_;exact zk 5 rfl (ih (C++[⟨22,at_++[40]++b.name++[41]⟩]) (by rw [←hC];simp)) rfl rfl rfl
     ·have hc':¬ zaY x b=true:=by rw [show zaY x b=false from hc];simp
      simp only [Wv] at hC;rw [if_neg hc'] at hC;refine fR Z ?_;refine aL Z Z Z Z Z ?_;refine fM Z ?_;exact zk 5 Z (ih C hC) Z Z Z
   ·rintro i a r B h1 hi hd hB ih;have ha:=hx.a a (zMG h1);have han:=ha.nm;have hlen:=congrArg List.length hB;simp only [List.length_append] at hlen;have hio:=zee hyo.a a.name;refine fR Z ?_;refine lM Z Z Z ?_;refine fM Z ?_;refine Run.zm Z Z (by simp;omega) ?_;refine fR Z ?_;refine Mid.ze Z Z Z h1 Z Z ?_;refine fM Z ?_;refine Mid.call (q8 H.toPr y.args hya a.name) Z Z Z Z ?_;refine fM Z ?_;refine elG Z Z Z Z h1 Z Z ?_;refine fM Z ?_;refine caG Z Z (fun hg=>⟨_,rfl,z4x H ((Z1 a.name y.args).getD Input.zero).ty a.ty hio.t ha.t,rfl⟩) Z Z ?_;refine fM Z ?_;refine Run.cond Z Z (fun hc=>?_) (fun hc=>?_)
    ·have hc':zbD y a=true:=by
      have h:=hc;rw [z1W] at h;exact h
     simp only [qd] at hB hlen;rw [if_pos hc'] at hB hlen;simp only [List.length_cons,List.cons_append] at hB hlen;refine fR Z ?_;refine pu Z ?_;refine fM Z ?_;refine Mid.ze Z Z Z h1 Z Z ?_;refine fM Z ?_;refine pu Z ?_;refine pu Z ?_;refine fM Z ?_;refine apM z4.enc B [(⟨22,at_++[40]++a.name++[41]⟩:z4)] Z Z Z Z Z ?_ (h1:=by first |omega|(simp;omega)|(simp;done)) (h2:=by first |omega|(simp;omega)|(simp;done));refine fM rfl ?_;refine aL rfl rfl rfl rfl rfl ?_;refine fM rfl ?_;exact zk 5 rfl (ih (B++[⟨22,at_++[40]++a.name++[41]⟩]) (by rw [←hB];simp)) rfl rfl rfl
    ·have hc':¬ zbD y a=true:=by
      have h:=hc;rw [z1W] at h;rw [show zbD y a=false from h];simp
     simp only [qd] at hB;rw [if_neg hc'] at hB;refine fR Z ?_;refine aL Z Z Z Z Z ?_;refine fM Z ?_;exact zk 5 Z (ih B hB) Z Z Z
  refine Run.cond Z Z (fun hs=>?_) (fun hs=>?_)
  ·have hs':¬ z7u ds y.ty x.ty=true:=by simpa using hs
   rw [if_neg hs'] at hT;refine fR Z ?_;refine apN z4.enc [(⟨10,at_⟩:z4)] Z Z Z ?_ (h1:=by first |omega|(simp;omega)|(simp;done)) (h2:=by first |omega|(simp;omega)|(simp;done));refine fM rfl ?_;refine Wc 5 rfl (tail [⟨10,at_⟩] hT) rfl rfl rfl
  ·have hs':z7u ds y.ty x.ty=true:=by simpa using hs
   rw [if_pos hs'] at hT;refine fR Z ?_;refine Wc 4 Z (tail [] hT) Z Z Z
theorem z5A (H:ZU P) (ds:List Def) (hD:Zd ds) (t:Def) (ht:t.Ok) (hl:(z8g ds t).length<=4398046511104):z9 P 53 [yd ds,t.v] ⟨[],0⟩ {v:= .t (.lst ((z8g ds t).map z4.enc))}:=by
 have hil:=ht.il;unfold z8g at hl⊢;generalize hT:z3A ds t [] t.implements=tot at hl;refine z9.run H.i53 H.mixed Z Z ?_;refine fR Z ?_;refine zx t.implements (fun i (B:List z4)=>{env:=[(2,.ptr 0 0),(3,.ptr 1 0),(5,.own 2 2 (List.map z4.enc (B))),(6,.t (.int .i64 i))],s:=⟨[(0,.cells [.t (.lst (ds.map Def.enc))]),(1,(TCo t)),(2,.arr (B).length)],3⟩}) (fun r i B=>B++z3A ds t (t.implements.take i) r=tot) 2 [] Z (by simpa using hT) Z Z Z ?_ ?_
 ·rintro B hB
  obtain rfl:B=tot:=by rw [←hB];simp [z3A]
  refine fR Z ?_;refine lM Z Z Z ?_;refine fM Z ?_;refine Run.zj Z Z (by simp) ?_;refine fR Z ?_;refine Run.fin Z (z5.go ?_);exact .own Z
 ·rintro i n r B h1 hi hd hB ih
  have htk:t.implements.take i++[n]=t.implements.take (i+1):=by rw [List.take_add_one,h1];rfl
  have hB':B++((if z2b ds (t.implements.take i) n=0 then Ws ds t ((zh n ds).getD Def.zero).fields else [(⟨z2b ds (t.implements.take i) n,t.name⟩:z4)])++z3A ds t (t.implements.take (i+1)) r)=tot:=by rw [←htk];exact hB
  have hlen:B.length+(if z2b ds (t.implements.take i) n=0 then Ws ds t ((zh n ds).getD Def.zero).fields else [(⟨z2b ds (t.implements.take i) n,t.name⟩:z4)]).length<=4398046511104:=by
   have:=congrArg List.length hB';simp only [List.length_append] at this;omega
  have htkl:(t.implements.take i).length<=140737488355328:=by simp;omega
  have hF:=Qq hD n;refine fR Z ?_;refine lM Z Z Z ?_;refine fM Z ?_;refine Run.zm Z Z (by simp;omega) ?_;refine fR Z ?_;refine Mid.ze Z Z Z h1 Z Z ?_;refine fM Z ?_;refine Mid.call (z3b H ds hD n 2 (by decide)) Z Z Z Z ?_;refine fM Z ?_;refine zdN Z Z Z Z Z ?_;refine fM Z ?_;refine elG Z Z Z Z h1 Z Z ?_;refine fM Z ?_;refine caG Z Z (fun hg=>⟨_,rfl,z3W H.toPr (t.implements.take i) htkl n,rfl⟩) Z Z ?_;refine fM Z ?_;refine Run.cond Z Z (fun h7=>?_) (fun h7=>?_)
  ·have e7:z2b ds (t.implements.take i) n=7:=by unfold z2b;rw [if_pos h7]
   rw [e7] at hB' hlen;simp at hB' hlen;refine fR Z ?_;refine Run.zm Z Z Z ?_;refine fR Z ?_;refine apM z4.enc B [(⟨7,t.name⟩:z4)] Z Z Z Z Z ?_ (h1:=by first |omega|(simp;omega)|(simp;done)) (h2:=by first |omega|(simp;omega)|(simp;done));refine fM rfl ?_;refine aL rfl rfl rfl rfl rfl ?_;refine fM rfl ?_;exact zk 3 rfl (ih (B++[⟨7,t.name⟩]) (by rw [←hB'];simp)) rfl rfl rfl
  ·have e7:z2b ds (t.implements.take i) n=yi ds n 2:=by unfold z2b;rw [if_neg (by rw [show (yi ds n 2==0&&decide (n∈t.implements.take i))=false from h7];simp)]
   rw [e7] at hB' hlen;refine fR Z ?_;refine Run.cond Z Z (fun he=>?_) (fun he=>?_)
   ·have he':¬ yi ds n 2=0:=by simpa using he
    rw [if_neg he'] at hB' hlen;simp at hB' hlen;refine fR Z ?_;refine apM z4.enc B [(⟨yi ds n 2,t.name⟩:z4)] Z Z Z Z Z ?_ (h1:=by first |omega|(simp;omega)|(simp;done)) (h2:=by first |omega|(simp;omega)|(simp;done));refine fM rfl ?_;refine aL rfl rfl rfl rfl rfl ?_;refine fM rfl ?_;exact zk 3 rfl (ih (B++[⟨yi ds n 2,t.name⟩]) (by rw [←hB'];simp)) rfl rfl rfl
   ·have he':yi ds n 2=0:=by simpa using he
    rw [if_pos he'] at hB' hlen;refine fR Z ?_;refine Mid.ze Z Z Z h1 Z Z ?_;refine fM Z ?_;refine Mid.call (yl H.toPr ds hD.l n) Z Z Z Z ?_;refine fM Z ?_;generalize hf:(zh n ds).getD Def.zero=f at hF hB' hlen;have hff:=hF.fl;generalize hG:Ws ds t f.fields=G at hB' hlen;refine zx f.fields (fun j (C:List z4)=>{env:=[(2,.ptr 0 0),(3,.ptr 1 0),(5,.own 2 2 (List.map z4.enc C)),(6,.t (.int .i64 i)),(8,.ptr 3 0),(10,.t (.int .i64 j))],s:=⟨[(0,.cells [.t (.lst (ds.map Def.enc))]),(1,(TCo t)),(2,.arr C.length),(3,(TCo f))],4⟩}) (fun r2 j C=>C++Ws ds t r2=B++G) 4 B Z (by rw [←hG]) Z Z Z ?_ ?_
    ·rintro C hC;simp only [Ws,List.append_nil] at hC;subst hC;refine fR Z ?_;refine lM Z Z Z ?_;refine fM Z ?_;refine Run.zj Z Z (by simp) ?_;refine fR Z ?_;refine aL Z Z Z Z Z ?_;refine fM Z ?_;exact zk 3 Z (ih (B++G) (by rw [←hB'];simp)) Z Z Z
    ·rintro j x r2 C g1 gi gd hC ih2;have hx:=hF.f x (zMG g1);have hln2:=congrArg List.length hC;simp only [Ws,List.length_append] at hln2;have hcall:=z8i H ds hD t ht x hx (by omega);simp only [Ws] at hC;generalize z4S ds t x=N at hC hln2 hcall;refine fR Z ?_;refine lM Z Z Z ?_;refine fM Z ?_;refine Run.zm Z Z (by simp;omega) ?_;refine fR Z ?_;refine Mid.ze Z Z Z g1 Z Z ?_;refine fM Z ?_;refine Mid.call (hcall) Z Z Z Z ?_;skip;refine apM z4.enc C N Z Z Z Z Z ?_ (h1:=by first |omega|(simp;omega)|(simp;done)) (h2:=by first |omega|(simp;omega)|(simp;done));refine fM rfl ?_;refine aL rfl rfl rfl rfl rfl ?_;refine fM rfl ?_;exact zk 4 rfl (ih2 (C++N) (by rw [←hC];simp)) rfl rfl rfl
theorem z8y (H:ZU P) (ds:List Def) (hD:Zd ds) (t:Def) (ht:t.Ok) (hl:(unL ds t [] t.members).length<=4398046511104):z9 P 54 [yd ds,t.v] ⟨[],0⟩ {v:= .t (.lst ((unL ds t [] t.members).map z4.enc))}:=by
 have hml:=ht.ml;have htn:=ht.nm;generalize hT:unL ds t [] t.members=tot at hl;refine z9.run H.i54 H.mixed Z Z ?_;refine fR Z ?_;refine zx t.members (fun i (B:List z4)=>{env:=[(2,.ptr 0 0),(3,.ptr 1 0),(5,.own 2 2 (List.map z4.enc (B))),(6,.t (.int .i64 i))],s:=⟨[(0,.cells [.t (.lst (ds.map Def.enc))]),(1,(TCo t)),(2,.arr (B).length)],3⟩}) (fun r i B=>B++unL ds t (t.members.take i) r=tot) 2 [] Z (by simpa using hT) Z Z Z ?_ ?_
 ·rintro B hB
  obtain rfl:B=tot:=by rw [←hB];simp [unL]
  refine fR Z ?_;refine lM Z Z Z ?_;refine fM Z ?_;refine Run.zj Z Z (by simp) ?_;refine fR Z ?_;refine Run.fin Z (z5.go ?_);exact .own Z
 ·rintro i m r B h1 hi hd hB ih;have hm:=ht.m m (zMG h1);have hmn:=hm.nm
  have htk:t.members.take i++[m]=t.members.take (i+1):=by rw [List.take_add_one,h1];rfl
  simp only [unL,htk] at hB;have hlen:=congrArg List.length hB;simp only [List.length_append] at hlen
  have htkl:(t.members.take i).length<=140737488355328:=by simp;omega
  refine fR Z ?_;refine lM Z Z Z ?_;refine fM Z ?_;refine Run.zm Z Z (by simp;omega) ?_;refine fR Z ?_;refine Mid.ze Z Z Z h1 Z Z ?_;refine fM Z ?_;refine Mid.call (z3b H ds hD m.name 1 (by decide)) Z Z Z Z ?_;refine fM Z ?_;refine zdN Z Z Z Z Z ?_;refine fM Z ?_;refine caG Z Z (fun hg=>⟨_,rfl,z2H H.toPr ⟨0,[],[],[],[],t.members.take i,[]⟩ htkl m.name,rfl⟩) Z Z ?_;refine fM Z ?_;refine Run.cond Z Z (fun h7=>?_) (fun h7=>?_)
  ·have e7:unE ds (t.members.take i) m=7:=by unfold unE;rw [if_pos h7]
   rw [e7] at hB hlen;simp at hB hlen;refine fR Z ?_;refine Run.zm Z Z Z ?_;refine fR Z ?_;refine pu Z ?_;refine fM Z ?_;refine pu Z ?_;refine fM Z ?_;refine apM z4.enc B [(⟨7,t.name++[46]++m.name⟩:z4)] Z Z Z Z Z ?_ (h1:=by first |omega|(simp;omega)|(simp;done)) (h2:=by first |omega|(simp;omega)|(simp;done));refine fM rfl ?_;refine aL rfl rfl rfl rfl rfl ?_;refine fM rfl ?_;exact zk 3 rfl (ih (B++[⟨7,t.name++[46]++m.name⟩]) (by rw [←hB];simp)) rfl rfl rfl
  ·have e7:unE ds (t.members.take i) m=yi ds m.name 1:=by unfold unE;rw [if_neg (by rw [show (yi ds m.name 1==0&&qU (t.members.take i) m.name)=false from h7];simp)]
   rw [e7] at hB hlen;refine fR Z ?_;refine Run.cond Z Z (fun he=>?_) (fun he=>?_)
   ·have he':¬ yi ds m.name 1=0:=by simpa using he
    rw [if_neg he'] at hB hlen;simp at hB hlen;refine fR Z ?_;refine pu Z ?_;refine fM Z ?_;refine pu Z ?_;refine fM Z ?_;refine apM z4.enc B [(⟨yi ds m.name 1,t.name++[46]++m.name⟩:z4)] Z Z Z Z Z ?_ (h1:=by first |omega|(simp;omega)|(simp;done)) (h2:=by first |omega|(simp;omega)|(simp;done));refine fM rfl ?_;refine aL rfl rfl rfl rfl rfl ?_;refine fM rfl ?_;exact zk 3 rfl (ih (B++[⟨yi ds m.name 1,t.name++[46]++m.name⟩]) (by rw [←hB];simp)) rfl rfl rfl
   ·have he':yi ds m.name 1=0:=by simpa using he
    rw [if_pos he'] at hB hlen;refine fR Z ?_;refine aL Z Z Z Z Z ?_;refine fM Z ?_;exact zk 3 Z (ih B (by rw [←hB];simp)) Z Z Z
theorem z8D (H:ZU P) (ds:List Def) (hD:Zd ds) (hl:(QQ ds).length<=4398046511104):z9 P 26 [yd ds] ⟨[],0⟩ {v:= .t (.lst ((QQ ds).map z4.enc))}:=by
 have hdl:=hD.l;unfold QQ at hl⊢;generalize hT:wI ds ds=tot at hl;refine z9.run H.i26 H.mixed Z Z ?_;refine fR Z ?_;refine zx ds (fun i (B:List z4)=>{env:=[(1,.ptr 0 0),(3,.own 1 2 (List.map z4.enc B)),(4,.t (.int .i64 i))],s:=⟨[(0,.cells [.t (.lst (ds.map Def.enc))]),(1,.arr B.length)],2⟩}) (fun r i B=>B++wI ds r=tot) 1 [] Z (by simpa using hT) Z Z Z ?_ ?_
 ·rintro B hB
  obtain rfl:B=tot:=by rw [←hB];simp [wI]
  refine fR Z ?_;refine lM Z Z Z ?_;refine fM Z ?_;refine Run.zj Z Z (by simp) ?_;refine fR Z ?_;refine Run.fin Z (z5.go ?_);exact .own Z
 ·rintro i t r B h1 hi hd hB ih;have ht:=hD.d t (zMG h1);have hlen:=congrArg List.length hB;simp only [List.length_append] at hlen;refine fR Z ?_;refine lM Z Z Z ?_;refine fM Z ?_;refine Run.zm Z Z (by simp;omega) ?_;refine fR Z ?_;refine Mid.ze Z Z Z h1 Z Z ?_;refine fM Z ?_;refine Run.cond Z Z (fun hk=>?_) (fun hk=>?_)
  ·have hk':t.kind=1:=by simpa using hk
   simp only [wI] at hB hlen;rw [if_pos hk'] at hB hlen;simp only [List.length_append] at hlen;have hcall:=z5A H ds hD t ht (by omega);generalize z8g ds t=N at hB hlen hcall;refine fR Z ?_;refine Mid.ze Z Z Z h1 Z Z ?_;refine fM Z ?_;refine Mid.call (hcall) Z Z Z Z ?_;skip;refine apM z4.enc B N Z Z Z Z Z ?_ (h1:=by first |omega|(simp;omega)|(simp;done)) (h2:=by first |omega|(simp;omega)|(simp;done));refine fM rfl ?_;refine aL rfl rfl rfl rfl rfl ?_;refine fM rfl ?_;exact zk 2 rfl (ih (B++N) (by rw [←hB];simp)) rfl rfl rfl
  ·have hk':¬ t.kind=1:=by simpa using hk
   simp only [wI] at hB hlen;rw [if_neg hk'] at hB hlen;simp only [List.length_append] at hlen;refine fR Z ?_;refine Run.cond Z Z (fun hk3=>?_) (fun hk3=>?_)
   ·have hk3':t.kind=3:=by simpa using hk3
    rw [if_pos hk3'] at hB hlen;have hcall:=z8y H ds hD t ht (by omega);generalize unL ds t [] t.members=N at hB hlen hcall;refine fR Z ?_;refine Mid.ze Z Z Z h1 Z Z ?_;refine fM Z ?_;refine Mid.call (hcall) Z Z Z Z ?_;skip;refine apM z4.enc B N Z Z Z Z Z ?_ (h1:=by first |omega|(simp;omega)|(simp;done)) (h2:=by first |omega|(simp;omega)|(simp;done));refine fM rfl ?_;refine aL rfl rfl rfl rfl rfl ?_;refine fM rfl ?_;exact zk 2 rfl (ih (B++N) (by rw [←hB];simp)) rfl rfl rfl
   ·have hk3':¬ t.kind=3:=by simpa using hk3
    rw [if_neg hk3'] at hB;refine fR Z ?_;refine aL Z Z Z Z Z ?_;refine fM Z ?_;exact zk 2 Z (ih B (by rw [←hB];simp)) Z Z Z
end Go.GB.C11
namespace Go.GB.C29
open Go.GB
structure PrR (P:Program):Prop where
 mixed:P.follows .mixedOrders=true
 i22:zb P 22=some (n22,c22.bare,r22)
 i43:zb P 43=some (n43,c43.bare,r43)
 i74:zb P 74=some (n74,c74.bare,r74)
 i75:zb P 75=some (n75,c75.bare,r75)
 i76:zb P 76=some (n76,c76.bare,r76)
 i77:zb P 77=some (n77,c77.bare,r77)
 i111:zb P 111=some (n111,c111.bare,r111)
 i112:zb P 112=some (n112,c112.bare,r112)
structure R6 (P:Program) (zl:Str->Bool) (litF:Val->Bool) (refF:Ref->Bool):Prop where
 nm:∀s,z9 P 45 [.t (.str s)] ⟨[],0⟩ {v:= .t (.bool (zl s))}
 lit:∀v:Val,v.Ok->z9 P 82 [v.v] ⟨[],0⟩ {v:= .t (.bool (litF v))}
 rf:∀r:Ref,r.Ok->z9 P 81 [r.v] ⟨[],0⟩ {v:= .t (.bool (refF r))}
variable {P:Program} {zl:Str->Bool} {litF:Val->Bool} {refF:Ref->Bool}
theorem WE {α:Type} {p:α->Bool} {l:List α} {i:Nat} {x:α} (h:l[i]?=some x):(l.drop i).all p=(p x&&(l.drop (i+1)).all p):=by
 obtain ⟨h1,rfl⟩:=List.getElem?_eq_some_iff.1 h;rw [List.drop_eq_getElem_cons h1];rfl
theorem wC {α:Type} {p:α->Bool} {l:List α}:(l.drop l.length).all p=true:=by simp
mutual
def yp:Val->Bool
 | .mk k _ _ its _=>Qx its&&!(k==7)
def Qx:List Val->Bool
 |[]=>true
 |v::r=>yp v&&Qx r
end
theorem QE:∀l:List Val,Qx l=l.all yp
 |[]=>rfl
 |v::r=>by simp [Qx,QE r]
theorem z5N (v:Val):yp v=(v.items.all yp&&!(v.kind==7)):=by
 cases v;simp only [yp,QE];rfl
def ClC (P:Program) (v:Val):Prop:=z9 P 111 [v.v] ⟨[],0⟩ {v:= .t (.bool (yp v))}
theorem z4m (H:PrR P) (v:Val) (hv:v.Ok) (hrec:∀x,x∈v.items->ClC P x):ClC P v:=by
 have hil:=hv.il;have hR:=z5N v;unfold ClC;generalize yp v=R at hR⊢;refine z9.run H.i111 H.mixed Z Z ?_;refine fR Z ?_;refine zx v.items (fun i (_:Unit)=>{env:=[(1,.ptr 0 0),(3,.t (.int .i64 i))],s:=⟨[(0,(VCo v))],1⟩}) (fun r i _=>v.items.all yp=(v.items.drop i).all yp) 1 () Z Z Z Z Z ?_ ?_
 ·intro _ hinv;rw [wC] at hinv;rw [hinv,Bool.true_and] at hR;refine fR Z ?_;refine lM Z Z Z ?_;refine fM Z ?_;refine Run.zj Z Z (by simp) ?_;refine fR Z ?_;refine Run.fin Z (z5.go ?_);exact .t (by rw [hR];rfl)
 ·intro i x r _ h1 hi hd hinv ih;have hc:=hrec x (zMG h1);unfold ClC at hc;rw [WE h1] at hinv;refine fR Z ?_;refine lM Z Z Z ?_;refine fM Z ?_;refine Run.zm Z Z (by simp;omega) ?_;refine fR Z ?_;refine Mid.Ze (Val.Zf x) Z Z Z h1 Z Z ?_;refine fM Z ?_
  cases hx:yp x with
  |true=>
   rw [hx] at hc hinv;refine Mid.call (hc) Z Z Z Z ?_;refine fM Z ?_;refine Run.zj Z Z Z ?_;refine fR Z ?_;refine aL Z Z Z Z Z ?_;refine fM Z ?_;exact zk 1 Z (ih () (by rw [hinv];rfl)) Z Z Z
  |false=>
   rw [hx] at hc hinv;rw [hinv,Bool.false_and,Bool.false_and] at hR;refine Mid.call (hc) Z Z Z Z ?_;refine fM Z ?_;refine Run.zm Z Z Z ?_;refine fR Z ?_;refine Run.fin Z (z5.go ?_);exact .t (by rw [hR])
theorem z1H (H:PrR P):∀(k:Nat) (v:Val),SizeOf.sizeOf v<=k->v.Ok->ClC P v
 |0,v,h,_=>by cases v;simp at h
 |k+1,v,h,hv=>z4m H v hv fun x hx=>z1H H k x (by have:=Val.ZQ v hx;omega) (hv.it x hx)
theorem z2p (H:PrR P) (v:Val) (hv:v.Ok):z9 P 111 [v.v] ⟨[],0⟩ {v:= .t (.bool (yp v))}:=z1H H _ v (Nat.le_refl _) hv
def z6S (v:Val):Bool:=v.kind==0&&v.int==0&&v.text==[]&&v.items.length==0&&v.keys.length==0
theorem zbn (H:PrR P) (v:Val):z9 P 112 [v.v] ⟨[],0⟩ {v:= .t (.bool (z6S v))}:=by
 refine z9.run H.i112 H.mixed Z Z ?_;refine fR Z ?_;refine lMG Z Z Z Z ?_;refine fM Z ?_;refine lMG Z Z Z Z ?_;refine fM Z ?_
 have e:∀n:Nat,((n:Int)==0)=(n==0):=fun n=>by rw [Bool.eq_iff_iff];simp
 refine Run.fin Z (z5.go ?_);exact .t (by simp [z6S,e])
section
variable (zl litF refF)
def zcL (a:Arg):Bool:=zl a.name&&litF a.val&&yp a.val
def z6D (d:Dir):Bool:=zl d.name&&decide (d.args.length<=16)&&d.args.all (zcL zl litF)
def yS (l:List Dir):Bool:=decide (l.length<=16)&&l.all (z6D zl litF)
def inR (x:Input):Bool:=zl x.name&&refF x.ty&&yS zl litF x.zS&&(if x.has then litF x.yI&&yp x.yI else z6S x.yI)
def Yk (l:List Input):Bool:=decide (l.length<=16)&&l.all (inR zl litF refF)
def z04 (f:Field):Bool:=zl f.name&&Yk zl litF refF f.args&&refF f.ty&&yS zl litF f.zS
def YF (l:List Field):Bool:=decide (1<=l.length)&&decide (l.length<=64)&&l.all (z04 zl litF refF)
def z8C (plain:Bool) (m:ZF):Bool:=zl m.name&&yS zl litF m.zS&&!(plain&&decide (m.zS.length>0))
def yF (l:List ZF) (plain:Bool):Bool:=decide (1<=l.length)&&decide (l.length<=64)&&l.all (z8C zl litF plain)
end
theorem z0J (H:PrR P) (K:R6 P zl litF refF) (l:List Dir) (hl:l.length<=140737488355328) (ho:∀d,d∈l->d.Ok):z9 P 74 [.t (.lst (l.map Dir.enc))] ⟨[],0⟩ {v:= .t (.bool (yS zl litF l))}:=by
 by_cases hb:l.length<=16
 ·have hR:yS zl litF l=l.all (z6D zl litF):=by simp [yS,hb]
  rw [hR];generalize hR2:l.all (z6D zl litF)=R;refine z9.run H.i74 H.mixed Z Z ?_;refine fR Z ?_;refine lM Z Z Z ?_;refine fM Z ?_;refine Run.zj Z Z (by simp;omega) ?_;refine fR Z ?_;refine zx l (fun i (_:Unit)=>{env:=[(0,.t (.lst (l.map Dir.enc))),(3,.t (.int .i64 i))],s:=⟨[],0⟩}) (fun r i _=>(l.drop i).all (z6D zl litF)=R) 0 () Z hR2 Z Z Z ?_ ?_
  ·intro _ hinv;rw [wC] at hinv;subst hinv;refine fR Z ?_;refine lM Z Z Z ?_;refine fM Z ?_;refine Run.zj Z Z (by simp) ?_;refine fR Z ?_;refine Run.fin Z (z5.go ?_);exact .t Z
  ·intro i d r _ h1 hi hd hinv ih;have hdk:=ho d (zMG h1);have hal:=hdk.l;have hn:=K.nm d.name;rw [WE h1] at hinv;unfold z6D at hinv;refine fR Z ?_;refine lM Z Z Z ?_;refine fM Z ?_;refine Run.zm Z Z (by simp;omega) ?_;refine fR Z ?_;refine Mid.ze Z Z Z h1 Z Z ?_;refine fM Z ?_
   cases hx:zl d.name with
   |false=>
    rw [hx] at hn hinv;simp only [Bool.false_and] at hinv;subst hinv;refine Mid.call (hn) Z Z Z Z ?_;refine fM Z ?_;refine elG Z Z Z Z h1 Z Z ?_;refine fM Z ?_;refine lMG Z Z Z Z ?_;refine fM Z ?_;refine Run.zm Z Z Z ?_;refine fR Z ?_;refine Run.fin Z (z5.go ?_);exact .t Z
   |true=>
    rw [hx] at hn hinv;simp only [Bool.true_and] at hinv;refine Mid.call (hn) Z Z Z Z ?_;refine fM Z ?_;refine elG Z Z Z Z h1 Z Z ?_;refine fM Z ?_;refine lMG Z Z Z Z ?_;refine fM Z ?_;by_cases ha:d.args.length<=16
    ·rw [decide_eq_true ha,Bool.true_and] at hinv;refine Run.zj Z Z (by simp;omega) ?_;refine fR Z ?_;refine zx d.args (fun j (_:Unit)=>{env:=[(0,.t (.lst (l.map Dir.enc))),(3,.t (.int .i64 i)),(4,.t (.int .i64 j))],s:=⟨[],0⟩}) (fun r2 j _=>((d.args.drop j).all (zcL zl litF)&&(l.drop (i+1)).all (z6D zl litF))=R) 0 () Z hinv Z Z Z ?_ ?_
     ·intro _ hinv2;rw [wC,Bool.true_and] at hinv2;refine fR Z ?_;refine Mid.ze Z Z Z h1 Z Z ?_;refine fM Z ?_;refine lM Z Z Z ?_;refine fM Z ?_;refine Run.zj Z Z (by simp) ?_;refine fR Z ?_;refine aL Z Z Z Z Z ?_;refine fM Z ?_;exact zk 0 Z (ih () hinv2) Z Z Z
     ·intro j a r2 _ k1 hj kd hinv2 ih2;have hak:=hdk.a a (zMG k1);have hn2:=K.nm a.name;have hl2:=K.lit a.val hak;have hc2:=z2p H a.val hak;rw [WE k1] at hinv2;unfold zcL at hinv2;generalize zl a.name=b1 at hn2 hinv2;generalize litF a.val=b2 at hl2 hinv2;generalize yp a.val=b3 at hc2 hinv2;refine fR Z ?_;refine Mid.ze Z Z Z h1 Z Z ?_;refine fM Z ?_;refine lM Z Z Z ?_;refine fM Z ?_;refine Run.zm Z Z (by simp;omega) ?_;refine fR Z ?_;refine Mid.ze Z Z Z h1 Z Z ?_;refine fM Z ?_;refine Mid.ze Z Z Z k1 Z Z ?_;refine fM Z ?_;refine Mid.call (hn2) Z Z Z Z ?_;refine fM Z ?_;refine caG Z Z (fun hg=>⟨_,rfl,hl2,rfl⟩) Z Z ?_;refine fM Z ?_;refine caG Z Z (fun hg=>⟨_,rfl,hc2,rfl⟩) Z Z ?_;refine fM Z ?_
      cases hb:(b1&&b2&&b3) with
      |true=>
       simp only [Bool.and_eq_true] at hb;obtain ⟨⟨rfl,rfl⟩,rfl⟩:=hb;refine Run.zj Z Z Z ?_;refine fR Z ?_;refine aL Z Z Z Z Z ?_;refine fM Z ?_;exact zk 0 Z (ih2 () hinv2) Z Z Z
      |false=>
       rw [hb] at hinv2;simp only [Bool.false_and] at hinv2;subst hinv2
       refine Run.zm Z Z (by revert hb;cases b1<;>cases b2<;>cases b3<;>simp) ?_
       refine fR Z ?_;refine Run.fin Z (z5.go ?_);exact .t Z
    ·rw [decide_eq_false ha,Bool.false_and,Bool.false_and] at hinv;subst hinv;refine Run.zm Z Z (by simp;omega) ?_;refine fR Z ?_;refine Run.fin Z (z5.go ?_);exact .t Z
 ·have hR:yS zl litF l=false:=by simp [yS];omega
  rw [hR];refine z9.run H.i74 H.mixed Z Z ?_;refine fR Z ?_;refine lM Z Z Z ?_;refine fM Z ?_;refine Run.zm Z Z (by simp;omega) ?_;refine fR Z ?_;refine Run.fin Z (z5.go ?_);exact .t Z
end Go.GB.C29
namespace Go.GB.C29
open Go.GB
variable {P:Program} {zl:Str->Bool} {litF:Val->Bool} {refF:Ref->Bool}
theorem Yq (H:PrR P) (K:R6 P zl litF refF) (l:List Input) (hl:l.length<=140737488355328) (ho:∀d,d∈l->d.Ok):z9 P 77 [.t (.lst (l.map Input.enc))] ⟨[],0⟩ {v:= .t (.bool (Yk zl litF refF l))}:=by
 by_cases hb:l.length<=16
 ·have hR:Yk zl litF refF l=l.all (inR zl litF refF):=by simp [Yk,hb]
  rw [hR];generalize hR2:l.all (inR zl litF refF)=R;refine z9.run H.i77 H.mixed Z Z ?_;refine fR Z ?_;refine lM Z Z Z ?_;refine fM Z ?_;refine Run.zj Z Z (by simp;omega) ?_;refine fR Z ?_;refine zx l (fun i (_:Unit)=>{env:=[(0,.t (.lst (l.map Input.enc))),(3,.t (.int .i64 i))],s:=⟨[],0⟩}) (fun r i _=>(l.drop i).all (inR zl litF refF)=R) 0 () Z hR2 Z Z Z ?_ ?_
  ·intro _ hinv;rw [wC] at hinv;subst hinv;refine fR Z ?_;refine lM Z Z Z ?_;refine fM Z ?_;refine Run.zj Z Z (by simp) ?_;refine fR Z ?_;refine Run.fin Z (z5.go ?_);exact .t Z
  ·intro i x r _ h1 hi hd hinv ih;have hxk:=ho x (zMG h1);have hn:=K.nm x.name;have hr:=K.rf x.ty hxk.t;have hds:=z0J H K x.zS hxk.l hxk.d;have hl2:=K.lit x.yI hxk.v;have hc2:=z2p H x.yI hxk.v;have hz2:=zbn H x.yI;rw [WE h1] at hinv;unfold inR at hinv;generalize zl x.name=b1 at hn hinv;generalize refF x.ty=b2 at hr hinv;generalize yS zl litF x.zS=b3 at hds hinv;generalize litF x.yI=b4 at hl2 hinv;generalize yp x.yI=b5 at hc2 hinv;generalize z6S x.yI=b6 at hz2 hinv;refine fR Z ?_;refine lM Z Z Z ?_;refine fM Z ?_;refine Run.zm Z Z (by simp;omega) ?_;refine fR Z ?_;refine Mid.ze Z Z Z h1 Z Z ?_;refine fM Z ?_;refine Mid.call (hn) Z Z Z Z ?_;refine fM Z ?_;refine caG Z Z (fun hg=>⟨_,rfl,hr,rfl⟩) Z Z ?_;refine fM Z ?_;refine caG Z Z (fun hg=>⟨_,rfl,hds,rfl⟩) Z Z ?_;refine fM Z ?_
   cases hb2:(b1&&b2&&b3) with
   |false=>
    rw [hb2,Bool.false_and,Bool.false_and] at hinv;subst hinv
    refine Run.zm Z Z (by revert hb2;cases b1<;>cases b2<;>cases b3<;>simp) ?_
    refine fR Z ?_;refine Run.fin Z (z5.go ?_);exact .t Z
   |true=>
    rw [hb2,Bool.true_and] at hinv;simp only [Bool.and_eq_true] at hb2;obtain ⟨⟨rfl,rfl⟩,rfl⟩:=hb2;refine Run.zj Z Z Z ?_;refine fR Z ?_;refine caG Z Z (fun hg=>⟨_,rfl,hl2,rfl⟩) Z Z ?_;refine fM Z ?_;refine caG Z Z (fun hg=>⟨_,rfl,hc2,rfl⟩) Z Z ?_;refine fM Z ?_;refine caG Z Z (fun hg=>⟨_,rfl,hz2,rfl⟩) Z Z ?_;refine fM Z ?_;refine Run.cond Z Z (fun h=>?_) (fun h=>?_)
    ·have e:(if x.has=true then b4&&b5 else b6)=false:=by
      revert h;clear hinv;generalize x.has=b7;cases b7<;>cases b4<;>cases b5<;>cases b6<;>simp
     rw [e,Bool.false_and] at hinv;subst hinv;refine fR Z ?_;refine Run.fin Z (z5.go ?_);exact .t Z
    ·have e:(if x.has=true then b4&&b5 else b6)=true:=by
      revert h;clear hinv;generalize x.has=b7;cases b7<;>cases b4<;>cases b5<;>cases b6<;>simp
     rw [e,Bool.true_and] at hinv;refine fR Z ?_;refine aL Z Z Z Z Z ?_;refine fM Z ?_;exact zk 0 Z (ih () hinv) Z Z Z
 ·have hR:Yk zl litF refF l=false:=by simp [Yk];omega
  rw [hR];refine z9.run H.i77 H.mixed Z Z ?_;refine fR Z ?_;refine lM Z Z Z ?_;refine fM Z ?_;refine Run.zm Z Z (by simp;omega) ?_;refine fR Z ?_;refine Run.fin Z (z5.go ?_);exact .t Z
theorem qx (H:PrR P) (K:R6 P zl litF refF) (l:List Field) (hl:l.length<=140737488355328) (ho:∀d,d∈l->d.Ok):z9 P 75 [.t (.lst (l.map Field.enc))] ⟨[],0⟩ {v:= .t (.bool (YF zl litF refF l))}:=by
 by_cases hb:1<=l.length/\l.length<=64
 ·have hR:YF zl litF refF l=l.all (z04 zl litF refF):=by simp [YF,hb.1,hb.2]
  rw [hR];generalize hR2:l.all (z04 zl litF refF)=R;refine z9.run H.i75 H.mixed Z Z ?_;refine fR Z ?_;refine lM Z Z Z ?_;refine fM Z ?_;refine lMG Z Z Z Z ?_;refine fM Z ?_;refine Run.zj Z Z (by simp;omega) ?_;refine fR Z ?_;refine zx l (fun i (_:Unit)=>{env:=[(0,.t (.lst (l.map Field.enc))),(3,.t (.int .i64 i))],s:=⟨[],0⟩}) (fun r i _=>(l.drop i).all (z04 zl litF refF)=R) 0 () Z hR2 Z Z Z ?_ ?_
  ·intro _ hinv;rw [wC] at hinv;subst hinv;refine fR Z ?_;refine lM Z Z Z ?_;refine fM Z ?_;refine Run.zj Z Z (by simp) ?_;refine fR Z ?_;refine Run.fin Z (z5.go ?_);exact .t Z
  ·intro i x r _ h1 hi hd hinv ih;have hxk:=ho x (zMG h1);have hn:=K.nm x.name;have hr:=K.rf x.ty hxk.t;have hds:=z0J H K x.zS hxk.l hxk.d;have hin:=Yq H K x.args hxk.al hxk.a;rw [WE h1] at hinv;unfold z04 at hinv;generalize zl x.name=b1 at hn hinv;generalize refF x.ty=b2 at hr hinv;generalize yS zl litF x.zS=b3 at hds hinv;generalize Yk zl litF refF x.args=b4 at hin hinv;refine fR Z ?_;refine lM Z Z Z ?_;refine fM Z ?_;refine Run.zm Z Z (by simp;omega) ?_;refine fR Z ?_;refine Mid.ze Z Z Z h1 Z Z ?_;refine fM Z ?_;refine Mid.call (hn) Z Z Z Z ?_;refine fM Z ?_;refine elG Z Z Z Z h1 Z Z ?_;refine fM Z ?_;refine caG Z Z (fun hg=>⟨_,rfl,hin,rfl⟩) Z Z ?_;refine fM Z ?_;refine elG Z Z Z Z h1 Z Z ?_;refine fM Z ?_;refine caG Z Z (fun hg=>⟨_,rfl,hr,rfl⟩) Z Z ?_;refine fM Z ?_;refine elG Z Z Z Z h1 Z Z ?_;refine fM Z ?_;refine caG Z Z (fun hg=>⟨_,rfl,hds,rfl⟩) Z Z ?_;refine fM Z ?_
   cases hb2:(b1&&b4&&b2&&b3) with
   |false=>
    rw [hb2,Bool.false_and] at hinv;subst hinv
    refine Run.zm Z Z (by revert hb2;cases b1<;>cases b2<;>cases b3<;>cases b4<;>simp) ?_
    refine fR Z ?_;refine Run.fin Z (z5.go ?_);exact .t Z
   |true=>
    rw [hb2,Bool.true_and] at hinv;simp only [Bool.and_eq_true] at hb2;obtain ⟨⟨⟨rfl,rfl⟩,rfl⟩,rfl⟩:=hb2;refine Run.zj Z Z Z ?_;refine fR Z ?_;refine aL Z Z Z Z Z ?_;refine fM Z ?_;exact zk 0 Z (ih () hinv) Z Z Z
 ·have hR:YF zl litF refF l=false:=by
   simp only [YF,Bool.and_eq_false_iff,decide_eq_false_iff_not];omega
  rw [hR];refine z9.run H.i75 H.mixed Z Z ?_;refine fR Z ?_;refine lM Z Z Z ?_;refine fM Z ?_;refine lMG Z Z Z Z ?_;refine fM Z ?_;refine Run.zm Z Z (by simp;omega) ?_;refine fR Z ?_;refine Run.fin Z (z5.go ?_);exact .t Z
theorem W7 (H:PrR P) (K:R6 P zl litF refF) (l:List ZF) (hl:l.length<=140737488355328) (ho:∀d,d∈l->d.Ok) (plain:Bool):z9 P 76 [.t (.lst (l.map ZF.enc)),.t (.bool plain)] ⟨[],0⟩ {v:= .t (.bool (yF zl litF l plain))}:=by
 by_cases hb:1<=l.length/\l.length<=64
 ·have hR:yF zl litF l plain=l.all (z8C zl litF plain):=by simp [yF,hb.1,hb.2]
  rw [hR];generalize hR2:l.all (z8C zl litF plain)=R;refine z9.run H.i76 H.mixed Z Z ?_;refine fR Z ?_;refine lM Z Z Z ?_;refine fM Z ?_;refine lMG Z Z Z Z ?_;refine fM Z ?_;refine Run.zj Z Z (by simp;omega) ?_;refine fR Z ?_;refine zx l (fun i (_:Unit)=>{env:=[(0,.t (.lst (l.map ZF.enc))),(1,.t (.bool plain)),(5,.t (.int .i64 i))],s:=⟨[],0⟩}) (fun r i _=>(l.drop i).all (z8C zl litF plain)=R) 0 () Z hR2 Z Z Z ?_ ?_
  ·intro _ hinv;rw [wC] at hinv;subst hinv;refine fR Z ?_;refine lM Z Z Z ?_;refine fM Z ?_;refine Run.zj Z Z (by simp) ?_;refine fR Z ?_;refine Run.fin Z (z5.go ?_);exact .t Z
  ·intro i x r _ h1 hi hd hinv ih;have hxk:=ho x (zMG h1);have hn:=K.nm x.name;have hds:=z0J H K x.zS hxk.l hxk.d;rw [WE h1] at hinv;unfold z8C at hinv;generalize zl x.name=b1 at hn hinv;generalize yS zl litF x.zS=b3 at hds hinv;refine fR Z ?_;refine lM Z Z Z ?_;refine fM Z ?_;refine Run.zm Z Z (by simp;omega) ?_;refine fR Z ?_;refine Mid.ze Z Z Z h1 Z Z ?_;refine fM Z ?_;refine Mid.call (hn) Z Z Z Z ?_;refine fM Z ?_;refine elG Z Z Z Z h1 Z Z ?_;refine fM Z ?_;refine caG Z Z (fun hg=>⟨_,rfl,hds,rfl⟩) Z Z ?_;refine fM Z ?_;refine elG Z Z Z Z h1 Z Z ?_;refine fM Z ?_;refine lMG Z Z Z Z ?_;refine fM Z ?_;refine Run.cond Z Z (fun h=>?_) (fun h=>?_)
   ·have e:(b1&&b3&&!(plain&&decide (x.zS.length>0)))=false:=by
     revert h;clear hinv;rw [show decide ((x.zS.length:Int)>0)=decide (x.zS.length>0) from decide_eq_decide.2 (by omega)];generalize decide (x.zS.length>0)=b7;cases b7<;>cases b1<;>cases b3<;>cases plain<;>simp
    rw [e,Bool.false_and] at hinv;subst hinv;refine fR Z ?_;refine Run.fin Z (z5.go ?_);exact .t Z
   ·have e:(b1&&b3&&!(plain&&decide (x.zS.length>0)))=true:=by
     revert h;clear hinv;rw [show decide ((x.zS.length:Int)>0)=decide (x.zS.length>0) from decide_eq_decide.2 (by omega)];generalize decide (x.zS.length>0)=b7;cases b7<;>cases b1<;>cases b3<;>cases plain<;>simp
    rw [e,Bool.true_and] at hinv;refine fR Z ?_;refine aL Z Z Z Z Z ?_;refine fM Z ?_;exact zk 0 Z (ih () hinv) Z Z Z
 ·have hR:yF zl litF l plain=false:=by
   simp only [yF,Bool.and_eq_false_iff,decide_eq_false_iff_not];omega
  rw [hR];refine z9.run H.i76 H.mixed Z Z ?_;refine fR Z ?_;refine lM Z Z Z ?_;refine fM Z ?_;refine lMG Z Z Z Z ?_;refine fM Z ?_;refine Run.zm Z Z (by simp;omega) ?_;refine fR Z ?_;refine Run.fin Z (z5.go ?_);exact .t Z
end Go.GB.C29
namespace Go.GB.C29
open Go.GB
variable {P:Program} {zl:Str->Bool} {litF:Val->Bool} {refF:Ref->Bool}
section
variable (zl litF refF)
def z7e (d:Def):Bool:=
 if d.kind=1 then YF zl litF refF d.fields&&decide (d.members.length=0)&&decide (d.zH.length=0)
 else if d.kind=2 then decide (d.implements.length=0)&&YF zl litF refF d.fields&&decide (d.members.length=0)&&decide (d.zH.length=0)
 else if d.kind=3 then decide (d.implements.length=0)&&decide (d.fields.length=0)&&yF zl litF d.members true&&decide (d.zH.length=0)
 else if d.kind=4 then decide (d.implements.length=0)&&decide (d.fields.length=0)&&yF zl litF d.members false&&decide (d.zH.length=0)
 else if d.kind=5 then decide (d.implements.length=0)&&decide (d.fields.length=0)&&decide (d.members.length=0)&&decide (d.zH.length>0)&&Yk zl litF refF d.zH
 else false
def z2d (d:Def):Bool:=zl d.name&&yS zl litF d.zS&&decide (d.implements.length<=64)&&d.implements.all zl&&z7e zl litF refF d
def z6E (ds:List Def):Bool:=decide (1<=ds.length)&&decide (ds.length<=64)&&ds.all (z2d zl litF refF)
end
theorem zcq (H:PrR P) (K:R6 P zl litF refF) (d:Def) (hd:d.Ok):z9 P 43 [d.v] ⟨[],0⟩ {v:= .t (.bool (z2d zl litF refF d))}:=by
 have hil:=hd.il;have hn:=K.nm d.name;have hds:=z0J H K d.zS hd.dl hd.d;have hfl:=qx H K d.fields hd.fl hd.f;have hm1:=W7 H K d.members hd.ml hd.m true;have hm2:=W7 H K d.members hd.ml hd.m false;have hin:=Yq H K d.zH hd.nl hd.n;have hR:z2d zl litF refF d=(zl d.name&&yS zl litF d.zS&&decide (d.implements.length<=64)&&d.implements.all zl&&z7e zl litF refF d):=rfl;unfold z7e at hR;generalize z2d zl litF refF d=R at hR⊢;generalize hb1:zl d.name=b1 at hn hR;generalize yS zl litF d.zS=b2 at hds hR;generalize YF zl litF refF d.fields=b3 at hfl hR;generalize yF zl litF d.members true=b4 at hm1 hR;generalize yF zl litF d.members false=b5 at hm2 hR;generalize Yk zl litF refF d.zH=b6 at hin hR;refine z9.run H.i43 H.mixed Z Z ?_;refine fR Z ?_;refine Mid.call (hn) Z Z Z Z ?_;refine fM Z ?_;refine caG Z Z (fun hg=>⟨_,rfl,hds,rfl⟩) Z Z ?_;refine fM Z ?_;refine lMG Z Z Z Z ?_;refine fM Z ?_
 have z0:∀n:Nat,((n:Int)==0)=decide (n=0):=fun n=>by rw [Bool.eq_iff_iff];simp
 have z1:∀n:Nat,decide ((n:Int)>0)=decide (n>0):=fun n=>decide_eq_decide.2 (by omega)
 have z2:∀n:Nat,decide ((n:Int)>64)=!decide (n<=64):=fun n=>by rw [←decide_not];exact decide_eq_decide.2 (by omega)
 refine Run.cond Z Z (fun h=>?_) (fun h=>?_)
 ·have e:(b1&&b2&&decide (d.implements.length<=64))=false:=by
   revert h;rw [z2];generalize decide (d.implements.length<=64)=b7;cases b7<;>cases b1<;>cases b2<;>simp
  rw [e] at hR;simp only [Bool.false_and] at hR;subst hR;refine fR Z ?_;refine Run.fin Z (z5.go ?_);exact .t Z
 ·have e:(b1&&b2&&decide (d.implements.length<=64))=true:=by
   revert h;rw [z2];generalize decide (d.implements.length<=64)=b7;cases b7<;>cases b1<;>cases b2<;>simp
  rw [e] at hR;simp only [Bool.true_and] at hR;refine fR Z ?_;refine zx d.implements (fun i (_:Unit)=>{env:=[(1,.ptr 0 0),(3,.t (.int .i64 i))],s:=⟨[(0,(TCo d))],1⟩}) (fun r i _=>d.implements.all zl=(d.implements.drop i).all zl) 1 () Z Z Z Z Z ?_ ?_
  ·intro _ hinv;rw [wC] at hinv;rw [hinv,Bool.true_and] at hR;refine fR Z ?_;refine lM Z Z Z ?_;refine fM Z ?_;refine Run.zj Z Z (by simp) ?_;refine fR Z ?_;refine lM Z Z Z ?_;refine fM Z ?_;refine lM Z Z Z ?_;refine fM Z ?_;refine lM Z Z Z ?_;refine fM Z ?_;refine lM Z Z Z ?_;refine fM Z ?_;refine Run.cond Z Z (fun k1=>?_) (fun k1=>?_)
   ·have h':d.kind=1:=by simpa using k1
    rw [if_pos h'] at hR;refine fR Z ?_;refine Mid.call (hfl) Z Z Z Z ?_;refine fM Z ?_;refine Run.fin Z (z5.go ?_);exact .t (by rw [hR];try simp only [z0,z1])
   have n1:¬ d.kind=1:=by simpa using k1
   rw [if_neg n1] at hR;refine fR Z ?_;refine Run.cond Z Z (fun k1=>?_) (fun k1=>?_)
   ·have h':d.kind=2:=by simpa using k1
    rw [if_pos h'] at hR;refine fR Z ?_;refine caG Z Z (fun hg=>⟨_,rfl,hfl,rfl⟩) Z Z ?_;refine fM Z ?_;refine Run.fin Z (z5.go ?_);exact .t (by rw [hR];try simp only [z0,z1])
   have n2:¬ d.kind=2:=by simpa using k1
   rw [if_neg n2] at hR;refine fR Z ?_;refine Run.cond Z Z (fun k1=>?_) (fun k1=>?_)
   ·have h':d.kind=3:=by simpa using k1
    rw [if_pos h'] at hR;refine fR Z ?_;refine caG Z Z (fun hg=>⟨_,rfl,hm1,rfl⟩) Z Z ?_;refine fM Z ?_;refine Run.fin Z (z5.go ?_);exact .t (by rw [hR];try simp only [z0,z1])
   have n3:¬ d.kind=3:=by simpa using k1
   rw [if_neg n3] at hR;refine fR Z ?_;refine Run.cond Z Z (fun k1=>?_) (fun k1=>?_)
   ·have h':d.kind=4:=by simpa using k1
    rw [if_pos h'] at hR;refine fR Z ?_;refine caG Z Z (fun hg=>⟨_,rfl,hm2,rfl⟩) Z Z ?_;refine fM Z ?_;refine Run.fin Z (z5.go ?_);exact .t (by rw [hR];try simp only [z0,z1])
   have n4:¬ d.kind=4:=by simpa using k1
   rw [if_neg n4] at hR;refine fR Z ?_;refine Run.cond Z Z (fun k1=>?_) (fun k1=>?_)
   ·have h':d.kind=5:=by simpa using k1
    rw [if_pos h'] at hR;refine fR Z ?_;refine lMG Z Z Z Z ?_;refine fM Z ?_;refine caG Z Z (fun hg=>⟨_,rfl,hin,rfl⟩) Z Z ?_;refine fM Z ?_;refine Run.fin Z (z5.go ?_);exact .t (by rw [hR];try simp only [z0,z1])
   have n5:¬ d.kind=5:=by simpa using k1
   rw [if_neg n5] at hR;refine fR Z ?_;refine Run.fin Z (z5.go ?_);exact .t (by rw [hR];try simp only [z0,z1])
  ·intro i x r _ h1 hi hd2 hinv ih;have hc:=K.nm x;rw [WE h1] at hinv;generalize zl x=b8 at hc hinv;refine fR Z ?_;refine lM Z Z Z ?_;refine fM Z ?_;refine Run.zm Z Z (by simp;omega) ?_;refine fR Z ?_;refine Mid.ze Z Z Z h1 Z Z ?_;refine fM Z ?_;refine Mid.call (hc) Z Z Z Z ?_;refine fM Z ?_
   cases b8 with
   |false=>
    rw [Bool.false_and] at hinv;rw [hinv,Bool.false_and] at hR;subst hR;refine Run.zm Z Z Z ?_;refine fR Z ?_;refine Run.fin Z (z5.go ?_);exact .t Z
   |true=>
    rw [Bool.true_and] at hinv;refine Run.zj Z Z Z ?_;refine fR Z ?_;refine aL Z Z Z Z Z ?_;refine fM Z ?_;exact zk 1 Z (ih () hinv) Z Z Z
theorem Qf (H:PrR P) (K:R6 P zl litF refF) (ds:List Def) (hD:Zd ds):z9 P 22 [yd ds] ⟨[],0⟩ {v:= .t (.bool (z6E zl litF refF ds))}:=by
 by_cases hb:1<=ds.length/\ds.length<=64
 ·have hR:z6E zl litF refF ds=ds.all (z2d zl litF refF):=by simp [z6E,hb.1,hb.2]
  rw [hR];generalize hR2:ds.all (z2d zl litF refF)=R;refine z9.run H.i22 H.mixed Z Z ?_;refine fR Z ?_;refine lM Z Z Z ?_;refine fM Z ?_;refine lMG Z Z Z Z ?_;refine fM Z ?_;refine Run.zj Z Z (by simp;omega) ?_;refine fR Z ?_;refine zx ds (fun i (_:Unit)=>{env:=[(1,.ptr 0 0),(3,.t (.int .i64 i))],s:=⟨[(0,.cells [.t (.lst (ds.map Def.enc))])],1⟩}) (fun r i _=>(ds.drop i).all (z2d zl litF refF)=R) 1 () Z hR2 Z Z Z ?_ ?_
  ·intro _ hinv;rw [wC] at hinv;subst hinv;refine fR Z ?_;refine lM Z Z Z ?_;refine fM Z ?_;refine Run.zj Z Z (by simp) ?_;refine fR Z ?_;refine Run.fin Z (z5.go ?_);exact .t Z
  ·intro i x r _ h1 hi hd hinv ih;have hc:=zcq H K x (hD.d x (zMG h1));rw [WE h1] at hinv;generalize z2d zl litF refF x=b1 at hc hinv;refine fR Z ?_;refine lM Z Z Z ?_;refine fM Z ?_;refine Run.zm Z Z (by simp;omega) ?_;refine fR Z ?_;refine Mid.ze Z Z Z h1 Z Z ?_;refine fM Z ?_;refine Mid.call (hc) Z Z Z Z ?_;refine fM Z ?_
   cases b1 with
   |false=>
    rw [Bool.false_and] at hinv;subst hinv;refine Run.zm Z Z Z ?_;refine fR Z ?_;refine Run.fin Z (z5.go ?_);exact .t Z
   |true=>
    rw [Bool.true_and] at hinv;refine Run.zj Z Z Z ?_;refine fR Z ?_;refine aL Z Z Z Z Z ?_;refine fM Z ?_;exact zk 1 Z (ih () hinv) Z Z Z
 ·have hR:z6E zl litF refF ds=false:=by
   simp only [z6E,Bool.and_eq_false_iff,decide_eq_false_iff_not];omega
  rw [hR];refine z9.run H.i22 H.mixed Z Z ?_;refine fR Z ?_;refine lM Z Z Z ?_;refine fM Z ?_;refine lMG Z Z Z Z ?_;refine fM Z ?_;refine Run.zm Z Z (by simp;omega) ?_;refine fR Z ?_;refine Run.fin Z (z5.go ?_);exact .t Z
end Go.GB.C29
namespace Go.GB
def LeZ (s:S) (m m':Nat) (x x':V):Prop:=∀(Λ:L) (v:Value),m<=Λ.nxt->Z4 Λ s->zn Λ v x->zn (Λ.cut m m') v x'
theorem LeZ.le {s:S} {m m':Nat} {x x':V} (hm:m<=m') (h:LeX m m' x x'):LeZ s m m' x x':=fun _ _ h1 _ h2=>h.cut hm h1 h2
inductive z5T (s:S) (m m':Nat):List V->List V->Prop
 |nil:z5T s m m' [] []
 |cons {x y:V} {xs ys:List V} (h:LeZ s m m' x y) (t:z5T s m m' xs ys):z5T s m m' (x::xs) (y::ys)
theorem z5T.spec {s:S} {m m':Nat} {xs ys:List V} (h:z5T s m m' xs ys):xs.length=ys.length/\∀(j:Nat) (c d:V),xs[j]?=some c->ys[j]?=some d->LeZ s m m' c d:=by
 induction h with
 |nil=>exact ⟨rfl,fun j c d h=>by simp at h⟩
 |cons h _ ih=>
  refine ⟨by simp [ih.1],fun j c d h1 h2=>?_⟩
  cases j with
  |zero=>simp at h1 h2;subst h1;subst h2;exact h
  |succ j=>exact ih.2 j c d (by simpa using h1) (by simpa using h2)
inductive z7Q (s:S) (m m':Nat):z3->z3->Prop
 |le {o o':z3} (h:LeO m m' o o'):z7Q s m m' o o'
 |cells {cs ds:List V} (h:z5T s m m' cs ds):z7Q s m m' (.cells cs) (.cells ds)
 |gro {r:Nat} {cs ds:List V} (h:z5T s m m' cs ds):z7Q s m m' (.gro r cs) (.gro r ds)
 |yh {ns ms:List Nat} (h:∀i:Nat,(ns[i]?).getD 0=(ms[i]?).getD 0):z7Q s m m' (.yh ns) (.yh ms)
def z6w (s:S) (m m':Nat) (e:List (Nat×V)):List (Nat×V)->Prop
 |[]=>True
 |(t,x)::r=>LeZ s m m' (look e t) x/\z6w s m m' e r
def z4Z (s:S) (m m':Nat):List (Nat×z3)->Prop
 |[]=>True
 |(k,o)::r=>((k<m/\∃o',zi s.sto k=some o'/\z7Q s m m' o' o)∨(m<=k/\k<m'/\o.fresh=true))/\z4Z s m m' r
theorem z6w.at {s:S} {m m':Nat} {e:List (Nat×V)}:∀{e':List (Nat×V)},z6w s m m' e e'->∀t,LeZ s m m' (look e t) (look e' t)
 |[],_,t=>fun _ _ _ _ _=> .top
 |(k,x)::r,h,t=>by
  obtain ⟨h1,h2⟩:=h;by_cases e':k=t
  ·subst e';simpa [look,zi] using h1
  ·have:=z6w.at h2 t;simpa [look,zi,e'] using this
theorem z4Z.at {s:S} {m m':Nat}:∀{s':List (Nat×z3)},z4Z s m m' s'->∀k o,zi s' k=some o->
  (k<m/\∃o',zi s.sto k=some o'/\z7Q s m m' o' o)∨(m<=k/\k<m'/\o.fresh=true)
 |[],_,k,o,h=>by simp [zi] at h
 |(j,x)::r,h,k,o,hk=>by
  obtain ⟨h1,h2⟩:=h;by_cases e':j=k
  ·subst e';simp [zi] at hk;subst hk;exact h1
  ·simp only [zi,e',if_false] at hk;exact z4Z.at h2 k o hk
theorem Z4.z0t {Λ:L} {s:S} (h:Z4 Λ s) {s':S} {m m':Nat} (hm0:m<=Λ.nxt) (hm':m<=m') (hs:z4Z s m m' s'.sto):Z4 (Λ.cut m m') s':=by
 have h0:Z4 (Λ.cut m m') ⟨[],0⟩:=h.WJ (s':=⟨[],0⟩) hm0 hm' trivial;refine ⟨fun k o hk=>?_,h0.inj,h0.new,h0.bnd,h0.frz,h0.YO,h0.YM,h0.z0H⟩
 rcases hs.at k o hk with ⟨hkm,o',ho',hle⟩|hfr
 ·cases hle with
  |le hle=>exact (h.WJ (s':=⟨[(k,o)],0⟩) hm0 hm' ⟨.inl ⟨hkm,o',ho',hle⟩,trivial⟩).sto k o (by simp [zi])
  |cells hle=>
   refine ⟨Nat.lt_of_lt_of_le hkm hm',?_⟩;obtain ⟨b,arr,e,e1,e2,e3,e4⟩:=(h.sto k _ ho').2;obtain ⟨q1,q2⟩:=hle.spec
   refine ⟨b,arr,e,ZY e1 hkm,e2,by rw [e3];exact q1,fun j v d a1 a2=>?_⟩
   have hlt:j<_:=(List.getElem?_eq_some_iff.1 a2).1;rw [←q1] at hlt;have hc:=List.getElem?_eq_getElem hlt;exact q2 j _ d hc a2 Λ v hm0 h (e4 j v _ a1 hc)
  |gro hle=>
   refine ⟨Nat.lt_of_lt_of_le hkm hm',?_⟩;obtain ⟨g0,hr⟩:=(h.sto k _ ho').2;obtain ⟨q1,q2⟩:=hle.spec
   refine ⟨by simp [L.cut,hkm,g0],?_⟩
   rcases hr with ⟨e1,e2⟩|⟨b,arr,e,⟨i,e1,e1'⟩,e2,e3,e4⟩
   ·subst e1;have:=List.length_eq_zero_iff.1 q1.symm;exact .inl ⟨this,fun b i hb=>e2 b i (zQ hb).1⟩
   ·refine .inr ⟨b,arr,e,⟨i,Yc e1 hkm,fun b' i' h'=>e1' b' i' (zQ h').1⟩,e2,by rw [←q1];exact e3,fun j v d a1 a2=>?_⟩
    have hlt:j<_:=(List.getElem?_eq_some_iff.1 a2).1;rw [←q1] at hlt;have hc:=List.getElem?_eq_getElem hlt;exact q2 j _ d hc a2 Λ v hm0 h (e4 j v _ a1 hc)
  |yh hle=>
   refine ⟨Nat.lt_of_lt_of_le hkm hm',fun i=>?_⟩;have g:=(h.sto k _ ho').2 i;show (Λ.cut m m').frf k i=_;rw [←hle i];simp only [L.cut,hkm,if_true];exact g
 ·exact (h.WJ (s':=⟨[(k,o)],0⟩) hm0 hm' ⟨.inr hfr,trivial⟩).sto k o (by simp [zi])
theorem Rel.z0t {C:Ctx} {Λ:L} {st:St} {a:Act} (h:Rel C Λ st a) {st':St} {m:Nat} (hm:C.Λ.nxt<=m) (hm0:m<=Λ.nxt) (hm':m<=st'.s.nxt)
  (he:z6w st.s m st'.s.nxt st.env st'.env) (hs:z4Z st.s m st'.s.nxt st'.s.sto):Rel C (Λ.cut m st'.s.nxt) st' a:=
 ⟨h.kp.cut hm hm',h.size,h.defers,fun t=>he.at t Λ _ hm0 h.s (h.env t),h.s.z0t hm0 hm' hs⟩
section
variable {P:Program} {n m:Nat} {R:St->Prop} {Q:YX->St->Prop} {st:St}
theorem Sat.z0t {c:zW} {st':St} (k:Nat) (h:Sat P n m c st' Q) (h1:m<=k) (h2:k<=st.s.nxt) (h3:k<=st'.s.nxt) (he:z6w st.s k st'.s.nxt st.env st'.env) (hs:z4Z st.s k st'.s.nxt st'.s.sto):Sat P n m c st Q:=by
 intro code e1 e2 e3 C Λ a e4 e5 e6 e7 e8;exact h code e1 e2 e3 C (Λ.cut k st'.s.nxt) a e4 e5 e6 (e7.z0t (by omega) (by omega) h3 he hs) Z
theorem Run.z0t {k k':List It} {c:zW} {st st':St} (j:Nat) (hk:ZT 200 k= .c c::k') (h:Run P n m R (.c c::k') st') (h1:Nat.ble m j=true) (h2:Nat.ble j st.s.nxt=true) (h3:Nat.ble j st'.s.nxt=true) (he:z6w st.s j st'.s.nxt st.env st'.env) (hs:z4Z st.s j st'.s.nxt st'.s.sto):Run P n m R k st:=
 Run.adv 200 hk (by
  simp only [Run,ZO] at h⊢
  exact Sat.z0t j h (zLB h1) (zLB h2) (zLB h3) he hs)
end
section
variable {P:Program} {n m:Nat} {R:St->Prop}
variable {draw:Bool} {all:List AO} {after:List (List Nat)} {live:List Nat} {k:List It} {b:Nat} {fl:List (Bool×Bool)} {ops:List AO} {st st':St} {d:Option Nat} {b':Nat}
end
end Go.GB
namespace Go.GB.C29
open Go.GB
structure PrW (P:Program):Prop where
 mixed:P.follows .mixedOrders=true
 i40:zb P 40=some (n40,c40.bare,r40)
 i72:zb P 72=some (n72,c72.bare,r72)
section
variable {P:Program} {n m:Nat} {R:St->Prop} {draw:Bool} {all:List AO} {after:List (List Nat)} {live:List Nat} {k:List It} {b:Nat} {fl:List (Bool×Bool)} {ops:List AO} {st st':St} {d:Option Nat}
end
variable {P:Program}
def z46 (n:Int):Str:=[UInt8.ofNat (IntKind.u8.wrap (IntKind.i64.wrap (48 - n.tmod 10))).toNat]
def Yr:Nat->Int->Str
 |0,_=>[]
 |k+1,n=>if n>-10 then z46 n else Yr k (IntKind.i64.wrap (n.tdiv 10))++z46 n
def z0E (n:Int):Str:=if n<0 then [45]++Yr (n.natAbs+1) n else Yr (n.natAbs+1+9223372036854775808) (IntKind.i64.wrap (0 - n))
theorem z6d {n:Int} (hn:n<=-10):n.tdiv 10=-((-n)/10):=by
 have:=Int.neg_tdiv (-n) 10;rw [Int.neg_neg] at this;rw [this,Int.tdiv_eq_ediv_of_nonneg (by omega)]
theorem z8X (x:Int):-9223372036854775808<=IntKind.i64.wrap x/\IntKind.i64.wrap x<=9223372036854775807:=by rw [IntKind.wrap_i64];omega
theorem z4D:∀(k:Nat) (n:Int) (j:Nat),-9223372036854775808<=n->n.natAbs<10 ^ (j+1)->(Yr k n).length<=j+1
 |0,n,j,_,_=>by simp [Yr]
 |k+1,n,j,h1,h2=>by
  simp only [Yr];split
  ·simp [z46]
  ·rename_i h
   have hn:n<=-10:=by omega
   have e:=z6d hn
   cases j with
   |zero=>simp at h2;omega
   |succ j=>
    rw [wrap64 (by omega) (by omega)]
    have h3:n.natAbs<10*10 ^ (j+1):=by rw [Nat.pow_succ] at h2;omega
    have:=z4D k (n.tdiv 10) j (by omega) (by rw [e];generalize 10 ^ (j+1)=M at*;omega);simp [z46];omega
theorem z7p {k:Nat} {n:Int}:(Yr k (IntKind.i64.wrap n)).length<=20:=by
 have:=z8X n;exact z4D k _ 19 (by omega) (by simp only [Nat.reduceAdd,Nat.reducePow];omega)
theorem z3U {k:Nat} {n:Int}:(Yr k n).length<=21:=by
 cases k with
 |zero=>simp [Yr]
 |succ k=>
  simp only [Yr];split
  ·simp [z46]
  ·have:=z7p (k:=k) (n:=n.tdiv 10);simp [z46];omega
theorem QK (H:PrW P):∀(k:Nat) (n:Int),n.natAbs<k->z9 P 72 [.t (.int .i64 n)] ⟨[],0⟩ {v:= .t (.str (Yr k n))}
 |0,n,h=>by omega
 |k+1,n,h=>by
  refine z9.run H.i72 H.mixed Z Z ?_;refine fR Z ?_;refine pu Z ?_;refine p0 Z ?_;refine fM Z ?_;refine p0 Z ?_;refine fM Z ?_;refine Run.cond Z Z (fun h=>?_) (fun h=>?_)
  ·have h':n>-10:=by simpa using h
   have hR:Yr (k+1) n=z46 n:=by simp only [Yr];rw [if_pos h']
   refine fR Z ?_;refine Run.fin Z (z5.go ?_);exact .t (by rw [hR];rfl)
  ·have h':¬ n>-10:=by simpa using h
   have hR:Yr (k+1) n=Yr k (IntKind.i64.wrap (n.tdiv 10))++z46 n:=by simp only [Yr];rw [if_neg h']
   have e:=z6d (n:=n) (by omega);have hwr:=z8X (n.tdiv 10)
   have hrec:=QK H k (IntKind.i64.wrap (n.tdiv 10)) (by
    by_cases hb:-9223372036854775808<=n
    ·rw [wrap64 (by omega) (by omega)];omega
    ·omega)
   have hlen:=z7p (k:=k) (n:=n.tdiv 10);refine fR Z ?_;refine pu Z ?_;refine Mid.call (hrec) Z Z Z Z ?_;refine fM Z ?_;refine pu Z ?_;refine fM Z ?_;refine Run.fin Z (z5.go ?_);exact .t (by rw [hR];rfl)
theorem zd2 (H:PrW P) (n:Int):z9 P 40 [.t (.int .i64 n)] ⟨[],0⟩ {v:= .t (.str (z0E n))}:=by
 have hlen:=z3U (k:=n.natAbs+1) (n:=n)
 have hw:(IntKind.i64.wrap (0 - n)).natAbs<n.natAbs+1+9223372036854775808:=by have:=z8X (0 - n);omega
 refine z9.run H.i40 H.mixed Z Z ?_;refine fR Z ?_;refine Run.cond Z Z (fun h=>?_) (fun h=>?_)
 ·have h':n<0:=by simpa using h
  have hR:z0E n=[45]++Yr (n.natAbs+1) n:=by unfold z0E;rw [if_pos h']
  refine fR Z ?_;refine Mid.call (QK H (n.natAbs+1) n (by omega)) Z Z Z Z ?_;refine pu Z ?_;refine fM Z ?_;refine Run.fin Z (z5.go ?_);exact .t (by rw [hR])
 ·have h':¬ n<0:=by simpa using h
  have hR:z0E n=Yr (n.natAbs+1+9223372036854775808) (IntKind.i64.wrap (0 - n)):=by unfold z0E;rw [if_neg h']
  refine fR Z ?_;refine Mid.call (QK H (n.natAbs+1+9223372036854775808) (IntKind.i64.wrap (0 - n)) hw) Z Z Z Z ?_;refine fM Z ?_;refine Run.fin Z (z5.go ?_);exact .t (by rw [hR])
theorem z4U (n:Int):(z0E n).length<=22:=by
 unfold z0E;split
 ·have:=z3U (k:=n.natAbs+1) (n:=n);simp;omega
 ·have:=z3U (k:=n.natAbs+1+9223372036854775808) (n:=IntKind.i64.wrap (0 - n));omega
end Go.GB.C29
namespace Go.GB.C43
open Go.GB
structure Pr (P:Program):Prop where
 mixed:P.follows .mixedOrders=true
 i21:zb P 21=some (n21,c21.bare,r21)
 i41:zb P 41=some (n41,c41.bare,r41)
 i42:zb P 42=some (n42,c42.bare,r42)
 i73:zb P 73=some (n73,c73.bare,r73)
variable {P:Program}
def pre {α} (n:Int) (f:Int->α->Int):Int->List α->List α
 |_,[]=>[]
 |t,x::r=>if t<=n then x::pre n f (f t x) r else []
def tot {α} (n:Int) (f:Int->α->Int):Int->List α->Int
 |t,[]=>t
 |t,x::r=>if t<=n then tot n f (f t x) r else t
structure YW {α} (n:Int) (f:Int->α->Int) (l:List α) (T:Int) (r:List α) (i:Nat) (t:Int):Prop where
 a:r=pre n f t (l.drop i)
 b:tot n f t (l.drop i)=T
theorem YQ {α} (n:Int) (f:Int->α->Int) (l:List α) (t:Int):YW n f l (tot n f t l) (pre n f t l) 0 t:=⟨by simp,by simp⟩
theorem wy {α} {n:Int} {f:Int->α->Int} {l:List α} {T:Int} {i:Nat} {t:Int} (h:YW n f l T [] i t):(¬ (i<l.length/\t<=n))/\t=T:=by
 obtain ⟨a,b⟩:=h;by_cases hi:i<l.length
 ·rw [List.drop_eq_getElem_cons hi] at a b;by_cases ht:t<=n
  ·simp [pre,ht] at a
  ·simp [tot,ht] at b;exact ⟨by simp [ht],b⟩
 ·rw [List.drop_eq_nil_of_le (by omega)] at b
  exact ⟨by simp [hi],by simpa [tot] using b⟩
theorem YP {α} {n:Int} {f:Int->α->Int} {l:List α} {T:Int} {x:α} {r:List α} {i:Nat} {t:Int} (h:YW n f l T (x::r) i t):
  l[i]?=some x/\i<l.length/\t<=n/\YW n f l T r (i+1) (f t x):=by
 obtain ⟨a,b⟩:=h;by_cases hi:i<l.length
 ·rw [List.drop_eq_getElem_cons hi] at a b;by_cases ht:t<=n
  ·simp [pre,ht] at a;obtain ⟨a1,a2⟩:=a;subst a1
   refine ⟨by simp,hi,ht,a2,?_⟩
   simpa [tot,ht] using b
  ·simp [pre,ht] at a
 ·rw [List.drop_eq_nil_of_le (by omega)] at a;simp [pre] at a
def z8k (t:Int) (k:Str):Int:=IntKind.i64.wrap (IntKind.i64.wrap (t+1)+(k.length:Nat))
mutual
def z55 (n:Int):Val->Int
 | .mk _ _ t its ks=>z5n n (tot n z8k (IntKind.i64.wrap (1+(t.length:Nat))) ks) its
def z5n (n:Int):Int->List Val->Int
 |t,[]=>t
 |t,v::r=>if t<=n then z5n n (IntKind.i64.wrap (t+z55 n v)) r else t
end
def z6K (n t:Int) (v:Val):Int:=IntKind.i64.wrap (t+z55 n v)
theorem z2W (n:Int):∀(l:List Val) (t:Int),z5n n t l=tot n (z6K n) t l
 |[],t=>by simp [z5n,tot]
 |v::r,t=>by simp [z5n,tot,z6K,z2W n r]
theorem zc2 (n:Int):∀v:Val,z55 n v=tot n (z6K n) (tot n z8k (IntKind.i64.wrap (1+(v.text.length:Nat))) v.keys) v.items
 | .mk _ _ t its ks=>by simp [z55,z2W,Val.text,Val.keys,Val.items]
def z9k (P:Program) (n:Int) (a:Val):Prop:=z9 P 73 [a.v,.t (.int .i64 n)] ⟨[],0⟩ {v:= .t (.int .i64 (z55 n a))}
theorem z89 (H:Pr P) (n:Int) (a:Val) (ha:a.Ok) (hrec:∀x,x∈a.items->z9k P n x):z9k P n a:=by
 have hil:=ha.il;have hkl:=ha.kl;have htl:=ha.tl;have hkt:=ha.kt;have hw:=zc2 n a;unfold z9k;refine z9.run H.i73 H.mixed Z Z ?_;refine fR Z ?_;refine p0 Z ?_;refine fM Z ?_;refine zx (pre n z8k (IntKind.i64.wrap (1+(a.text.length:Nat))) a.keys) (fun i (t:Int)=>{env:=[(1,.t (.int .i64 n)),(2,.ptr 0 0),(5,.t (.int .i64 t)),(6,.t (.int .i64 i))],s:=⟨[(0,(VCo a))],1⟩}) (fun r i t=>YW n z8k a.keys (tot n z8k (IntKind.i64.wrap (1+(a.text.length:Nat))) a.keys) r i t) 1 (IntKind.i64.wrap (1+(a.text.length:Nat))) Z (YQ ..) Z Z Z ?_ ?_
 ·intro t ht;obtain ⟨h1,h2⟩:=wy ht;rw [←h2] at hw;refine fR Z ?_;refine lM Z Z Z ?_;refine fM Z ?_;refine Run.zj Z Z (by simp at h1⊢;omega) ?_;refine fR Z ?_;refine zx (pre n (z6K n) t a.items) (fun i (t:Int)=>{env:=[(1,.t (.int .i64 n)),(2,.ptr 0 0),(5,.t (.int .i64 t)),(7,.t (.int .i64 i))],s:=⟨[(0,(VCo a))],1⟩}) (fun r i t'=>YW n (z6K n) a.items (tot n (z6K n) t a.items) r i t') 1 t Z (YQ ..) Z Z Z ?_ ?_
  ·intro t ht;obtain ⟨h1,h2⟩:=wy ht;refine fR Z ?_;refine lM Z Z Z ?_;refine fM Z ?_;refine Run.zj Z Z (by simp at h1⊢;omega) ?_;refine fR Z ?_;refine Run.fin Z (z5.go ?_);exact .t (by rw [hw,h2])
  ·intro i x r t _ hi hd hinv ih;obtain ⟨h1,hi',hle,hnx⟩:=YP hinv;have hc:=hrec x (zMG h1);unfold z9k at hc;refine fR Z ?_;refine lM Z Z Z ?_;refine fM Z ?_;refine Run.zm Z Z (by simp;omega) ?_;refine fR Z ?_;refine Mid.Ze (Val.Zf x) Z Z Z h1 Z Z ?_;refine fM Z ?_;refine Mid.call (hc) Z Z Z Z ?_;refine p0 Z ?_;refine fM Z ?_;refine aL Z Z Z Z Z ?_;refine fM Z ?_;exact zk 1 Z (ih (z6K n t x) hnx) Z Z Z
 ·intro i x r t _ hi hd hinv ih;obtain ⟨h1,hi',hle,hnx⟩:=YP hinv;have hxl:=hkt x (zMG h1);refine fR Z ?_;refine lM Z Z Z ?_;refine fM Z ?_;refine Run.zm Z Z (by simp;omega) ?_;refine fR Z ?_;refine p0 Z ?_;refine fM Z ?_;refine Mid.ze Z Z Z h1 Z Z ?_;refine fM Z ?_;refine p0 Z ?_;refine fM Z ?_;refine aL Z Z Z Z Z ?_;refine fM Z ?_;exact zk 1 Z (ih (z8k t x) hnx) Z Z Z
theorem z4X (H:Pr P) (n:Int):∀(k:Nat) (a:Val),SizeOf.sizeOf a<=k->a.Ok->z9k P n a
 |0,a,h,_=>by cases a;simp at h
 |k+1,a,h,ha=>z89 H n a ha fun x hx=>z4X H n k x (by have:=Val.ZQ a hx;omega) (ha.it x hx)
theorem z6N (H:Pr P) (n:Int) (a:Val) (ha:a.Ok):z9 P 73 [a.v,.t (.int .i64 n)] ⟨[],0⟩ {v:= .t (.int .i64 (z55 n a))}:=z4X H n _ a (Nat.le_refl _) ha
end Go.GB.C43
namespace Go.GB.C43
open Go.GB
variable {P:Program}
def zbJ (n t:Int) (a:Arg):Int:=IntKind.i64.wrap (IntKind.i64.wrap (t+1)+z55 n a.val)
def z8e (n t:Int) (d:Dir):Int:=tot n (zbJ n) (IntKind.i64.wrap (t+1)) d.args
def z2y (n:Int) (l:List Dir):Int:=tot n (z8e n) 0 l
theorem YB (H:Pr P) (n:Int) (l:List Dir) (hl:l.length<=140737488355328) (hd:∀d,d∈l->d.Ok):
  z9 P 41 [.t (.lst (l.map Dir.enc)),.t (.int .i64 n)] ⟨[],0⟩ {v:= .t (.int .i64 (z2y n l))}:=by
 have hw:z2y n l=tot n (z8e n) 0 l:=rfl;refine z9.run H.i41 H.mixed Z Z ?_;refine fR Z ?_;refine zx (pre n (z8e n) 0 l) (fun i (t:Int)=>{env:=[(0,.t (.lst (l.map Dir.enc))),(1,.t (.int .i64 n)),(5,.t (.int .i64 t)),(6,.t (.int .i64 i))],s:=⟨[],0⟩}) (fun r i t=>YW n (z8e n) l (tot n (z8e n) 0 l) r i t) 0 0 Z (YQ ..) Z Z Z ?_ ?_
 ·intro t ht;obtain ⟨h1,h2⟩:=wy ht;refine fR Z ?_;refine lM Z Z Z ?_;refine fM Z ?_;refine Run.zj Z Z (by simp at h1⊢;omega) ?_;refine fR Z ?_;refine Run.fin Z (z5.go ?_);exact .t (by rw [hw,h2])
 ·intro i d r t _ hi hdd hinv ih;obtain ⟨h1,hi',hle,hnx⟩:=YP hinv;have hdo:=hd d (zMG h1);have hal:=hdo.l;refine fR Z ?_;refine lM Z Z Z ?_;refine fM Z ?_;refine Run.zm Z Z (by simp;omega) ?_;refine fR Z ?_;refine p0 Z ?_;refine fM Z ?_;refine zx (pre n (zbJ n) (IntKind.i64.wrap (t+1)) d.args) (fun j (t:Int)=>{env:=[(0,.t (.lst (l.map Dir.enc))),(1,.t (.int .i64 n)),(5,.t (.int .i64 t)),(6,.t (.int .i64 i)),(7,.t (.int .i64 j))],s:=⟨[],0⟩}) (fun r j t'=>YW n (zbJ n) d.args (z8e n t d) r j t') 0 (IntKind.i64.wrap (t+1)) Z (YQ ..) Z Z Z ?_ ?_
  ·intro t' ht';obtain ⟨h1',h2'⟩:=wy ht';refine fR Z ?_;refine Mid.ze Z Z Z h1 Z Z ?_;refine fM Z ?_;refine lM Z Z Z ?_;refine fM Z ?_;refine Run.zj Z Z (by simp at h1'⊢;omega) ?_;refine fR Z ?_;refine aL Z Z Z Z Z ?_;refine fM Z ?_;exact zk 0 Z (ih t' (by rw [h2'];exact hnx)) Z Z Z
  ·intro j a r' t' _ hj hdd' hinv' ih';obtain ⟨k1,kj,kle,knx⟩:=YP hinv';have hao:a.val.Ok:=hdo.a a (zMG k1);refine fR Z ?_;refine Mid.ze Z Z Z h1 Z Z ?_;refine fM Z ?_;refine lM Z Z Z ?_;refine fM Z ?_;refine Run.zm Z Z (by simp;omega) ?_;refine fR Z ?_;refine p0 Z ?_;refine fM Z ?_;refine Mid.ze Z Z Z h1 Z Z ?_;refine fM Z ?_;refine Mid.ze Z Z Z k1 Z Z ?_;refine fM Z ?_;refine Mid.call (z6N H n a.val hao) Z Z Z Z ?_;refine p0 Z ?_;refine fM Z ?_;refine aL Z Z Z Z Z ?_;refine fM Z ?_;exact zk 0 Z (ih' (zbJ n t' a) knx) Z Z Z
def z82 (n t:Int) (x:Input):Int:=IntKind.i64.wrap (IntKind.i64.wrap (IntKind.i64.wrap (IntKind.i64.wrap (t+1)+(x.ty.zq.length:Nat))+z55 n x.yI)+z2y n x.zS)
def z7j (n:Int) (l:List Input):Int:=tot n (z82 n) 0 l
theorem Wz (H:Pr P) (n:Int) (l:List Input) (hl:l.length<=140737488355328) (hd:∀d,d∈l->d.Ok):
  z9 P 42 [.t (.lst (l.map Input.enc)),.t (.int .i64 n)] ⟨[],0⟩ {v:= .t (.int .i64 (z7j n l))}:=by
 have hw:z7j n l=tot n (z82 n) 0 l:=rfl;refine z9.run H.i42 H.mixed Z Z ?_;refine fR Z ?_;refine zx (pre n (z82 n) 0 l) (fun i (t:Int)=>{env:=[(0,.t (.lst (l.map Input.enc))),(1,.t (.int .i64 n)),(5,.t (.int .i64 t)),(6,.t (.int .i64 i))],s:=⟨[],0⟩}) (fun r i t=>YW n (z82 n) l (tot n (z82 n) 0 l) r i t) 0 0 Z (YQ ..) Z Z Z ?_ ?_
 ·intro t ht;obtain ⟨h1,h2⟩:=wy ht;refine fR Z ?_;refine lM Z Z Z ?_;refine fM Z ?_;refine Run.zj Z Z (by simp at h1⊢;omega) ?_;refine fR Z ?_;refine Run.fin Z (z5.go ?_);exact .t (by rw [hw,h2])
 ·intro i x r t _ hi hdd hinv ih;obtain ⟨h1,hi',hle,hnx⟩:=YP hinv;have hxo:=hd x (zMG h1);have hwl:=hxo.t.l;have hdl:=hxo.l;refine fR Z ?_;refine lM Z Z Z ?_;refine fM Z ?_;refine Run.zm Z Z (by simp;omega) ?_;refine fR Z ?_;refine p0 Z ?_;refine fM Z ?_;refine Mid.ze Z Z Z h1 Z Z ?_;refine fM Z ?_;refine lM Z Z Z ?_;refine p0 Z ?_;refine fM Z ?_;refine Mid.ze Z Z Z h1 Z Z ?_;refine fM Z ?_;refine Mid.call (z6N H n x.yI hxo.v) Z Z Z Z ?_;refine p0 Z ?_;refine fM Z ?_;refine Mid.ze Z Z Z h1 Z Z ?_;refine fM Z ?_;refine Mid.call (YB H n x.zS hdl hxo.d) Z Z Z Z ?_;refine p0 Z ?_;refine fM Z ?_;refine aL Z Z Z Z Z ?_;refine fM Z ?_;exact zk 0 Z (ih (z82 n t x) hnx) Z Z Z
end Go.GB.C43
namespace Go.GB.C43
open Go.GB
variable {P:Program}
def z8W (n t:Int) (x:Field):Int:=IntKind.i64.wrap (IntKind.i64.wrap (IntKind.i64.wrap (IntKind.i64.wrap (t+1)+(x.ty.zq.length:Nat))+z7j n x.args)+z2y n x.zS)
def z9d (n t:Int) (x:ZF):Int:=IntKind.i64.wrap (IntKind.i64.wrap (t+1)+z2y n x.zS)
def zbO (n t:Int) (d:Def):Int:=IntKind.i64.wrap (IntKind.i64.wrap (IntKind.i64.wrap (t+(d.implements.length:Nat))+z2y n d.zS)+z7j n d.zH)
def zan (n t:Int) (d:Def):Int:=tot n (z9d n) (tot n (z8W n) (zbO n t d) d.fields) d.members
def zcM (n:Int) (ds:List Def):Int:=tot n (zan n) (ds.length:Nat) ds
theorem z3L (H:Pr P) (n:Int) (ds:List Def) (hD:Zd ds):z9 P 21 [yd ds,.t (.int .i64 n)] ⟨[],0⟩ {v:= .t (.int .i64 (zcM n ds))}:=by
 have hl:=hD.l;have hw:zcM n ds=tot n (zan n) (ds.length:Nat) ds:=rfl;refine z9.run H.i21 H.mixed Z Z ?_;refine fR Z ?_;refine lM Z Z Z ?_;refine fM Z ?_;refine zx (pre n (zan n) (ds.length:Nat) ds) (fun i (t:Int)=>{env:=[(1,.t (.int .i64 n)),(2,.ptr 0 0),(5,.t (.int .i64 t)),(6,.t (.int .i64 i))],s:=⟨[(0,.cells [.t (.lst (ds.map Def.enc))])],1⟩}) (fun r i t=>YW n (zan n) ds (tot n (zan n) (ds.length:Nat) ds) r i t) 1 (ds.length:Nat) Z (YQ ..) Z Z Z ?_ ?_
 ·intro t ht;obtain ⟨h1,h2⟩:=wy ht;refine fR Z ?_;refine lM Z Z Z ?_;refine fM Z ?_;refine Run.zj Z Z (by simp at h1⊢;omega) ?_;refine fR Z ?_;refine Run.fin Z (z5.go ?_);exact .t (by rw [hw,h2])
 ·intro i d r t _ hi hdd hinv ih;obtain ⟨h1,hi',hle,hnx⟩:=YP hinv;have hdo:=hD.d d (zMG h1);have q1:=hdo.il;have q2:=hdo.dl;have q3:=hdo.fl;have q4:=hdo.ml;have q5:=hdo.nl;refine fR Z ?_;refine lM Z Z Z ?_;refine fM Z ?_;refine Run.zm Z Z (by simp;omega) ?_;refine fR Z ?_;refine Mid.ze Z Z Z h1 Z Z ?_;refine fM Z ?_;refine lM Z Z Z ?_;refine p0 Z ?_;refine fM Z ?_;refine Mid.call (YB H n d.zS q2 hdo.d) Z Z Z Z ?_;refine p0 Z ?_;refine fM Z ?_;refine Mid.call (Wz H n d.zH q5 hdo.n) Z Z Z Z ?_;refine p0 Z ?_;refine fM Z ?_;refine zx (pre n (z8W n) (zbO n t d) d.fields) (fun j (t:Int)=>{env:=[(1,.t (.int .i64 n)),(2,.ptr 0 0),(5,.t (.int .i64 t)),(6,.t (.int .i64 i)),(7,.ptr 1 0),(8,.t (.int .i64 j))],s:=⟨[(1,(TCo d)),(0,.cells [.t (.lst (ds.map Def.enc))])],2⟩}) (fun r j t'=>YW n (z8W n) d.fields (tot n (z8W n) (zbO n t d) d.fields) r j t') 2 (zbO n t d) Z (YQ ..) Z Z Z ?_ ?_
  ·intro t1 ht1;obtain ⟨h1',h2'⟩:=wy ht1;refine fR Z ?_;refine lM Z Z Z ?_;refine fM Z ?_;refine Run.zj Z Z (by simp at h1'⊢;omega) ?_;refine fR Z ?_;refine zx (pre n (z9d n) t1 d.members) (fun j (t:Int)=>{env:=[(1,.t (.int .i64 n)),(2,.ptr 0 0),(5,.t (.int .i64 t)),(6,.t (.int .i64 i)),(7,.ptr 1 0),(9,.t (.int .i64 j))],s:=⟨[(1,(TCo d)),(0,.cells [.t (.lst (ds.map Def.enc))])],2⟩}) (fun r j t'=>YW n (z9d n) d.members (tot n (z9d n) t1 d.members) r j t') 2 t1 Z (YQ ..) Z Z Z ?_ ?_
   ·intro t2 ht2;obtain ⟨h1'',h2''⟩:=wy ht2;refine fR Z ?_;refine lM Z Z Z ?_;refine fM Z ?_;refine Run.zj Z Z (by simp at h1''⊢;omega) ?_;refine fR Z ?_;refine aL Z Z Z Z Z ?_;refine fM Z ?_;exact zk 1 Z (ih t2 (by rw [h2'',h2'];exact hnx)) Z Z Z
   ·intro j x r' t' _ hj hdd' hinv' ih';obtain ⟨k1,kj,kle,knx⟩:=YP hinv';have hxo:=hdo.m x (zMG k1);refine fR Z ?_;refine lM Z Z Z ?_;refine fM Z ?_;refine Run.zm Z Z (by simp;omega) ?_;refine fR Z ?_;refine p0 Z ?_;refine fM Z ?_;refine Mid.ze Z Z Z k1 Z Z ?_;refine fM Z ?_;refine Mid.call (YB H n x.zS hxo.l hxo.d) Z Z Z Z ?_;refine p0 Z ?_;refine fM Z ?_;refine aL Z Z Z Z Z ?_;refine fM Z ?_;exact zk 2 Z (ih' (z9d n t' x) knx) Z Z Z
  ·intro j x r' t' _ hj hdd' hinv' ih';obtain ⟨k1,kj,kle,knx⟩:=YP hinv';have hxo:=hdo.f x (zMG k1);have hwl:=hxo.t.l;refine fR Z ?_;refine lM Z Z Z ?_;refine fM Z ?_;refine Run.zm Z Z (by simp;omega) ?_;refine fR Z ?_;refine p0 Z ?_;refine fM Z ?_;refine Mid.ze Z Z Z k1 Z Z ?_;refine fM Z ?_;refine lM Z Z Z ?_;refine p0 Z ?_;refine fM Z ?_;refine Mid.ze Z Z Z k1 Z Z ?_;refine fM Z ?_;refine Mid.call (Wz H n x.args hxo.al hxo.a) Z Z Z Z ?_;refine p0 Z ?_;refine fM Z ?_;refine Mid.ze Z Z Z k1 Z Z ?_;refine fM Z ?_;refine Mid.call (YB H n x.zS hxo.l hxo.d) Z Z Z Z ?_;refine p0 Z ?_;refine fM Z ?_;refine aL Z Z Z Z Z ?_;refine fM Z ?_;exact zk 2 Z (ih' (z8W n t' x) knx) Z Z Z
end Go.GB.C43
