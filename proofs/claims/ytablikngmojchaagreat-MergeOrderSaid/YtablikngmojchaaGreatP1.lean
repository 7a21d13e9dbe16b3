/-
  YtablikngmojchaaGreatP1: lemmas. No conditions.
-/
import Derived.Test.YtablikngmojchaaGreatP0
import Derived.Laws.StructEq
import Derived.MapKept
import Derived.Laws.Externs
import Derived.KernelRfl
import Derived.Laws.BytesArg
import Derived.Maps.RangeRun
set_option linter.all false
set_option maxRecDepth 100000
set_option maxHeartbeats 16000000
namespace Go.GB
section
variable {P:Program} {o:Oper} {base:Nat} {st:St}
theorem Yp {α:Type} {sz:Nat}:∀(xs:List (List α)),(∀(i:Nat) (c:List α),xs[i]?=some c->c.length=sz)->∀(i j:Nat) (c:List α) (x:α),xs[i]?=some c->c[j]?=some x->xs.flatten[i*sz+j]?=some x
 |[],_,i,j,c,x,h,_=>by simp at h
 |d::r,hs,0,j,c,x,h,hj=>by
  simp at h;subst h;have hl:=hs 0 d rfl;have hjl:=(w02.1 hj).1;simp only [w1r,Nat.zero_mul,w0y];rw [w0a hjl];exact hj
 |d::r,hs,i+1,j,c,x,h,hj=>by
  have hl:=hs 0 d rfl;have ih:=Yp r (fun i c hc=>hs (i+1) c (by simpa using hc)) i j c x (by simpa using h) hj;simp only [w1r];rw [w0b (by rw [hl,w13];omega)]
  have:(i+1)*sz+j - d.length=i*sz+j:=by rw [hl,w13];omega
  rw [this];exact ih
theorem zO {α:Type} {sz:Nat}:∀(xs:List (List α)),(∀(i:Nat) (c:List α),xs[i]?=some c->c.length=sz)->xs.flatten.length=xs.length*sz
 |[],_=>by simp
 |d::r,hs=>by
  have hl:=hs 0 d rfl;have ih:=zO r (fun i c hc=>hs (i+1) c (by simpa using hc));simp only [w1r,w03,w0d,ih,hl,w13];omega
theorem Y9 {l:Nat->Lab} {w:World} {b n cap sz:Nat} {arr:Array Value} {e:TypeId} {fz:Nat×Nat} {xs:List (List T)} {vs:List Value} (hb:w.heap[b]?=some (.cells arr e fz)) (hcap:n<=cap) (hn:xs.length=n)
  (hsz:∀(i:Nat) (c:List T),xs[i]?=some c->c.length=sz) (hr:∀o,o<n*sz->Rd l b o) (hv:∀(j:Nat) (v:Value),vs[j]?=some v->arr[j]?=some v) (hvl:vs.length=n*sz)
  (hx:∀(j:Nat) (v:Value) (x:T),vs[j]?=some v->xs.flatten[j]?=some x->zI l w v x):zI l w (.slice (some ⟨b,0,none⟩) n cap) (.lst xs):=by
 subst hn
 have hlt:∀(i j:Nat) (c:List T) (x:T),xs[i]?=some c->c[j]?=some x->i*sz+j<vs.length:=by
  intro i j c x h1 h2;have e1:=Yp xs hsz i j c x h1 h2;have:=(w02.1 e1).1;rw [zO xs hsz] at this;omega
 refine .lst _ cap sz xs b 0 (fun i j=>vs.getD (i*sz+j) undef) hcap hsz (fun _ _ _ _ _ _=>rfl) ?_ ?_ ?_
 ·intro i j c x h1 h2;exact hr _ (by have:=hlt i j c x h1 h2;omega)
 ·intro i j c x h1 h2;have h3:=hlt i j c x h1 h2;rw [cell_of_row w b _ arr e fz hb,w0y];rw [hv _ (vs[i*sz+j]) (by simp [h3])];simp [h3]
 ·intro i j c x h1 h2;have h3:=hlt i j c x h1 h2;exact hx (i*sz+j) _ x (by simp [h3]) (Yp xs hsz i j c x h1 h2)
theorem zI.cells {l:Nat->Lab} {w:World} {v:Value} {sz:Nat} {xs:List (List T)} (h:zI l w v (.lst xs)) (hsz:∀(i:Nat) (c:List T),xs[i]?=some c->c.length=sz) (h0:0<xs.length) (hs0:0<sz):
  ∃(b off cap:Nat) (vs:List Value),v= .slice (some ⟨b,off,none⟩) xs.length cap/\xs.length<=cap/\vs.length=xs.length*sz/\(∀(j:Nat) (u:Value),vs[j]?=some u->w.cell? ⟨b,off+j,none⟩=some u/\Rd l b (off+j))/\
   (∀(j:Nat) (u:Value) (x:T),vs[j]?=some u->xs.flatten[j]?=some x->zI l w u x):=by
 cases h with
 |lst a cap sz' _ b off vf hcap hsz' ha hr hc hrep=>
  have hc0:xs[0]?=some xs[0]:=by simp [h0]
  have e0:sz'=sz:=by rw [←hsz' 0 _ hc0,←hsz 0 _ hc0]
  subst e0
  have hl0:0<xs[0].length:=by rw [hsz 0 _ hc0];exact hs0
  have ea:=ha 0 0 xs[0] xs[0][0] hc0 (by simp [hl0]);subst ea
  have hdm:∀j,j<xs.length*sz'->j/sz'<xs.length/\j%sz'<sz'/\j/sz'*sz'+j%sz'=j:=by
   intro j hj
   refine ⟨Nat.div_lt_of_lt_mul (by rwa [Nat.mul_comm] at hj),Nat.mod_lt _ hs0,by rw [Nat.mul_comm];exact Nat.div_add_mod j sz'⟩
  have hat:∀j,(hj:j<xs.length*sz')->∃c x,xs[j/sz']?=some c/\c[j%sz']?=some x:=by
   intro j hj;obtain ⟨d1,d2,d3⟩:=hdm j hj
   refine ⟨xs[j/sz'],xs[j/sz'][j%sz']'(by rw [hsz (j/sz') _ (by simp [d1])];exact d2),by simp [d1],by simp⟩
  refine ⟨b,off,cap,(List.range (xs.length*sz')).map fun j=>vf (j/sz') (j%sz'),rfl,hcap,by simp,fun j u hu=>?_,fun j u x hu hx=>?_⟩
  ·have hj:j<xs.length*sz':=by
    have:=(w02.1 hu).1;simpa using this
   rw [w0c,List.getElem?_range hj] at hu;simp at hu;subst hu;obtain ⟨c,x,e1,e2⟩:=hat j hj;have e3:=hc _ _ c x e1 e2;have e4:=hr _ _ c x e1 e2;rw [w1e,(hdm j hj).2.2] at e3 e4;exact ⟨e3,e4⟩
  ·have hj:j<xs.length*sz':=by
    have:=(w02.1 hx).1
    rwa [zO xs hsz] at this
   rw [w0c,List.getElem?_range hj] at hu;simp at hu;subst hu;obtain ⟨c,y,e1,e2⟩:=hat j hj;have e3:=Yp xs hsz _ _ c y e1 e2;rw [(hdm j hj).2.2,hx] at e3;simp at e3;subst e3;exact hrep _ _ c x e1 e2
theorem z6v {Λ Λ1:L} {s:S} {w':World} {ob:Obj} {k n fr:Nat} (h:zT Λ s) (h1:Kp Λ Λ1) (F1:Z7 Λ Λ1) (hw:Λ1.w=Λ.w) (hx:Λ1.nxt=Λ.nxt) (hf:Λ1.fro=ZG Λ.fro k n)
  (hlab:∀b,Λ1.lab b=Λ.lab b∨(∃m fr,Λ.lab b= .arr k m/\Λ1.lab b= .fix fr)) (g:yK Λ.w w' ob) (hk:k<Λ.nxt) {Λ':L} (hΛ:Λ'={lab:=zQ Λ1.lab Λ.w.heap.size (.arr k fr),fro:=Λ1.fro,nxt:=Λ.nxt,w:=w',frf:=Λ1.frf}):
  Kp Λ Λ'/\zT Λ' {s with sto:=Ym s.sto k (.arr n)}/\∀j,ZU Λ j->j≠k->ZU Λ' j:=by
 subst hΛ
 have hnew1:∀b,Λ.w.heap.size<=b->Λ1.lab b= .fix none:=by
  intro b hb
  rcases hlab b with e|⟨m,f,e,_⟩
  ·rw [e];exact h.new b hb
  ·rw [h.new b hb] at e;simp at e
 have hF:Z7 Λ {lab:=zQ Λ1.lab Λ.w.heap.size (.arr k fr),fro:=Λ1.fro,nxt:=Λ.nxt,w:=w',frf:=Λ1.frf}:=by
  have h2:=Z7.new (Λ:=Λ1) (w':=w') (o:=ob) (by rw [hw];exact g) (by rw [hw];exact hnew1) (.arr k fr) rfl;have h3:=F1.trans h2 (by rw [hw];exact w09 _);rw [hw,hx] at h3;exact h3
 have hkp:Kp Λ {lab:=zQ Λ1.lab Λ.w.heap.size (.arr k fr),fro:=Λ1.fro,nxt:=Λ.nxt,w:=w',frf:=Λ1.frf}:=by
  have h2:=Kp.new (Λ:=Λ1) (w':=w') (o:=ob) (by rw [hw];exact g) (by rw [hw];exact hnew1) (.arr k fr);have h3:=h1.trans h2;rw [hw,hx] at h3;exact h3
 have hobj:∀b j,zQ Λ1.lab Λ.w.heap.size (.arr k fr) b= .obj j->Λ.lab b= .obj j:=by
  intro b j hb;by_cases e:b=Λ.w.heap.size
  ·subst e;rw [zq] at hb;simp at hb
  ·rw [zx e] at hb
   rcases hlab b with e|⟨m,f,_,e⟩
   ·rw [←e];exact hb
   ·rw [e] at hb;simp at hb
 have harr:∀b j m,zQ Λ1.lab Λ.w.heap.size (.arr k fr) b= .arr j m->j=k∨Λ.lab b= .arr j m:=by
  intro b j m hb;by_cases e:b=Λ.w.heap.size
  ·subst e;rw [zq] at hb;simp at hb;exact .inl hb.1.symm
  ·rw [zx e] at hb
   rcases hlab b with e|⟨m,f,_,e⟩
   ·rw [e] at hb;exact .inr hb
   ·rw [e] at hb;simp at hb
 refine ⟨hkp,h.step hkp Z (fun j ob' hj=>?_) (fun b b' j e1 e2=>h.inj b b' j (hobj b j e1) (hobj b' j e2)) (fun b hb=>?_) (fun b j hb=>?_) (fun j hj=>?_) hF,fun j hj hne=>hj.ZX hF (fun b hb=>hj.obj b (hobj b j hb)) (fun b m hb=>?_) ?_⟩
 ·simp only at hj;rw [Zb] at hj;split at hj
  ·rename_i e;subst e;simp at hj;subst hj
   exact .inr ⟨hk,by simp only [qd,hf,z4x]⟩
  ·rename_i hne
   refine .inl ⟨hj,fun b hb=>g.old ?_,by simp only [hf];exact qg (Ne.symm hne)⟩
   rcases w1a b Λ.w.heap.size with h'|h'
   ·exact h'
   ·rw [h.new b h'] at hb;simp at hb
 ·simp only at hb⊢;rw [g.size] at hb;rw [zx (by omega)];exact hnew1 b (by omega)
 ·rcases hb with hb|⟨m,hb⟩
  ·exact h.bnd b j (.inl (hobj b j hb))
  ·rcases harr b j m hb with rfl|hb'
   ·exact hk
   ·exact h.bnd b j (.inr ⟨m,hb'⟩)
 ·simp only [hf];rw [qg (by omega)];exact h.frz j hj
 ·rcases harr b j m hb with rfl|hb'
  ·exact hne Z
  ·exact hj.arr b m hb'
 ·simp only [hf];rw [qg hne];exact hj.fro
theorem zcn {Λ:L} {s:S} {w':World} {b k n fr fr':Nat} (h:zT Λ s) (g:YH Λ.w w' b) (hb:Λ.lab b= .arr k fr) (hfr:fr<=fr') (hc:∀o,o<fr->w'.cell? ⟨b,o,none⟩=Λ.w.cell? ⟨b,o,none⟩) (hn:Λ.fro k<n)
  {Λ':L} (hΛ:Λ'={Λ with lab:=zQ Λ.lab b (.arr k fr'),fro:=ZG Λ.fro k n,w:=w'}):
  Kp Λ Λ'/\zT Λ' {s with sto:=Ym s.sto k (.arr n)}/\∀j,ZU Λ j->ZU Λ' j:=by
 subst hΛ;have hkp:=Kp.grown g hb hfr hc hn;have hF:=Z7.grown (fr':=fr') (n:=n) g hb;have hk:k<Λ.nxt:=h.bnd b k (.inr ⟨_,hb⟩)
 have hobj:∀c j,zQ Λ.lab b (.arr k fr') c= .obj j->Λ.lab c= .obj j/\c≠b:=by
  intro c j hc;by_cases e:c=b
  ·subst e;rw [zq] at hc;simp at hc
  ·rw [zx e] at hc;exact ⟨hc,e⟩
 have harr:∀c j m,zQ Λ.lab b (.arr k fr') c= .arr j m->∃m',Λ.lab c= .arr j m':=by
  intro c j m hc;by_cases e:c=b
  ·subst e;rw [zq] at hc;simp at hc;rw [←hc.1];exact ⟨_,hb⟩
  ·rw [zx e] at hc;exact ⟨_,hc⟩
 refine ⟨hkp,h.step hkp Z (fun j ob' hj=>?_) (fun c c' j e1 e2=>h.inj c c' j (hobj c j e1).1 (hobj c' j e2).1) (fun c hcc=>?_) (fun c j hc=>?_) (fun j hj=>?_) hF,fun j hj=>hj.ZX hF (fun c hc=>hj.obj c (hobj c j hc).1) (fun c m hc=>?_) ?_⟩
 ·simp only at hj;rw [Zb] at hj;split at hj
  ·rename_i e;subst e;simp at hj;subst hj
   exact .inr ⟨hk,by simp only [qd,z4x]⟩
  ·rename_i hne;refine .inl ⟨hj,fun c hcc=>g.old c ?_,qg (Ne.symm hne)⟩;intro e;rw [e,hb] at hcc;simp at hcc
 ·simp only at hcc⊢;rw [g.size] at hcc
  have:c≠b:=by intro e;rw [e] at hcc;rw [h.new _ hcc] at hb;simp at hb
  rw [zx this];exact h.new c hcc
 ·rcases hc with hc|⟨m,hc⟩
  ·exact h.bnd c j (.inl (hobj c j hc).1)
  ·obtain ⟨m',e⟩:=harr c j m hc;exact h.bnd c j (.inr ⟨m',e⟩)
 ·show ZG Λ.fro k n j=0;rw [qg (by omega)];exact h.frz j hj
 ·obtain ⟨m',e⟩:=harr c j m hc;exact hj.arr c m' e
 ·have:j≠k:=by rintro rfl;exact hj.arr b fr hb
  show ZG Λ.fro k n j=0;rw [qg this];exact hj.fro
end
section
variable {P:Program} {o:Oper} {base:Nat} {st:St}
theorem zR {t ty:TypeId} {x y:Operand} {args:Array Operand} {ats:Array TypeId} {a:Act} {w w':World} {r:Value} (ho:o.op= .call {callee:= .builtin .append,args:=args,argTypes:=ats}) (hty:o.type=ty)
  (ha:args.toList=[x,y]) (hat:ats.toList=[t,t]) (h:(Builtin.append_ #[t,t] ty #[a.eval x,a.eval y]).run P w= .ok r w'):(execOp a.eval o).run P w= .ok (.value r) w':=by
 have e1:args.map a.eval=#[a.eval x,a.eval y]:=by apply w27;simp [ha]
 have e2:ats=#[t,t]:=by apply w27;simp [hat]
 subst e2;subst hty;simp only [execOp,ho,resolve,Sem.run_bind,Sem.run_pure,Result.andThen_ok,invoke,builtin,e1];simp [h]
theorem yJ {t ty e:TypeId} {i:TypeInfo} (ht:P.underlying t=some (.slice e)) (hi:P.info? e=some i) (b:Option Addr) (n cap:Nat) (hn:n<=cap) (a:Option Addr) (c:Nat) (w:World):
  (Builtin.append_ #[t,t] ty #[.slice b n cap,.slice a 0 c]).run P w= .ok (.slice b n cap) w:=by
 cases a with
 |none=>cases b<;>simp [Builtin.append_,run_underlying ht,sizeOf,typeInfo,hi,Builtin.lenOf,hn,Builtin.firstCells,storeCells]
 |some a=>
  have hl:(loadCells a 0).run P w= .ok #[] w:=by
   have:=run_loadCells_list (P:=P) w a [] (by simp);simpa using this
  cases b<;>simp [Builtin.append_,run_underlying ht,sizeOf,typeInfo,hi,Builtin.lenOf,hn,Builtin.firstCells,hl,storeCells]
theorem wu {t ty e e':TypeId} {i:TypeInfo} (w:World) (ht:P.underlying t=some (.slice e)) (hi:P.info? e=some i)
  (g sLen sCap:Nat) (cur:Array Value) (hg:w.heap[g]?=some (.cells cur e' (0,0)))
  (a:Addr) (m c:Nat) (news:List Value) (hl:news.length=m*i.size) (hnews:∀j u,news[j]?=some u->w.cell? (a.add j)=some u) (h1:∀u∈news,u.oneCell'=true)
  (hroom:sLen+m<=sCap) (hfit:sLen*i.size+news.length<=cur.size):
  (Builtin.append_ #[t,t] ty #[.slice (some ⟨g,0,none⟩) sLen sCap,.slice (some a) m c]).run P w=
   .ok (.slice (some ⟨g,0,none⟩) (sLen+m) sCap) (w.setRow g (cur.toList.take (sLen*i.size)++news++cur.toList.drop (sLen*i.size+news.length)).toArray):=by
 have hf:=run_firstCells_some (P:=P) w i.size m a m c news hl hnews;have hst:=run_storeCells_at P g (sLen*i.size) e' news 0 cur w hg (by simpa using hfit) h1;simp only [w1w] at hst;simp [Builtin.append_,run_underlying ht,sizeOf,typeInfo,hi,Builtin.lenOf,hroom,hf,Addr.add_lit,hst]
theorem zI.Q1 {l:Nat->Lab} {w:World} {v:Value} {x:T} (h:zI l w v x):v.oneCell'=true:=by cases h<;>rfl
structure z2E (P:Program) (o:Oper) (sz bytes:Nat) (x' y':Ar) where
 x:Operand
 y:Operand
 args:Array Operand
 ats:Array TypeId
 t:TypeId
 e:TypeId
 inf:TypeInfo
 z:Value
 ho:o.op= .call {callee:= .builtin .append,args:=args,argTypes:=ats}
 ha:args.toList=[x,y]
 hat:ats.toList=[t,t]
 ht:P.underlying t=some (.slice e)
 hi:P.info? e=some inf
 hz:inf.zero=some z
 hs:inf.size=sz
 hb:inf.bytes=bytes
 h0:0<sz
 hzs:z.cells.size=sz
 hx:opA x=some x'
 hy:opA y=some y'
theorem ZR {sz:Nat} {xs ys:List (List T)} (hx:∀(i:Nat) (c:List T),xs[i]?=some c->c.length=sz) (hy:∀(i:Nat) (c:List T),ys[i]?=some c->c.length=sz):
  ∀(i:Nat) (c:List T),(xs++ys)[i]?=some c->c.length=sz:=by
 intro i c h;by_cases hi:i<xs.length
 ·rw [w0a hi] at h;exact hx i c h
 ·rw [w0b (by omega)] at h;exact hy _ c h
theorem z69 {sz bytes:Nat} {x' y':Ar} (A:z2E P o sz bytes x' y') {C:Ctx} {Λ:L} {a:Act} (hr:Rel C Λ st a) {k:Nat} {ys:List (List T)} (hk:k<Λ.nxt) (hfro:Λ.fro k=0) {ad:Option Addr} (hnil:a.eval A.x= .slice ad 0 0)
  (hy:zI Λ.lab Λ.w (a.eval A.y) (.lst ys)) (hl:∀(i:Nat) (c:List T),ys[i]?=some c->c.length=sz) (hroom:ys.length*bytes<=140737488355328) (h63:ys.length<=9223372036854775807):
  ∃v Λ',(execOp a.eval o).run P Λ.w= .ok (.value v) Λ'.w/\Kp Λ Λ'/\Λ'.nxt=Λ.nxt/\zT Λ' {st.s with sto:=Ym st.s.sto k (.arr ys.length)}/\zr Λ' v (.own k sz ys)/\∀j,ZU Λ j->j≠k->ZU Λ' j:=by
 by_cases hy0:ys.length=0
 ·have hys:ys=[]:=w0q.1 hy0;subst hys;generalize hv:a.eval A.y=u at hy
  have hrun:(execOp a.eval o).run P Λ.w= .ok (.value (.slice ad 0 0)) Λ.w:=by
   refine zR A.ho Z A.ha A.hat ?_;rw [hnil,hv]
   cases hy with
   |lst a' cap _ _ _ _ _ _ _ _ _ _ _=>exact yJ A.ht A.hi ad 0 0 (w09 _) a' cap Λ.w
  have hkp:=Kp.refl Λ;refine ⟨_,Λ,hrun,hkp,rfl,?_,.own .nil (by simp) hk (by simp) (fun _=> .inl ⟨⟨_,rfl⟩,rfl⟩),fun j hj _=>hj⟩;refine hr.s.step hkp Z (fun j ob hj=>?_) hr.s.inj hr.s.new hr.s.bnd hr.s.frz (Z7.refl _);simp only at hj;rw [Zb] at hj;split at hj
  ·rename_i e;subst e;simp at hj;subst hj;exact .inr ⟨hk,hfro⟩
  ·exact .inl ⟨hj,fun _ _=>rfl,rfl⟩
 ·obtain ⟨b,off,cap,vs,hv,hcap,hvl,hvc,hvr⟩:=hy.cells hl (by omega) A.h0
  have hrun':(Builtin.append_ #[A.t,A.t] o.type #[.slice ad 0 0,.slice (some ⟨b,off,none⟩) ys.length cap]).run P Λ.w=
    .ok (.slice (some ⟨Λ.w.heap.size,0,none⟩) ys.length (grownCap Λ.w ys.length 0 A.e)) (Λ.w.drew.alloc (.cells (vs.toArray++Builtin.zeroCells A.z.cells (grownCap Λ.w ys.length 0 A.e - ys.length)) A.e)):=by
   cases ad with
   |none=>exact run_append_nil (P:=P) Λ.w A.t o.type A.e A.inf A.z A.ht A.hi A.hz ⟨b,off,none⟩ ys.length cap vs (by rw [A.hs];exact hvl) (fun j u hu=>by rw [y3];exact (hvc j u hu).1) (by omega) (by omega) (by rw [A.hb];omega)
   |some ad=>
    have:=run_append_grow (P:=P) Λ.w A.t o.type A.e A.inf A.z A.ht A.hi A.hz ad 0 0 [] (by simp) (by simp) ⟨b,off,none⟩ ys.length cap vs (by rw [A.hs];exact hvl) (fun j u hu=>by rw [y3];exact (hvc j u hu).1) (by omega) (by omega) (by rw [w0y,nextslicecap_zero (by omega),A.hb];omega)
    simpa only [w0y,List.append_toArray,w0u] using this
  have hrun:=zR (x:=A.x) (y:=A.y) (a:=a) A.ho rfl A.ha A.hat (by rw [hnil,hv];exact hrun');have g:=yK.wB Λ.w (.cells (vs.toArray++Builtin.zeroCells A.z.cells (grownCap Λ.w ys.length 0 A.e - ys.length)) A.e)
  have h1:Kp Λ {Λ with fro:=ZG Λ.fro k ys.length}:=Kp.ZG (by omega)
  obtain ⟨k1,k2,k3⟩:=z6v (fr:=ys.length*sz) hr.s h1 Z7.ZG rfl rfl rfl (fun _=> .inl rfl) g hk rfl;have hge:=grownCap_ge Λ.w ys.length 0 A.e;refine ⟨_,_,hrun,k1,rfl,k2,.own ?_ hl hk (by simp [ZG]) (fun _=> .inr ⟨Λ.w.heap.size,_,_,_,rfl,by simp [zQ],g.top,?_,hge⟩),k3⟩
  ·refine Y9 (sz:=sz) (vs:=vs) g.top hge Z hl (fun o ho=>by simp [Rd,zQ];exact ho) (fun j v hj=>?_) hvl (fun j v x h1 h2=>(hvr j v x h1 h2).mono k1.fr)
   rw [w1c (by have:=(w02.1 hj).1;simpa using this)];simpa using hj
  ·simp only [w23,w1h,size_zeroCells,A.hzs,hvl];rw [←w13];congr 1;omega
theorem zax {sz bytes:Nat} {x' y':Ar} {ys:List (List T)} (A:z2E P o sz bytes x' y') (hxv:x'.u st= .zC) (hyv:(y'.u st).zw=some (.lst ys)) (hl:ZQ sz ys=true) (hroom:ys.length*bytes<=140737488355328) (h63:ys.length<=9223372036854775807):
  zM P o base st {v:= .own base sz ys,ob:=[(base,.arr ys.length)],n:=1}:=by
 intro C Λ a next Q hC hr hle hfree hnext;have hx1:=hr.opu A.hx;rw [hxv] at hx1
 obtain ⟨ad,hnil⟩:∃ad,a.eval A.x= .slice ad 0 0:=by generalize a.eval A.x=u at hx1;cases hx1;exact ⟨_,rfl⟩
 obtain ⟨hb1,hb2,hb3⟩:=hfree base (w09 _) (by simp);obtain ⟨v,Λ',h1,h2,h3,h4,h5,h6⟩:=z69 A hr hb1 hb2.fro hnil ((hr.opu A.hy).zw hyv) (Wn hl) hroom h63;unfold Oper.wp;rw [h1];exact hnext v Λ' h2 h3 h4 h5 (fun k hk _ hlt=>h6 k hk (by simp at hlt;omega))
theorem zb3 {sz bytes k:Nat} {x' y':Ar} {xs ys:List (List T)} (A:z2E P o sz bytes x' y') (hxv:x'.u st= .own k sz xs) (hk:zj st.s.sto k=some (.arr xs.length)) (hyv:(y'.u st).zw=some (.lst ys)) (hl:ZQ sz ys=true)
  (hroom:(xs.length+ys.length)*bytes<=140737488355328) (h63:xs.length+ys.length<=9223372036854775807):
  zM P o base st {v:= .own k sz (xs++ys),ob:=[(k,.arr (xs.length+ys.length))],rd:=true}:=by
 intro C Λ a next Q hC hr hle hfree hnext;have hx1:=hr.opu A.hx;rw [hxv] at hx1;obtain ⟨hkn,hfk⟩:=hr.s.sto k _ hk;have hfk:Λ.fro k=xs.length:=hfk;have hy1:=(hr.opu A.hy).zw hyv;have hlY:=Wn hl;unfold Oper.wp;generalize hxe:a.eval A.x=vx at hx1
 cases hx1 with
 |own hrep hsz _ _ how=>
 rcases how hfk.symm with ⟨⟨ad,rfl⟩,hx0⟩|⟨b,cap,arr,e',hvx,hlb,hhb,hac,hnc⟩
 ·have hxs:xs=[]:=w0q.1 hx0;subst hxs;obtain ⟨v,Λ',h1,h2,h3,h4,h5,h6⟩:=z69 A hr hkn hfk hxe hy1 hlY (by simpa using hroom) (by simpa using h63);rw [h1];refine hnext v Λ' h2 h3 (by simpa [S.app,Zf] using h4) (by simpa using h5) (fun j hj hn _=>h6 j hj ?_);rintro rfl;rw [hk] at hn;simp at hn
 ·subst hvx;by_cases hy0:ys.length=0
  ·have hys:ys=[]:=w0q.1 hy0;subst hys
   have hrun:(execOp a.eval o).run P Λ.w= .ok (.value (.slice (some ⟨b,0,none⟩) xs.length cap)) Λ.w:=by
    refine zR A.ho Z A.ha A.hat ?_;rw [hxe];generalize a.eval A.y=u at hy1
    cases hy1 with
    |lst a' cap' _ _ _ _ _ _ _ _ _ _ _=>exact yJ A.ht A.hi _ _ _ hnc a' cap' Λ.w
   rw [hrun];refine hnext _ Λ (Kp.refl Λ) Z ?_ (by simpa using zr.own hrep hsz hkn (by omega) how) (fun j hj _ _=>hj);refine hr.s.step (Kp.refl Λ) Z (fun j ob hj=>?_) hr.s.inj hr.s.new hr.s.bnd hr.s.frz (Z7.refl _);simp only [S.app,Zf] at hj;rw [Zb] at hj;split at hj
   ·rename_i e;subst e;simp at hj;subst hj;exact .inr ⟨hkn,hfk⟩
   ·exact .inl ⟨hj,fun _ _=>rfl,rfl⟩
  ·obtain ⟨yb,yoff,ycap,vs,hv,hcap,hvl,hvc,hvr⟩:=hy1.cells hlY (by omega) A.h0
   have hone:∀u∈vs,u.oneCell'=true:=by
    intro u hu;obtain ⟨j,hj⟩:=w0v.1 hu;have hjl:=(w02.1 hj).1
    have hfl:j<ys.flatten.length:=by rw [zO ys hlY];omega
    exact (hvr j u ys.flatten[j] hj (by simp)).Q1
   have hold:∃us:List Value,us.length=xs.length*sz/\(∀(j:Nat) (u:Value),us[j]?=some u->arr[j]?=some u)/\∀(j:Nat) (u:Value) (x:T),us[j]?=some u->xs.flatten[j]?=some x->zI Λ.lab Λ.w u x:=by
    by_cases hx0:xs.length=0
    ·exact ⟨[],by simp [hx0],by simp,by simp⟩
    ·obtain ⟨b',off',cap',us,e1,e2,e3,e4,e5⟩:=hrep.cells hsz (by omega) A.h0;simp at e1;obtain ⟨⟨rfl,rfl⟩,rfl⟩:=e1;refine ⟨us,e3,fun j u hu=>?_,e5⟩;have:=(e4 j u hu).1;rw [cell_of_row Λ.w b _ arr e' _ hhb] at this;simpa using this
   obtain ⟨us,hul,huc,hur⟩:=hold
   have hflat:(xs++ys).flatten=xs.flatten++ys.flatten:=by simp
   have hboth:∀(j:Nat) (u:Value) (x:T),(us++vs)[j]?=some u->(xs++ys).flatten[j]?=some x->zI Λ.lab Λ.w u x:=by
    intro j u x h1 h2;rw [hflat] at h2;have hxl:=zO xs hsz;by_cases hj:j<us.length
    ·rw [w0a hj] at h1;rw [w0a (by omega)] at h2;exact hur j u x h1 h2
    ·rw [w0b (by omega)] at h1;rw [w0b (by omega)] at h2;rw [hxl,←hul] at h2;exact hvr _ u x h1 h2
   by_cases hrm:xs.length+ys.length<=cap
   ·have hfit:xs.length*A.inf.size+vs.length<=arr.size:=by
     rw [A.hs,hvl,hac,←w13];exact w0s _ hrm
    have hrun':=wu (P:=P) (ty:=o.type) Λ.w A.ht A.hi b xs.length cap arr hhb ⟨yb,yoff,none⟩ ys.length ycap vs (by rw [A.hs];exact hvl) (fun j u hu=>by rw [y3];exact (hvc j u hu).1) hone hrm hfit
    have hrun:=zR (x:=A.x) (y:=A.y) (a:=a) A.ho rfl A.ha A.hat (by rw [hxe,hv];exact hrun');rw [hrun];rw [A.hs] at hfit⊢
    have harrL:∀j,j<xs.length*sz->(arr.toList.take (xs.length*sz)++vs++arr.toList.drop (xs.length*sz+vs.length)).toArray[j]?=arr[j]?:=by
     intro j hj
     have:(arr.toList.take (xs.length*sz)).length=xs.length*sz:=by simp;omega
     simp only [w28];rw [w1g,w0a (by omega),w0p,w0e hj];simp
    have hsz2:(arr.toList.take (xs.length*sz)++vs++arr.toList.drop (xs.length*sz+vs.length)).toArray.size=cap*sz:=by simp;omega
    have hget2:∀(j:Nat) (v:Value),(us++vs)[j]?=some v->(arr.toList.take (xs.length*sz)++vs++arr.toList.drop (xs.length*sz+vs.length)).toArray[j]?=some v:=by
     intro j v hj;by_cases hjl:j<us.length
     ·rw [w0a hjl] at hj;rw [harrL j (by omega)];exact huc j v hj
     ·rw [w0b (by omega)] at hj
      have:(arr.toList.take (xs.length*sz)).length=xs.length*sz:=by simp;omega
      simp only [w28];have hjv:=(w02.1 hj).1;rw [w1g,w0b (by omega),w0a (by omega),this,←hul];exact hj
    generalize (arr.toList.take (xs.length*sz)++vs++arr.toList.drop (xs.length*sz+vs.length)).toArray=A2 at*
    obtain ⟨k1,k2,k3⟩:=zcn (n:=xs.length+ys.length) (fr':=(xs.length+ys.length)*sz) hr.s (YH.setRow Λ.w b A2) hlb (w0s _ (by omega)) (fun o ho=>by
     rw [cell_setRow_same _ _ _ _ _ _ _ hhb,cell_of_row Λ.w b o arr e' _ hhb];exact harrL o ho) (by omega) Z
    refine hnext (.slice (some ⟨b,0,none⟩) (xs.length+ys.length) cap) _ k1 Z k2 (.own ?_ (ZR hsz hlY) hkn (by simp [ZG]) (fun _=> .inr ⟨b,cap,A2,e',by simp,by simp [zQ],setRow_heap _ _ _ _ _ _ hhb,hsz2,by simpa using hrm⟩)) (fun j hj _ _=>k3 j hj)
    ·exact Y9 (sz:=sz) (vs:=us++vs) (setRow_heap _ _ _ _ _ _ hhb) hrm (by simp) (ZR hsz hlY) (fun o ho=>by simp [Rd,zQ] at ho⊢;exact ho) hget2 (by simp [hul,hvl,w13]) (fun j v x h1 h2=>(hboth j v x h1 h2).mono k1.fr)
   ·have hrun':=run_append_grow (P:=P) Λ.w A.t o.type A.e A.inf A.z A.ht A.hi A.hz ⟨b,0,none⟩ xs.length cap us (by rw [A.hs];exact hul)
     (fun j u hu=>by rw [y3,cell_of_row Λ.w b _ arr e' _ hhb,w0y];exact huc j u hu) ⟨yb,yoff,none⟩ ys.length ycap vs (by rw [A.hs];exact hvl) (fun j u hu=>by rw [y3];exact (hvc j u hu).1) (by omega) (by omega)
     (by rw [A.hb];exact growslice_fits (by omega) hroom)
    have hrun:=zR (x:=A.x) (y:=A.y) (a:=a) A.ho rfl A.ha A.hat (by rw [hxe,hv];exact hrun');rw [hrun];have g:=yK.wB Λ.w (.cells (us.toArray++vs.toArray++Builtin.zeroCells A.z.cells (grownCap Λ.w (xs.length+ys.length) cap A.e - (xs.length+ys.length))) A.e);have h1:=Kp.left (n:=xs.length+ys.length) hlb (by omega)
    obtain ⟨k1,k2,k3⟩:=z6v (n:=xs.length+ys.length) (fr:=(xs.length+ys.length)*sz) hr.s h1 (Z7.left hlb) rfl rfl rfl (fun c=>by
     by_cases e:c=b
     ·subst e;exact .inr ⟨xs.length*sz,some (xs.length*sz),hlb,by simp [zQ]⟩
     ·exact .inl (by simp [zQ,e])) g hkn Z
    have hge:=grownCap_ge Λ.w (xs.length+ys.length) cap A.e;refine hnext (.slice (some ⟨Λ.w.heap.size,0,none⟩) (xs.length+ys.length) (grownCap Λ.w (xs.length+ys.length) cap A.e)) _ k1 Z k2 (.own ?_ (ZR hsz hlY) hkn (by simp [ZG]) (fun _=> .inr ⟨Λ.w.heap.size,grownCap Λ.w (xs.length+ys.length) cap A.e,_,A.e,by simp,by simp [zQ],g.top,?_,by simpa using hge⟩)) (fun j hj hn _=>k3 j hj ?_)
    ·refine Y9 (sz:=sz) (vs:=us++vs) g.top hge (by simp) (ZR hsz hlY) (fun o ho=>by simp [Rd,zQ] at ho⊢;exact ho) (fun j v hj=>?_) (by simp [hul,hvl,w13]) (fun j v x h1 h2=>(hboth j v x h1 h2).mono k1.fr)
     have hjl:=(w02.1 hj).1;rw [w1c (by simpa using hjl)]
     have:(us.toArray++vs.toArray)[j]?=(us++vs)[j]?:=by simp
     rw [this];exact hj
    ·simp only [w23,w1h,size_zeroCells,A.hzs,hvl,hul];rw [←w13,←w13];congr 1;omega
    ·rintro rfl;rw [hk] at hn;simp at hn
end
section
variable {P:Program} {o:Oper} {base:Nat} {st:St}
theorem z93 {sz:Nat}:∀(xs:List (List T)) (i:Nat) (c:List T),(∀(i:Nat) (c:List T),xs[i]?=some c->c.length=sz)->c.length=sz->i<xs.length->
  setAt (xs.flatten.map V.t) (i*sz) (c.map V.t)=((xs.set i c).flatten.map V.t):=by
 intro xs i c hs hc hi;apply w22;intro p;have hl:=zO xs hs
 have hs':∀(j:Nat) (d:List T),(xs.set i c)[j]?=some d->d.length=sz:=by
  intro j d hj;by_cases e:i=j
  ·subst e;rw [List.getElem?_set_self hi] at hj;simp at hj;subst hj;exact hc
  ·rw [List.getElem?_set_ne e] at hj;exact hs j d hj
 have hl':=zO (xs.set i c) hs'
 have hin:i*sz+sz<=xs.length*sz:=by rw [←Nat.succ_mul];exact w0s _ hi
 rw [QR _ _ _ _ (by simp only [w0r];omega)];simp only [w0r]
 rcases Nat.eq_zero_or_pos sz with h0|h0
 ·subst h0;have e1:xs.flatten=[]:=w0q.1 (by omega);have e2:(xs.set i c).flatten=[]:=w0q.1 (by omega);rw [w0g (by omega),e1,e2]
 by_cases hp:p<xs.length*sz
 ·have d1:p/sz<xs.length:=Nat.div_lt_of_lt_mul (by rwa [Nat.mul_comm] at hp);have d2:p%sz<sz:=Nat.mod_lt _ h0
  have d3:p/sz*sz+p%sz=p:=by rw [Nat.mul_comm];exact Nat.div_add_mod p sz
  by_cases hpi:p/sz=i
  ·subst hpi;rw [w0e (by omega)]
   have e:p - p/sz*sz=p%sz:=by omega
   have hcl:p%sz<c.length:=by omega
   have:=Yp (xs.set (p/sz) c) hs' (p/sz) (p%sz) c c[p%sz] (by simp [d1]) (by simp [hcl]);rw [d3] at this;rw [e];rw [w0c,w0c,this];simp [hcl]
  ·have hno:¬ (i*sz<=p/\p<i*sz+c.length):=by
    rintro ⟨h1,h2⟩;apply hpi;rw [hc] at h2
    have:p/sz=i:=by
     apply Nat.div_eq_of_lt_le
     ·exact h1
     ·rw [Nat.succ_mul];exact h2
    exact this
   rw [w0g hno]
   have hdl:p%sz<xs[p/sz].length:=by rw [hs (p/sz) _ (by simp [d1])];exact d2
   have a1:=Yp xs hs (p/sz) (p%sz) xs[p/sz] (xs[p/sz][p%sz]) (by simp [d1]) (by simp [hdl]);have a2:=Yp (xs.set i c) hs' (p/sz) (p%sz) xs[p/sz] (xs[p/sz][p%sz]) (by rw [w1q];simp [Ne.symm hpi,d1]) (by simp [hdl]);rw [d3] at a1 a2;rw [w0c,w0c,a1,a2]
 ·rw [w0g (by omega)];rw [w19 (by simp only [w0r];omega),w19 (by simp only [w0r];rw [hl'];simp;omega)]
theorem z2r {Λ:L} {v:Value} {x:V} {c:List T} (h:zr Λ v x) (hc:x.Zc=some c):YJ Λ v.cells (c.map V.t):=by
 have one:∀{v:Value} {y:T},v.cells=#[v]->zI Λ.lab Λ.w v y->YJ Λ v.cells [V.t y]:=by
  intro v y hv hy;rw [hv];refine ⟨rfl,fun j u d hu hd=>?_⟩
  cases j with
  |zero=>simp at hu hd;subst hu;subst hd;exact .t hy
  |succ j=>simp at hd
 have hone:∀{v:Value} {y:T},zI Λ.lab Λ.w v y->v.cells=#[v]:=by intro v y hy;cases hy<;>rfl
 have gen:∀{y:T},x.zw=some y->c=[y]->YJ Λ v.cells (c.map V.t):=by
  intro y h1 h2;subst h2;have:=h.zw h1;exact one (hone this) this
 cases h with
 |agg hs h=>
  simp only [V.Zc] at hc;rename_i vs cs
  have key:∀(cs:List V) (c:List T),cs.mapM V.zw=some c->cs.length=c.length/\∀(j:Nat) (d:V) (y:T),cs[j]?=some d->c[j]?=some y->d.zw=some y:=by
   intro cs
   induction cs with
   |nil=>intro c h;simp at h;subst h;simp
   |cons d cs ih=>
    intro c h;simp only [List.mapM_cons,w04,Option.pure_def,w01] at h;obtain ⟨y,hy,c',hc',h⟩:=h;simp at h;subst h;obtain ⟨i1,i2⟩:=ih c' hc'
    refine ⟨by simp [i1],fun j e z h1 h2=>?_⟩
    cases j with
    |zero=>simp at h1 h2;subst h1;subst h2;exact hy
    |succ j=>exact i2 j e z (by simpa using h1) (by simpa using h2)
  obtain ⟨k1,k2⟩:=key cs c hc
  refine ⟨by simp [Value.cells,hs,k1],fun j u d hu hd=>?_⟩
  rw [w0c,w06] at hd;obtain ⟨y,hy,rfl⟩:=hd
  have hlt:j<cs.length:=by rw [k1];exact (w02.1 hy).1
  have:=h j u cs[j] hu (by simp [hlt]);exact .t (this.zw (k2 j _ y (by simp [hlt]) hy))
 |t h=>simp [V.Zc,V.zw] at hc;exact gen Z hc.symm
 |zC=>simp [V.Zc,V.zw] at hc;exact gen Z hc.symm
 |own h a b c' d=>simp [V.Zc,V.zw] at hc;exact gen Z hc.symm
 |slc a c h=>simp [V.Zc,V.zw] at hc
 |tup _ _=>simp [V.Zc,V.zw] at hc
 |ptr a h=>simp [V.Zc,V.zw] at hc
 |mp a h=>simp [V.Zc,V.zw] at hc
 |fn hs h=>simp [V.Zc,V.zw] at hc
 |gd _ _=>simp [V.Zc,V.zw] at hc
 |top=>simp [V.Zc,V.zw] at hc
 |ub _ _=>simp [V.Zc,V.zw] at hc
 |fpt a h=>simp [V.Zc,V.zw] at hc
 |gpt a b c h=>simp [V.Zc,V.zw] at hc
 |gsl a b c h=>simp [V.Zc,V.zw] at hc
 |fow h a b c' d=>simp [V.Zc,V.zw] at hc;exact gen Z hc.symm
theorem z4S {C:Ctx} {Λ:L} {ac:Act} (h:Rel C Λ st ac) (sz:Nat):∀(parts:List (Nat×Operand)) (ps:List (Nat×Ar)) (arr:Array Value) (zs xs:List (List T)),
  slotsOf parts=some ps->YJ Λ arr (zs.flatten.map V.t)->(∀(i:Nat) (c:List T),zs[i]?=some c->c.length=sz)->ZA st sz zs ps=some xs->
  ∃arr',Instr.fill (fun i=>some (i*sz,sz)) arr (parts.map fun (i,x)=>(i,ac.eval x))=some arr'/\YJ Λ arr' (xs.flatten.map V.t)/\(∀(i:Nat) (c:List T),xs[i]?=some c->c.length=sz)/\xs.length=zs.length
 |[],ps,arr,zs,xs,hps,hr,hs,hf=>by
  simp [slotsOf] at hps;subst hps;simp [ZA] at hf;subst hf;exact ⟨arr,rfl,hr,hs,rfl⟩
 |(i,x)::parts,ps,arr,zs,xs,hps,hr,hs,hf=>by
  simp only [slotsOf] at hps;split at hps
  ·rename_i a l h1 h2;simp at hps;subst hps;simp only [ZA] at hf;split at hf
   ·rename_i c hc;split at hf
    ·rename_i hcond;have hrc:=z2r (h.opu h1) hc;have hfold:=YJ.foldl (i*sz) (ac.eval x).cells.toList (c.map V.t) 0 arr (zs.flatten.map V.t) (by simpa using hrc.1) (fun j a b e1 e2=>hrc.2 j a b (by simpa using e1) e2) hr;rw [w1w,z93 zs i c hs hcond.1 hcond.2] at hfold
     have hs':∀(j:Nat) (d:List T),(zs.set i c)[j]?=some d->d.length=sz:=by
      intro j d hj;by_cases e:i=j
      ·subst e;rw [List.getElem?_set_self hcond.2] at hj;simp at hj;subst hj;exact hcond.1
      ·rw [List.getElem?_set_ne e] at hj;exact hs j d hj
     obtain ⟨arr',e1,e2,e3,e4⟩:=z4S h sz parts l _ _ xs h2 hfold hs' hf
     refine ⟨arr',?_,e2,e3,by simpa using e4⟩
     have hsz:(ac.eval x).cells.size=sz:=by rw [hrc.1];simpa using hcond.1
     have hsz2:arr.size=zs.length*sz:=by rw [hr.1,w0r,zO zs hs]
     have hin:i*sz+sz<=zs.length*sz:=by rw [←Nat.succ_mul];exact w0s _ hcond.2
     simp only [w0n,Instr.fill,hsz]
     have:¬ (i*sz+sz>arr.size):=by omega
     simp only [ne_eq,not_true_eq_false,decide_false,this,Bool.or_self,w0h,w0x];rw [←e1];congr 1;rw [←Array.foldl_toList,Array.toList_zipIdx]
    ·simp at hf
   ·simp at hf
  ·simp at hps
theorem z02 {Λ:L} {zc:Array Value} {cs:List V} (h:YJ Λ zc cs) (n:Nat):YJ Λ ((Array.range (n*zc.size)).map (zc[· %zc.size]!)) (List.replicate n cs).flatten:=by
 have hall:∀(i:Nat) (c:List V),(List.replicate n cs)[i]?=some c->c.length=zc.size:=by
  intro i c hc;have:=zMG hc;rw [List.mem_replicate] at this;rw [this.2,h.1]
 have hlen:=zO _ hall;simp only [List.length_replicate] at hlen
 refine ⟨by simp [hlen],fun j v c hv hc=>?_⟩
 have hj:j<n*zc.size:=by have:=(w02.1 hc).1;omega
 have h0:0<zc.size:=by
  rcases Nat.eq_zero_or_pos zc.size with h|h;· rw [h] at hj;omega
  ·exact h
 have d1:j/zc.size<n:=Nat.div_lt_of_lt_mul (by rwa [Nat.mul_comm] at hj);have d2:j%zc.size<zc.size:=Nat.mod_lt _ h0
 have d3:j/zc.size*zc.size+j%zc.size=j:=by rw [Nat.mul_comm];exact Nat.div_add_mod j zc.size
 have hcl:j%zc.size<cs.length:=by rw [←h.1];exact d2
 have:=Yp _ hall (j/zc.size) (j%zc.size) cs cs[j%zc.size] (by simp [d1]) (by simp [hcl]);rw [d3,hc] at this;simp at this;subst this
 have hv':v=zc[j%zc.size]:=by
  rw [Array.getElem?_map,Array.getElem?_range] at hv;simp [hj] at hv;rw [←hv];simp [d2]
 subst hv';exact h.2 (j%zc.size) _ _ (Array.getElem?_eq_getElem d2) (w0f hcl)
theorem z0P:∀(cs:List V) (c:List T),cs.mapM V.zw=some c->cs.length=c.length/\∀(j:Nat) (d:V) (y:T),cs[j]?=some d->c[j]?=some y->d.zw=some y:=by
 intro cs
 induction cs with
 |nil=>intro c h;simp at h;subst h;simp
 |cons d cs ih=>
  intro c h;simp only [List.mapM_cons,w04,Option.pure_def,w01] at h;obtain ⟨y,hy,c',hc',h⟩:=h;simp at h;subst h;obtain ⟨i1,i2⟩:=ih c' hc'
  refine ⟨by simp [i1],fun j e z h1 h2=>?_⟩
  cases j with
  |zero=>simp at h1 h2;subst h1;subst h2;exact hy
  |succ j=>exact i2 j e z (by simpa using h1) (by simpa using h2)
theorem z50 {Λ:L} {arr:Array Value} {cs:List V} {c:List T} (h:YJ Λ arr cs) (hc:cs.mapM V.zw=some c):YJ Λ arr (c.map V.t):=by
 obtain ⟨k1,k2⟩:=z0P cs c hc
 refine ⟨by simp [h.1,k1],fun j u d hu hd=>?_⟩
 rw [w0c,w06] at hd;obtain ⟨y,hy,rfl⟩:=hd
 have hlt:j<cs.length:=by rw [k1];exact (w02.1 hy).1
 exact .t ((h.2 j u cs[j] hu (by simp [hlt])).zw (k2 j _ y (by simp [hlt]) hy))
theorem Qs {t e:TypeId} {i:TypeInfo} {z:Value} {n:Nat} {parts:Array (Nat×Operand)} {a:Act} {w:World} {arr:Array Value} (ho:o.op= .buildSlice t n parts) (ht:P.underlying t=some (.slice e)) (hi:P.info? e=some i) (hz:i.zero=some z) (hzs:z.cells.size=i.size)
  (hle:n*i.size<=16777216) (hf:Instr.fill (fun j=>some (j*i.size,i.size)) ((Array.range (n*z.cells.size)).map (z.cells[· %z.cells.size]!)) (parts.toList.map fun (j,x)=>(j,a.eval x))=some arr):
  (execOp a.eval o).run P w= .ok (.value (.slice (some ⟨w.heap.size,0,none⟩) n n)) (w.alloc (.cells arr e)):=by
 simp only [execOp,ho]
 have hle':¬ (16777216<n*i.size):=by omega
 rw [hzs] at hf;by_cases h0:n*i.size=0
 ·rw [h0] at hf
  have hf':Instr.fill (fun j=>some (j*i.size,i.size)) ((Array.range 0).map ((#[]:Array Value)[· %(#[]:Array Value).size]!)) (parts.toList.map fun (j,x)=>(j,a.eval x))=some arr:=by
   rw [←hf];congr 1;simp [Array.range_zero']
  simp [Instr.buildSlice,run_underlying ht,sizeOf,typeInfo,hi,h0,newRow];have hf2:=hf';simp at hf2;simp [hf2]
 ·simp [Instr.buildSlice,run_underlying ht,sizeOf,typeInfo,zeroValue,hi,hz,h0,hle',newRow];rw [←hzs] at hf;rw [hzs] at hf;simp [hf,hzs]
structure z4m (P:Program) (o:Oper) (sz:Nat) (zs:List (List T)) (ps:List (Nat×Ar)) where
 t:TypeId
 e:TypeId
 n:Nat
 parts:Array (Nat×Operand)
 zv:List V
 z:List T
 ho:o.op= .buildSlice t n parts
 ht:P.underlying t=some (.slice e)
 hs:ZF P e=some sz
 hzv:ZP P e=some zv
 hz:zv.mapM V.zw=some z
 hle:n*sz<=16777216
 hzs:zs=List.replicate n z
 hps:slotsOf parts.toList=some ps
theorem z34 {sz:Nat} {zs xs:List (List T)} {ps:List (Nat×Ar)} (B:z4m P o sz zs ps) {C:Ctx} {Λ:L} {a:Act} (hr:Rel C Λ st a) (hx:ZA st sz zs ps=some xs):
  ∃arr,(execOp a.eval o).run P Λ.w= .ok (.value (.slice (some ⟨Λ.w.heap.size,0,none⟩) xs.length xs.length)) (Λ.w.alloc (.cells arr B.e))/\YJ Λ arr (xs.flatten.map V.t)/\(∀(i:Nat) (c:List T),xs[i]?=some c->c.length=sz):=by
 obtain ⟨i,zval,hi,hz1,hlen,hok⟩:=y5 B.hzv
 have hsz:i.size=sz:=by have:=B.hs;unfold ZF at this;rw [hi] at this;simpa using this
 have hrc:=z50 (yf (Λ:=Λ) hok) B.hz
 have hzl:zval.cells.size=sz:=by rw [(yf (Λ:=Λ) hok).1,hlen];exact hsz
 have hmade:=z02 hrc B.n
 have hfl:(List.replicate B.n (B.z.map V.t)).flatten=(zs.flatten.map V.t):=by have e:=B.hzs;generalize B.n=n at*;generalize B.z=z at*;subst e;simp
 rw [hfl] at hmade
 have hzall:∀(i:Nat) (c:List T),zs[i]?=some c->c.length=sz:=by
  intro j c hc;rw [B.hzs] at hc;have:=zMG hc;rw [List.mem_replicate] at this;rw [this.2];have:=hrc.1;simp at this;omega
 obtain ⟨arr,e1,e2,e3,e4⟩:=z4S hr sz _ _ _ _ _ B.hps hmade hzall hx
 have hn:xs.length=B.n:=by have e:=congrArg List.length B.hzs;simp at e;omega
 refine ⟨arr,?_,e2,e3⟩;rw [hn];exact Qs B.ho B.ht hi hz1 (by rw [hzl,hsz]) (by rw [hsz];exact B.hle) (by rw [hsz];exact e1)
theorem zfj {sz:Nat} {zs xs:List (List T)} {ps:List (Nat×Ar)} (B:z4m P o sz zs ps) (hx:ZA st sz zs ps=some xs):zM P o base st {v:= .t (.lst xs)}:=by
 intro C Λ a next Q hC hr hle hfree hnext;obtain ⟨arr,h1,h2,h3⟩:=z34 B hr hx;unfold Oper.wp;rw [h1];have g:=yK.alloc Λ.w (.cells arr B.e);have hkp:=Kp.new g hr.s.new (.fix none)
 have hlab:∀b,zQ Λ.lab Λ.w.heap.size (.fix none) b=Λ.lab b:=by
  intro b;by_cases e:b=Λ.w.heap.size
  ·subst e;rw [zq];exact (hr.s.new _ (w09 _)).symm
  ·exact zx e
 have hfun:zQ Λ.lab Λ.w.heap.size (.fix none)=Λ.lab:=funext hlab;rw [hfun] at hkp;have hF:=Z7.new g hr.s.new (.fix none) rfl;rw [hfun] at hF
 refine hnext _ {Λ with w:=Λ.w.alloc (.cells arr B.e)} hkp Z ?_ ?_ (fun k hk _ _=>hk.ZX hF hk.obj hk.arr hk.fro)
 ·refine hr.s.step hkp Z (fun k ob hk=> .inl ⟨hk,fun b hb=>g.old ?_,rfl⟩) hr.s.inj (fun b hb=>hr.s.new b (by have:=g.size;simp only at hb;omega)) hr.s.bnd hr.s.frz hF
  rcases w1a b Λ.w.heap.size with h'|h'
  ·exact h'
  ·rw [hr.s.new b h'] at hb;simp at hb
 ·refine .t (Y9 (sz:=sz) (vs:=arr.toList) g.top (w09 _) Z h3 (fun o _=>by simp [Rd,hr.s.new _ (w09 _)]) (fun j v hj=>by simpa using hj) (by rw [w1o,h2.1,w0r,zO xs h3]) fun j v x e1 e2=>?_)
  exact (h2.2 j v (.t x) (by simpa using e1) (by simp only [w0c,e2];rfl)).ZL.mono hkp.fr
theorem zaQ {sz:Nat} {zs xs:List (List T)} {ps:List (Nat×Ar)} (B:z4m P o sz zs ps) (hx:ZA st sz zs ps=some xs) (he:xs=[]):zM P o base st {v:= .zC}:=by
 intro C Λ a next Q hC hr hle hfree hnext;obtain ⟨arr,h1,h2,h3⟩:=z34 B hr hx;subst he;unfold Oper.wp;rw [h1];have g:=yK.alloc Λ.w (.cells arr B.e);have hkp:=Kp.new g hr.s.new (.fix none)
 have hlab:∀b,zQ Λ.lab Λ.w.heap.size (.fix none) b=Λ.lab b:=by
  intro b;by_cases e:b=Λ.w.heap.size
  ·subst e;rw [zq];exact (hr.s.new _ (w09 _)).symm
  ·exact zx e
 have hfun:zQ Λ.lab Λ.w.heap.size (.fix none)=Λ.lab:=funext hlab;rw [hfun] at hkp;have hF:=Z7.new g hr.s.new (.fix none) rfl;rw [hfun] at hF
 refine hnext _ {Λ with w:=Λ.w.alloc (.cells arr B.e)} hkp Z ?_ ?_ (fun k hk _ _=>hk.ZX hF hk.obj hk.arr hk.fro)
 ·refine hr.s.step hkp Z (fun k ob hk=> .inl ⟨hk,fun b hb=>g.old ?_,rfl⟩) hr.s.inj (fun b hb=>hr.s.new b (by have:=g.size;simp only at hb;omega)) hr.s.bnd hr.s.frz hF
  rcases w1a b Λ.w.heap.size with h'|h'
  ·exact h'
  ·rw [hr.s.new b h'] at hb;simp at hb
 ·exact .zC
theorem zbf {sz:Nat} {zs xs:List (List T)} {ps:List (Nat×Ar)} (B:z4m P o sz zs ps) (hx:ZA st sz zs ps=some xs):zM P o base st {v:= .own base sz xs,ob:=[(base,.arr xs.length)],n:=1}:=by
 intro C Λ a next Q hC hr hle hfree hnext;obtain ⟨arr,h1,h2,h3⟩:=z34 B hr hx;unfold Oper.wp;rw [h1];obtain ⟨hb1,hb2,hb3⟩:=hfree base (w09 _) (by simp);have g:=yK.alloc Λ.w (.cells arr B.e)
 have hk1:Kp Λ {Λ with fro:=ZG Λ.fro base xs.length}:=Kp.ZG (by rw [hb2.fro];omega)
 obtain ⟨k1,k2,k3⟩:=z6v (fr:=xs.length*sz) hr.s hk1 Z7.ZG rfl rfl rfl (fun _=> .inl rfl) g hb1 rfl
 have hal:arr.size=xs.length*sz:=by rw [h2.1,w0r,zO xs h3]
 refine hnext _ _ k1 Z k2 (.own ?_ h3 hb1 (by simp [ZG]) (fun _=> .inr ⟨Λ.w.heap.size,xs.length,arr,B.e,rfl,by simp [zQ],g.top,hal,w09 _⟩)) (fun k hk _ hlt=>k3 k hk (by simp at hlt;omega))
 refine Y9 (sz:=sz) (vs:=arr.toList) g.top (w09 _) Z h3 (fun o ho=>by simp [Rd,zQ];exact ho) (fun j v hj=>by simpa using hj) (by rw [w1o,hal]) fun j v x e1 e2=>?_
 exact (h2.2 j v (.t x) (by simpa using e1) (by simp only [w0c,e2];rfl)).ZL.mono k1.fr
theorem zfH {t e:TypeId} {l:Nat} {i:TypeInfo} {zs:List V} {k:IntKind} {m:Int} (ho:o.op= .makeSlice t (.tmp l) (.tmp l)) (ht:P.underlying t=some (.slice e)) (hi:P.info? e=some i) (hz:ZP P e=some zs)
  (hm:(look st.env l).ug= .t (.int k m)) (h0:0<=m) (hb:m*i.bytes<=281474976710656) (h63:m<=9223372036854775807):
  zM P o base st {v:= .slc base 0 m.toNat i.size,ob:=[(base,.cells (List.replicate m.toNat zs).flatten)],n:=1}:=by
 intro C Λ a next Q hC hr hle hfree hnext;obtain ⟨i',z,hi',hz1,hlen,hok⟩:=y5 hz;rw [hi] at hi';simp at hi';subst hi';have hl:=(hr.env l).ug;rw [hm] at hl;have el:a.eval (.tmp l)= .int k m:=hl.ZL.yc;have hrc:=yf (Λ:=Λ) hok
 have hzl:z.cells.size=i.size:=by rw [hrc.1,hlen]
 have hrun:(execOp a.eval o).run P Λ.w= .ok (.value (.slice (some ⟨Λ.w.heap.size,0,none⟩) m.toNat m.toNat)) (Λ.w.alloc (.cells (madeCells z.cells (m.toNat*i.size)) e)):=by
  simp only [execOp,ho,el];simp [run_make (P:=P) Λ.w t e i z ht hi hz1 k k m m h0 (Int.le_refl _) (by rw [Int.mul_comm];exact hb) h63]
 unfold Oper.wp;rw [hrun];obtain ⟨hb1,hb2,hb3⟩:=hfree base (w09 _) (by simp);have g:=yK.alloc Λ.w (.cells (madeCells z.cells (m.toNat*i.size)) e);have hkp:=Kp.new g hr.s.new (.obj base);have hmade:=z02 hrc m.toNat;rw [hzl] at hmade
 have hmm:YJ Λ (madeCells z.cells (m.toNat*i.size)) (List.replicate m.toNat zs).flatten:=by
  unfold madeCells;rw [hzl];exact hmade
 obtain ⟨k1,k2,k3⟩:=z08 hr.s g hb1 hb2 rfl (ao:= .cells (List.replicate m.toNat zs).flatten) ⟨Λ.w.heap.size,_,_,by simp [zq],g.top,hmm.1,fun j v c e1 e2=>(hmm.2 j v c e1 e2).mono hkp⟩
 exact hnext _ _ k1 Z k2 (.slc hb1 (w09 _) (by simp [zq])) (fun k hk _ hlt=>k3 k hk (by simp at hlt;omega))
end
def Tv:T->Value
 | .bool b=> .bool b
 | .int k n=> .int k n
 | .str s=> .string ⟨⟨s⟩⟩
 |_=>undef
def kv (kag:Bool) (cs:List T):Value:=if kag then .agg (cs.map Tv).toArray else match cs with|[x]=>Tv x|_=>undef
theorem zI.plain {l:Nat->Lab} {w:World} {v:Value} {x:T} {s:KSh} (h:zI l w v x) (hk:s.ok x=true):v=Tv x:=by
 cases h<;>first |rfl|(cases s<;>simp [KSh.ok] at hk)
theorem qh:∀{ks:List KSh} {cs:List T},Zd ks cs=true->ks.length=cs.length/\∀(j:Nat) (s:KSh) (x:T),ks[j]?=some s->cs[j]?=some x->s.ok x=true
 |[],[],_=>⟨rfl,by simp⟩
 |[],_::_,h=>by simp [Zd] at h
 |_::_,[],h=>by simp [Zd] at h
 |s::r,x::c,h=>by
  simp only [Zd,w07] at h;obtain ⟨h1,h2⟩:=qh h.2
  refine ⟨by simp [h1],fun j t y a b=>?_⟩
  cases j with
  |zero=>simp at a b;subst a;subst b;exact h.1
  |succ j=>exact h2 j t y (by simpa using a) (by simpa using b)
theorem q9.plain {l:Nat->Lab} {w:World} {kag:Bool} {v:Value} {cs:List T} {ks:List KSh} (h:q9 l w kag v cs) (hk:Zd ks cs=true):v=kv kag cs:=by
 obtain ⟨h1,h2⟩:=qh hk;unfold q9 at h
 cases kag with
 |true=>
  obtain ⟨vs,rfl,hs,hv⟩:=h;simp only [kv,w17];congr 1;apply Array.ext
  ·simp [hs]
  ·intro j a b
   have hjc:j<cs.length:=by rw [←hs];exact a
   have hjk:j<ks.length:=by omega
   have:=(hv j vs[j] cs[j] (by simp [a]) (by simp [hjc])).plain (h2 j ks[j] cs[j] (by simp [hjk]) (by simp [hjc]));simpa using this
 |false=>
  obtain ⟨x,rfl,hv⟩:=h
  have hkl:ks.length=1:=by simpa using h1
  have:=hv.plain (h2 0 (ks[0]'(by omega)) x (by simp) rfl);simpa [kv] using this
structure z3N (P:Program) (kt:TypeId) (ks:List KSh) (kag:Bool):Prop where
 sh:YT P kt=some (ks,kag)
section
variable {P:Program}
theorem qI {t:TypeId} {d:TypeDesc} (hu:P.underlying t=some d) (hd:d= .bool∨(∃k,d= .int k)∨d= .string) {vs:Array Value} {off:Nat} {v:Value} (hv:vs[off]?=some v) (w:World):(part t vs off).run P w= .ok v w:=by
 refine z3K hu ?_ hv w;unfold Z5;rw [hu]
 rcases hd with rfl|⟨k,rfl⟩|rfl<;>rfl
theorem z1n (d:Nat):∀(fs:List Field) (ks:List KSh) (i:Nat) (cs ds:List T) (xs ys:Array Value) (w:World),YW P i fs=some ks->Zd ks cs=true->Zd ks ds=true->
  (∀(j:Nat) (x:T),cs[j]?=some x->xs[i+j]?=some (Tv x))->(∀(j:Nat) (x:T),ds[j]?=some x->ys[i+j]?=some (Tv x))->(Op.eqFields (d+1) xs ys fs).run P w= .ok (ZY cs ds) w
 |[],ks,i,cs,ds,xs,ys,w,hf,hc,hd,_,_=>by
  simp [YW] at hf;subst hf
  cases cs<;>simp [Zd] at hc
  cases ds<;>simp [Zd] at hd
  simp [Op.eqFields,ZY]
 |f::r,ks,i,cs,ds,xs,ys,w,hf,hc,hd,hx,hy=>by
  simp only [YW] at hf;split at hf
  ·rename_i hfo;obtain ⟨ho,hn⟩:=hfo
   have main:∀(s:KSh) (l:List KSh),YW P (i+1) r=some l->ks=s::l->
     (∀(x y:T),s.ok x=true->s.ok y=true->(∀w,(part f.type xs f.offset).run P w= .ok (Tv x) w->(part f.type ys f.offset).run P w= .ok (Tv y) w->True)/\∀w,(Op.equalIn (d+1) f.type (Tv x) (Tv y)).run P w= .ok (x.eqb y) w)->
     (∀(vs:Array Value) (v:Value) (w:World),vs[f.offset]?=some v->(part f.type vs f.offset).run P w= .ok v w)->
     (Op.eqFields (d+1) xs ys (f::r)).run P w= .ok (ZY cs ds) w:=by
    intro s l hl hks heq hpart;subst hks
    cases cs with
    |nil=>simp [Zd] at hc
    |cons x cs=>
     cases ds with
     |nil=>simp [Zd] at hd
     |cons y ds=>
      simp only [Zd,w07] at hc hd;have hx0:=hx 0 x rfl;have hy0:=hy 0 y rfl;simp only [w1w] at hx0 hy0;have e1:=hpart xs (Tv x) w (by rw [ho];exact hx0);have e2:=hpart ys (Tv y) w (by rw [ho];exact hy0);have e3:=(heq x y hc.1 hd.1).2 w
      have ih:=z1n d r l (i+1) cs ds xs ys w hl hc.2 hd.2 (fun j z hj=>by have:=hx (j+1) z (by simpa using hj);rw [←this];congr 1;omega) (fun j z hj=>by have:=hy (j+1) z (by simpa using hj);rw [←this];congr 1;omega)
      simp only [Op.eqFields,hn,ne_eq,not_false_eq_true,w17,Sem.run_bind,e1,e2,e3,Result.andThen_ok,ZY]
      cases x.eqb y with
      |true=>simpa using ih
      |false=>simp
   split at hf
   ·rename_i l hu hl;simp at hf
    exact main .bool l hl hf.symm (fun x y hxo hyo=>⟨fun _ _ _=>trivial,fun w=>by
     cases x<;>simp [KSh.ok] at hxo
     cases y<;>simp [KSh.ok] at hyo
     simp only [Tv,T.eqb]
     exact run_equalIn_bool w d f.type _ _ hu⟩) (fun vs v w hv=>qI hu (.inl Z) hv w)
   ·rename_i k l hu hl;simp at hf
    exact main (.int k) l hl hf.symm (fun x y hxo hyo=>⟨fun _ _ _=>trivial,fun w=>by
     cases x<;>simp [KSh.ok] at hxo
     cases y<;>simp [KSh.ok] at hyo
     subst hxo;subst hyo;simp only [Tv,T.eqb]
     exact run_equalIn_int w d f.type _ _ _ _ hu⟩) (fun vs v w hv=>qI hu (.inr (.inl ⟨k,rfl⟩)) hv w)
   ·rename_i l hu hl;simp at hf
    exact main .str l hl hf.symm (fun x y hxo hyo=>⟨fun _ _ _=>trivial,fun w=>by
     cases x<;>simp [KSh.ok] at hxo
     cases y<;>simp [KSh.ok] at hyo
     simp only [Tv,T.eqb]
     rw [run_equalIn_string w d f.type _ _ hu,toList_mk,toList_mk]⟩) (fun vs v w hv=>qI hu (.inr (.inr rfl)) hv w)
   ·cases hf
  ·cases hf
theorem zfa (cs:List T) (j:Nat) (x:T) (h:cs[j]?=some x):((cs.map Tv).toArray)[0+j]?=some (Tv x):=by
 simp [h]
theorem z1i {kt:TypeId} {ks:List KSh} (hk:z3N P kt ks true) {cs ds:List T} (hc:Zd ks cs=true) (hd:Zd ks ds=true) (d:Nat) (w:World):(Op.equalIn (d+2) kt (kv true cs) (kv true ds)).run P w= .ok (ZY cs ds) w:=by
 have h:=hk.sh;unfold YT at h
 split at h<;>try (simp at h;done)
 rename_i fs hu;split at h
 ·rename_i hst;simp only [w06,w05,and_true] at h;obtain ⟨l,hl,rfl⟩:=h
  have hfo:P.fieldsOf kt=fs:=by simp [Program.fieldsOf,hu]
  have ht:P.underlying kt=some (.struct (P.fieldsOf kt)):=by rw [hfo];exact hu
  simp only [kv,w17];rw [run_equalIn_struct w (d+1) kt _ _ ht hst.1,hfo];exact z1n d fs.toList l 0 cs ds _ _ w hl hc hd (zfa cs) (zfa ds)
 ·cases h
theorem QB {kt:TypeId} {k:Value} {w:World} {cs:List T}:∀(l:List MapEntry) (es:List (List T×V)) (i:Nat),l.length=es.length->
  (∀(j:Nat) (e:MapEntry) (x:List T×V),l[j]?=some e->es[j]?=some x->(Op.equal kt k e.key).run P w= .ok (ZY cs x.1) w)->
  (Instr.findAsking kt k l i).run P w= .ok (match ZZ cs es with|some j=>(l[j]?).map fun e=>(i+j,e.val)|none=>none) w
 |[],[],i,_,_=>by simp [Instr.findAsking,ZZ]
 |[],_::_,i,h,_=>by simp at h
 |_::_,[],i,h,_=>by simp at h
 |e::l,x::es,i,h,hq=>by
  have h0:=hq 0 e x rfl rfl;have ih:=QB (w:=w) l es (i+1) (by simpa using h) (fun j e x a b=>hq (j+1) e x (by simpa using a) (by simpa using b));simp only [Instr.findAsking,Sem.run_bind,h0,Result.andThen_ok,ZZ]
  cases hc:ZY cs x.1 with
  |true=>simp
  |false=>
   simp only [w0h,w0x,ih]
   cases ZZ cs es with
   |none=>simp
   |some j=>simp [w1e,w2c 1 j]
theorem z2D {k:Value} {kd:TypeDesc} {cs:List T}:∀(l:List MapEntry) (es:List (List T×V)) (i:Nat),l.length=es.length->
  (∀(j:Nat) (e:MapEntry) (x:List T×V),l[j]?=some e->es[j]?=some x->Instr.sameNow kd k e.key=some (ZY cs x.1))->
  Instr.findNow kd k l i=some (match ZZ cs es with|some j=>(l[j]?).map fun e=>(i+j,e.val)|none=>none)
 |[],[],i,_,_=>by simp [Instr.findNow,ZZ]
 |[],_::_,i,h,_=>by simp at h
 |_::_,[],i,h,_=>by simp at h
 |e::l,x::es,i,h,hq=>by
  have h0:=hq 0 e x rfl rfl;have ih:=z2D l es (i+1) (by simpa using h) (fun j e x a b=>hq (j+1) e x (by simpa using a) (by simpa using b));simp only [Instr.findNow,h0,ZZ]
  cases hc:ZY cs x.1 with
  |true=>simp
  |false=>
   simp only [w0h,w0x,ih]
   cases ZZ cs es with
   |none=>simp
   |some j=>simp [w1e,w2c 1 j]
theorem zdQ (a b:List UInt8):((⟨⟨a⟩⟩:ByteArray)==⟨⟨b⟩⟩)=(a==b):=by
 rw [beq_toListBytes,toList_mk,toList_mk]
theorem z0l {kt:TypeId} {s:KSh} (hk:z3N P kt [s] false) {x y:T} (hx:s.ok x=true) (hy:s.ok y=true):∃d,P.underlying kt=some d/\Instr.sameNow d (Tv x) (Tv y)=some (x.eqb y)/\MapKept.IsKey d (Tv x):=by
 have h:=hk.sh;unfold YT at h
 split at h<;>try (simp at h;done)
 ·rename_i hu;simp at h;subst h
  cases x<;>simp [KSh.ok] at hx
  cases y<;>simp [KSh.ok] at hy
  exact ⟨_,hu,rfl,by simp [MapKept.IsKey,Tv]⟩
 ·rename_i k hu;simp at h;subst h
  cases x<;>simp [KSh.ok] at hx
  cases y<;>simp [KSh.ok] at hy
  subst hx;subst hy
  exact ⟨_,hu,by simp [Instr.sameNow,Tv,T.eqb],by simp [MapKept.IsKey,Tv]⟩
 ·rename_i hu;simp at h;subst h
  cases x<;>simp [KSh.ok] at hx
  cases y<;>simp [KSh.ok] at hy
  exact ⟨_,hu,by simp [Instr.sameNow,Tv,T.eqb,zdQ],by simp [MapKept.IsKey,Tv]⟩
theorem WY {Λ:L} {u:Value} {x:V} {ks:List KSh} {kag:Bool} {cs:List T} (h:zr Λ u x) (hk:z0g ks kag x=some cs):u=kv kag cs/\Zd ks cs=true:=by
 unfold z0g at hk;split at hk
 ·rename_i c hc;split at hk
  ·rename_i hb;simp only [w07,beq_iff_eq] at hb;simp at hk;subst hk;refine ⟨?_,hb.1⟩;have hrc:=z2r h hc;refine q9.plain (l:=Λ.lab) (w:=Λ.w) ?_ hb.1;obtain ⟨h1,h2⟩:=qh hb.1;unfold q9
   cases h with
   |agg hs hv=>
    have:kag=true:=by simpa [V.isAgg] using hb.2.symm
    subst this
    refine ⟨_,rfl,by simpa [Value.cells] using hrc.1,fun j u y hj hy=>?_⟩
    have:=hrc.2 j u (.t y) (by simpa [Value.cells] using hj) (by simp [hy]);exact this.ZL
   |t hx=>
    have:kag=false:=by simpa [V.isAgg] using hb.2.symm
    subst this;simp [V.Zc,V.zw] at hc;subst hc;exact ⟨_,rfl,hx⟩
   |zC=>
    simp [V.Zc,V.zw] at hc;subst hc
    cases ks with
    |nil=>simp [Zd] at hb
    |cons s r=>cases s<;>simp [Zd,KSh.ok] at hb
   |own a b c d e=>
    simp [V.Zc,V.zw] at hc;subst hc
    cases ks with
    |nil=>simp [Zd] at hb
    |cons s r=>cases s<;>simp [Zd,KSh.ok] at hb
   |fow a b c d e=>
    simp [V.Zc,V.zw] at hc;subst hc
    cases ks with
    |nil=>simp [Zd] at hb
    |cons s r=>cases s<;>simp [Zd,KSh.ok] at hb
   |fpt _ _=>simp [V.Zc,V.zw] at hc
   |gpt _ _ _ _=>simp [V.Zc,V.zw] at hc
   |gsl _ _ _ _=>simp [V.Zc,V.zw] at hc
   |slc _ _ _=>simp [V.Zc,V.zw] at hc
   |tup _ _=>simp [V.Zc,V.zw] at hc
   |ptr _ _=>simp [V.Zc,V.zw] at hc
   |mp _ _=>simp [V.Zc,V.zw] at hc
   |fn _ _=>simp [V.Zc,V.zw] at hc
   |gd _ _=>simp [V.Zc,V.zw] at hc
   |top=>simp [V.Zc,V.zw] at hc
   |ub _ _=>simp [V.Zc,V.zw] at hc
  ·cases hk
 ·cases hk
theorem QK {kt:TypeId} {ks:List KSh} (hk:z3N P kt ks false):∃s,ks=[s]:=by
 have h:=hk.sh;unfold YT at h;split at h
 ·simp at h;exact ⟨_,h.symm⟩
 ·simp at h;exact ⟨_,h.symm⟩
 ·simp at h;exact ⟨_,h.symm⟩
 ·split at h<;>simp at h
 ·cases h
theorem Wi {s:KSh} {cs:List T} (h:Zd [s] cs=true):∃x,cs=[x]/\s.ok x=true:=by
 match cs,h with
 |[x],h=>exact ⟨x,rfl,by simpa [Zd] using h⟩
 |_::_::_,h=>simp [Zd] at h
theorem qm {kt:TypeId} {ks:List KSh} {kag:Bool} (hK:z3N P kt ks kag) {cs:List T} (hc:Zd ks cs=true) {ents:Array MapEntry} {es:List (List T×V)} (hsz:ents.size=es.length)
  (hkeys:∀(i:Nat) (e:MapEntry) (x:List T×V),ents[i]?=some e->es[i]?=some x->e.key=kv kag x.1) (hok:yg ks es=true) (w:World):
  (Instr.findKey kt (kv kag cs) ents.toList).run P w= .ok (match ZZ cs es with|some j=>(ents[j]?).map fun e=>(j,e.val)|none=>none) w:=by
 have hko:∀(i:Nat) (x:List T×V),es[i]?=some x->Zd ks x.1=true:=by
  intro i x hx;unfold yg at hok;rw [w0i] at hok;exact hok x (zMG hx)
 have hlen:ents.toList.length=es.length:=by simpa using hsz
 have hat:∀(j:Nat),ents.toList[j]?=ents[j]?:=fun j=>by simp
 cases kag with
 |false=>
  obtain ⟨s,rfl⟩:=QK hK;obtain ⟨x,rfl,hx⟩:=Wi hc;obtain ⟨d,hd,_,_⟩:=z0l hK hx hx
  have:=z2D (k:=kv false [x]) (kd:=d) (cs:=[x]) ents.toList es 0 hlen (fun j e y a b=>by
   obtain ⟨z,hz,hzo⟩:=Wi (hko j y b);obtain ⟨d',hd',h1,_⟩:=z0l hK hx hzo;rw [hd] at hd';simp at hd';subst hd';have he:=hkeys j e y (by rw [←hat];exact a) b;rw [he,hz]
   simp only [kv,w0h,w0x,h1,ZY,w2a])
  rw [MapKept.run_findKey hd this]
  cases ZZ [x] es with
  |none=>rfl
  |some j=>simp
 |true=>
  have hst:∃fs,P.underlying kt=some (.struct fs):=by
   have h:=hK.sh;unfold YT at h
   split at h<;>simp at h
   exact ⟨_,by assumption⟩
  obtain ⟨fs,hfs⟩:=hst
  have hfk:(Instr.findKey kt (kv true cs) ents.toList).run P w=(Instr.findAsking kt (kv true cs) ents.toList).run P w:=by
   cases hl:ents.toList with
   |nil=>simp [Instr.findKey,run_underlying hfs,Instr.findNow,Instr.findAsking]
   |cons e r=>simp [Instr.findKey,run_underlying hfs,Instr.findNow,Instr.sameNow]
  rw [hfk,QB (cs:=cs) ents.toList es 0 hlen (fun j e y a b=>by
   have he:=hkeys j e y (by rw [←hat];exact a) b;rw [he]
   exact z1i hK hc (hko j y b) 9998 w)]
  cases ZZ cs es with
  |none=>rfl
  |some j=>simp
theorem z2y:∀(fs:List Field) (i:Nat) (ks:List KSh),YW P i fs=some ks->∀f∈fs,f.name≠ "_"/\∃(j:Nat) (s:KSh) (d:TypeDesc),ks[j]?=some s/\f.offset=i+j/\P.underlying f.type=some d/\(d= .bool∨(∃k,d= .int k)∨d= .string)
 |[],_,_,_,f,hf=>by simp at hf
 |g::r,i,ks,h,f,hf=>by
  simp only [YW] at h;split at h
  ·rename_i hgo
   have main:∀(s:KSh) (l:List KSh) (d:TypeDesc),YW P (i+1) r=some l->ks=s::l->P.underlying g.type=some d->(d= .bool∨(∃k,d= .int k)∨d= .string)->f.name≠ "_"/\∃(j:Nat) (s:KSh) (d:TypeDesc),ks[j]?=some s/\f.offset=i+j/\P.underlying f.type=some d/\(d= .bool∨(∃k,d= .int k)∨d= .string):=by
    intro s l d hl hks hu hd;subst hks
    rcases w0t.1 hf with e|e
    ·subst e;exact ⟨hgo.2,0,s,d,rfl,hgo.1,hu,hd⟩
    ·obtain ⟨h1,j,s',d',h2,h3,h4⟩:=z2y r (i+1) l hl f e
     exact ⟨h1,j+1,s',d',by simpa using h2,by omega,h4⟩
   split at h
   ·rename_i hu hl;simp at h;exact main _ _ _ hl h.symm hu (.inl Z)
   ·rename_i hu hl;simp at h;exact main _ _ _ hl h.symm hu (.inr (.inl ⟨_,rfl⟩))
   ·rename_i hu hl;simp at h;exact main _ _ _ hl h.symm hu (.inr (.inr Z))
   ·cases h
  ·cases h
theorem YU {t:TypeId} {d:TypeDesc} (hu:P.underlying t=some d) (hd:d= .bool∨(∃k,d= .int k)∨d= .string) (em:Bool) (n:Nat) (v:Value) (w:World):(Instr.checkKey em (n+1) t v).run P w= .ok () w:=by
 rcases hd with rfl|⟨k,rfl⟩|rfl<;>simp [Instr.checkKey,run_underlying hu]
theorem Y1 {kt:TypeId} {ks:List KSh} {kag:Bool} (hK:z3N P kt ks kag) {cs:List T} (hc:Zd ks cs=true) (em:Bool) (w:World):(Instr.checkKey em 10000 kt (kv kag cs)).run P w= .ok () w:=by
 have h:=hK.sh;unfold YT at h;split at h
 ·rename_i hu;exact YU hu (.inl Z) em 9999 _ w
 ·rename_i hu;exact YU hu (.inr (.inl ⟨_,rfl⟩)) em 9999 _ w
 ·rename_i hu;exact YU hu (.inr (.inr Z)) em 9999 _ w
 ·rename_i fs hu;split at h
  ·simp only [w06,w05] at h;obtain ⟨l,hl,rfl,rfl⟩:=h;have each:=z2y fs.toList 0 l hl;obtain ⟨hlen,_⟩:=qh hc;show (Instr.checkKey em (9998+1+1) kt (kv true cs)).run P w= .ok () w;rw [Instr.checkKey];simp only [Sem.run_bind,run_underlying hu,Result.andThen_ok,kv,w17];rw [←Array.forIn_toList];generalize fs.toList=L at each
   induction L with
   |nil=>simp
   |cons f L ih=>
    obtain ⟨hn,j,s,d,h1,h2,h3,h4⟩:=each f (by simp)
    have hlt:j<cs.length:=by rw [←hlen];exact (w02.1 h1).1
    have p1:(part f.type (cs.map Tv).toArray f.offset).run P w= .ok (Tv cs[j]) w:=qI h3 h4 (by rw [h2];simp [hlt]) w;have p2:=YU h3 h4 em 9998 (Tv cs[j]) w;simp only [List.forIn_cons,Sem.run_bind,hn,ne_eq,not_false_eq_true,w17,Result.andThen_ok,p1,p2,Sem.run_pure];exact ih fun g hg=>each g (by simp [hg])
  ·cases h
 ·cases h
theorem z2P (x:T) (n:Nat):(∃s:KSh,s.ok x=true)->Instr.sameBits n (Tv x) (Tv x)=true:=by
 rintro ⟨s,hs⟩
 cases x<;>cases s<;>simp [KSh.ok] at hs<;>cases n<;>simp [Tv,Instr.sameBits,zdQ]
theorem z61 {kt:TypeId} {ks:List KSh} {kag:Bool} (hK:z3N P kt ks kag) {cs:List T} (hc:Zd ks cs=true) (w:World):(Instr.keyThatStays (kv kag cs) (kv kag cs)).run P w= .ok (kv kag cs) w:=by
 have hs:Instr.sameBits 10000 (kv kag cs) (kv kag cs)=true:=by
  obtain ⟨h1,h2⟩:=qh hc
  cases kag with
  |true=>
   simp only [kv,w17];rw [Instr.sameBits];simp only [w1h,w0r,BEq.rfl,w1b];rw [w0i];intro p hp
   have hz:∀(l:List Value) (p:Value×Value),p∈l.zip l->p.1=p.2/\p.1∈l:=by
    intro l
    induction l with
    |nil=>intro p h;simp at h
    |cons a l ih=>
     intro p h;simp only [List.zip_cons_cons,w0t] at h
     rcases h with rfl|h
     ·simp
     ·obtain ⟨a1,a2⟩:=ih p h;exact ⟨a1,w0k _ a2⟩
   obtain ⟨e1,e2⟩:=hz _ p hp;simp only [w0m] at e2;obtain ⟨x,hx,e3⟩:=e2;obtain ⟨j,hj⟩:=w0v.1 hx
   have hlt:j<ks.length:=by rw [h1];exact (w02.1 hj).1
   obtain ⟨a,b⟩:=p;simp only at e1 e3⊢;rw [←e1,←e3];exact z2P x 9999 ⟨ks[j],h2 j ks[j] x (by simp [hlt]) hj⟩
  |false=>
   obtain ⟨s,rfl⟩:=QK hK;obtain ⟨x,rfl,hx⟩:=Wi hc;simp only [kv,w0h,w0x];exact z2P x 10000 ⟨s,hx⟩
 simp [Instr.keyThatStays,hs]
end
theorem zfS {s:KSh} {x y:T} (hx:s.ok x=true) (hy:s.ok y=true) (h:x.eqb y=true):x=y:=by
 cases x<;>cases s<;>simp [KSh.ok] at hx<;>cases y<;>simp [KSh.ok] at hy<;>simp [T.eqb] at h<;>simp_all
theorem z1x:∀{ks:List KSh} {cs ds:List T},Zd ks cs=true->Zd ks ds=true->ZY cs ds=true->cs=ds
 |[],[],[],_,_,_=>rfl
 |[],_::_,_,h,_,_=>by simp [Zd] at h
 |[],_,_::_,_,h,_=>by simp [Zd] at h
 |_::_,[],_,h,_,_=>by simp [Zd] at h
 |_::_,_::_,[],_,h,_=>by simp [Zd] at h
 |s::r,x::c,y::d,h1,h2,h3=>by
  simp only [Zd,ZY,w07] at h1 h2 h3;rw [zfS h1.1 h2.1 h3.1,z1x h1.2 h2.2 h3.2]
theorem qp:∀{k:List T} {es:List (List T×V)} {i:Nat},ZZ k es=some i->∃e,es[i]?=some e/\ZY k e.1=true/\z4B k es=some e.2/\(∀v,z4I k v es=es.set i (k,v))/\z0o k es=es.eraseIdx i
 |k,[],i,h=>by simp [ZZ] at h
 |k,e::r,i,h=>by
  simp only [ZZ] at h;split at h
  ·rename_i hk;simp at h;subst h
   exact ⟨e,rfl,hk,by simp [z4B,hk],fun v=>by simp [z4I,hk],by simp [z0o,hk]⟩
  ·rename_i hk;simp only [w06] at h;obtain ⟨j,hj,rfl⟩:=h;obtain ⟨e',h1,h2,h3,h4,h5⟩:=qp hj
   exact ⟨e',by simpa using h1,h2,by simp [z4B,hk,h3],fun v=>by simp [z4I,hk,h4],by simp [z0o,hk,h5]⟩
theorem qX:∀{k:List T} {es:List (List T×V)},ZZ k es=none->z4B k es=none/\(∀v,z4I k v es=es++[(k,v)])/\z0o k es=es
 |k,[],_=>⟨rfl,fun _=>rfl,rfl⟩
 |k,e::r,h=>by
  simp only [ZZ] at h;split at h
  ·cases h
  ·rename_i hk
   have hr:ZZ k r=none:=by simpa using h
   obtain ⟨h1,h2,h3⟩:=qX hr
   exact ⟨by simp [z4B,hk,h1],fun v=>by simp [z4I,hk,h2],by simp [z0o,hk,h3]⟩
section
variable {P:Program} {o:Oper} {gc:Bool} {base:Nat} {st:St}
theorem z5g {f:FuncId} {cnt:Option Bool} (h:z2U P f=some cnt):∃fn,P.funcs[f]?=some fn/\fn.body.isNone=true/\fn.origin= ""/\fn.name=(match cnt with|some true=> "internal/bytealg.CountString"|some false=> "internal/bytealg.IndexByteString"|none=> "internal/bytealg.abigen_runtime_cmpstring"):=by
 unfold z2U at h;split at h
 ·rename_i fn hf;split at h
  ·rename_i h1;split at h
   ·rename_i h2;simp at h;subst h
    exact ⟨fn,hf,h1.1,h1.2,by simpa using h2⟩
   ·split at h
    ·rename_i h2;simp at h;subst h
     exact ⟨fn,hf,h1.1,h1.2,by simpa using h2⟩
    ·split at h
     ·rename_i h2;simp at h;subst h
      exact ⟨fn,hf,h1.1,h1.2,by simpa using h2⟩
     ·simp at h
  ·simp at h
 ·simp at h
theorem z26:(Extern.allNextRows.lookup "":Option Extern.NextRow)=none:=by kernel_rfl
theorem zaV:(Extern.allNextRows.lookup "internal/bytealg.CountString":Option Extern.NextRow)=none:=by kernel_rfl
theorem zaG:(Extern.allNextRows.lookup "internal/bytealg.abigen_runtime_cmpstring":Option Extern.NextRow)=none:=by kernel_rfl
theorem zb4:(Extern.allNextRows.lookup "internal/bytealg.IndexByteString":Option Extern.NextRow)=none:=by kernel_rfl
theorem z9r {fn:Func} (hn:(Extern.allNextRows.lookup fn.name:Option Extern.NextRow)=none) (ho:(Extern.allNextRows.lookup fn.origin:Option Extern.NextRow)=none):Extern.findNext fn=none:=by
 show ((Extern.allNextRows.lookup fn.name).map (· fn.params fn.resultTypes) <|>(Extern.allNextRows.lookup fn.origin).map (· fn.params fn.resultTypes))=none;rw [hn,ho];rfl
theorem zef {f:FuncId} {cnt:Bool} (h:z2U P f=some (some cnt)) (s:List UInt8) (c:Int) (w:World):
  (callFunc f #[.string ⟨⟨s⟩⟩,.int .u8 c]).run P w= .ok (.value (.int .i64 (if cnt then (Go.Lib.countByte s c.toNat.toUInt8:Int) else Go.Lib.indexByte s c.toNat.toUInt8))) w:=by
 obtain ⟨fn,hf,hb,ho,hn⟩:=z5g h
 cases cnt with
 |true=>
  simp only at hn
  have he:Extern.find fn=some Extern.BytealgCount.count:=by
   unfold Extern.find;rw [hn];rfl
  rw [run_callFunc_extern hf (by rw [hn];rfl) hb (z9r (by rw [hn];exact zaV) (by rw [ho];exact z26)) he];rw [Go.Lib.run_countString];rfl
 |false=>
  simp only at hn
  have he:Extern.find fn=some Extern.BytealgIndexByte.indexByte:=by
   unfold Extern.find;rw [hn];rfl
  rw [run_callFunc_extern hf (by rw [hn];rfl) hb (z9r (by rw [hn];exact zb4) (by rw [ho];exact z26)) he];rw [Go.Lib.run_indexByteString];rfl
theorem zgT {f:FuncId} {cnt:Bool} {args:Array Operand} {ats:Array TypeId} {x y:Operand} {x' y':Ar} {v:V} {ps:List Bool} (hop:o.op= .call {callee:= .value (.func f),args:=args,argTypes:=ats}) (ha:args.toList=[x,y])
  (hf:z2U P f=some (some cnt)) (hx:opA x=some x') (hy:opA y=some y') (he:Zq gc st (.xtr cnt x' y')=some (v,ps)) (hp:∀q∈ps,q):zD P o gc st v:=by
 intro C Λ ac _ hg h;simp only [Zq] at he;split at he
 ·rename_i s p1 c p2 h1 h2;simp only [w00,w05] at he;obtain ⟨rfl,rfl⟩:=he;have hx1:=zm h hx h1 (fun q hq=>hp q (by simp [hq])) hg;have hy1:=zm h hy h2 (fun q hq=>hp q (by simp [hq])) hg;have e1:=hx1.ZL.Wc;have e2:=hy1.ZL.yc
  have hm:args.toList.map ac.eval=[.string ⟨⟨s⟩⟩,.int .u8 c]:=by simp [ha,e1,e2]
  have hm2:args.map ac.eval=#[.string ⟨⟨s⟩⟩,.int .u8 c]:=by
   apply w27;simpa using hm
  refine ⟨_,?_,.t (.int _ _)⟩;simp only [execOp,hop,resolve,Act.eval,Deferred.ofValue,Sem.run_bind,Sem.run_pure,Result.andThen_ok,invoke,hm2];exact zef hf s c Λ.w
 ·cases he
theorem zeN {f:FuncId} (h:z2U P f=some none) (s r:List UInt8) (w:World):
  (callFunc f #[.string ⟨⟨s⟩⟩,.string ⟨⟨r⟩⟩]).run P w= .ok (.value (.int .i64 (Go.Lib.compareBytes s r))) w:=by
 obtain ⟨fn,hf,hb,ho,hn⟩:=z5g h;simp only at hn
 have he:Extern.find fn=some Extern.BytealgCompare.compare:=by
  unfold Extern.find;rw [hn];rfl
 rw [run_callFunc_extern hf (by rw [hn];rfl) hb (z9r (by rw [hn];exact zaG) (by rw [ho];exact z26)) he];rw [Go.Lib.run_compareString];rfl
theorem zgM {f:FuncId} {args:Array Operand} {ats:Array TypeId} {x y:Operand} {x' y':Ar} {v:V} {ps:List Bool} (hop:o.op= .call {callee:= .value (.func f),args:=args,argTypes:=ats}) (ha:args.toList=[x,y])
  (hf:z2U P f=some none) (hx:opA x=some x') (hy:opA y=some y') (he:Zq gc st (.xcm x' y')=some (v,ps)) (hp:∀q∈ps,q):zD P o gc st v:=by
 intro C Λ ac _ hg h;simp only [Zq] at he;split at he
 ·rename_i s p1 c p2 h1 h2;simp only [w00,w05] at he;obtain ⟨rfl,rfl⟩:=he;have hx1:=zm h hx h1 (fun q hq=>hp q (by simp [hq])) hg;have hy1:=zm h hy h2 (fun q hq=>hp q (by simp [hq])) hg;have e1:=hx1.ZL.Wc;have e2:=hy1.ZL.Wc
  have hm:args.toList.map ac.eval=[.string ⟨⟨s⟩⟩,.string ⟨⟨c⟩⟩]:=by simp [ha,e1,e2]
  have hm2:args.map ac.eval=#[.string ⟨⟨s⟩⟩,.string ⟨⟨c⟩⟩]:=by
   apply w27;simpa using hm
  refine ⟨_,?_,.t (.int _ _)⟩;simp only [execOp,hop,resolve,Act.eval,Deferred.ofValue,Sem.run_bind,Sem.run_pure,Result.andThen_ok,invoke,hm2];exact zeN hf s c Λ.w
 ·cases he
theorem z2S {t:TypeId} {zv:V} (h:QU P t=some zv) (w:World):∃z,(zeroValue t).run P w= .ok z w/\∀Λ,zr Λ z zv:=by
 unfold QU at h
 cases hz:ZP P t with
 |none=>rw [hz] at h;simp at h
 |some zs=>
  obtain ⟨i,z,hi,hz1,hlen,hok⟩:=y5 hz
  have hrun:(zeroValue t).run P w= .ok z w:=by simp [zeroValue,typeInfo,hi,hz1]
  have hb:(P.info? t).bind (·.zero)=some z:=by simp [hi,hz1]
  rw [hz,hb] at h;refine ⟨z,hrun,fun Λ=>?_⟩;have hrc:=yf (Λ:=Λ) hok
  have one:∀(y:V),zs=[y]->z.cells=#[z]->zr Λ z y:=by
   intro y hy hc;exact hrc.2 0 z y (by rw [hc];rfl) (by rw [hy];rfl)
  split at h
  ·rename_i e1 e2;simp at e1 e2 h;subst e1;subst e2;subst h;exact .agg (by simpa [Value.cells] using hrc.1) fun j v c a b=>hrc.2 j v c (by simpa [Value.cells] using a) b
  all_goals first
   |(rename_i e1 e2
     simp at e1 e2 h;obtain rfl:=h;subst e2
     exact one _ e1 Z)
   |(simp at h)
theorem zT.Wr {Λ:L} {s:S} (h:zT Λ s) {k:Nat} {kag:Bool} {es:List (List T×V)} {sx:Option (Nat×List Nat)} (hk:zj s.sto k=some (.map kag es sx)) {b:Nat} (hb:Λ.lab b= .obj k):
  ∃(ents:Array MapEntry) (clock:Nat),Λ.w.heap[b]?=some (.map ents clock)/\wP Λ kag ents clock es sx:=by
 obtain ⟨b',ents,clock,h1,h2,h3⟩:=(h.sto k _ hk).2;obtain rfl:=h.inj b b' k hb h1;exact ⟨ents,clock,h2,h3⟩
theorem wP.keyed {Λ:L} {kag:Bool} {ents:Array MapEntry} {clock:Nat} {es:List (List T×V)} {sx:Option (Nat×List Nat)} (h:wP Λ kag ents clock es sx) {ks:List KSh} (hok:yg ks es=true):
  ∀(i:Nat) (e:MapEntry) (x:List T×V),ents[i]?=some e->es[i]?=some x->e.key=kv kag x.1:=by
 intro i e x a b;unfold yg at hok;rw [w0i] at hok;exact (h.at_ i e x a b).1.plain (hok x (zMG b))
theorem wP.val {Λ:L} {kag:Bool} {ents:Array MapEntry} {clock:Nat} {es:List (List T×V)} {sx:Option (Nat×List Nat)} (h:wP Λ kag ents clock es sx) {i:Nat} {x:List T×V} (hx:es[i]?=some x):∃e,ents[i]?=some e/\zr Λ e.val x.2:=by
 have hlt:i<ents.size:=by rw [h.size];exact (w02.1 hx).1
 exact ⟨ents[i],by simp [hlt],(h.at_ i _ x (by simp [hlt]) hx).2⟩
theorem z6k {Λ:L} {v:Value} {x:V} (h:zr Λ v x) (ok b:Bool):zr Λ (if ok then .tuple #[v,.bool b] else v) (okV ok x b):=by
 cases ok with
 |false=>exact h
 |true=>
  refine .tup Z fun j u c hu hc=>?_
  match j,hu,hc with
  |0,hu,hc=>simp at hu hc;subst hu;subst hc;exact h
  |1,hu,hc=>simp at hu hc;subst hu;subst hc;exact .t (.bool b)
theorem zcf {t kt et:TypeId} {x k:Operand} {ok:Bool} {ks:List KSh} {kag:Bool} {zv:V} {x' k':Ar} {v:V} {ps:List Bool} (hop:o.op= .lookup t x k ok) (hu:P.underlying t=some (.map kt et)) (hK:YT P kt=some (ks,kag)) (hz:QU P et=some zv)
  (hx:opA x=some x') (hk:opA k=some k') (he:Zq gc st (.lookup ks kag zv ok x' k')=some (v,ps)) (hp:∀q∈ps,q):zD P o gc st v:=by
 intro C Λ a hC hg hr;simp only [Zq] at he;generalize h1:rd gc st x'=rx at he;generalize h2:rd gc st k'=rk at he;obtain ⟨vx,p1⟩:=rx;obtain ⟨vk,p2⟩:=rk;simp only at he;split at he
 ·cases he
 ·rename_i cs hkc;obtain ⟨z,hz1,hz2⟩:=z2S hz Λ.w;have KT:z3N P kt ks kag:=⟨hK⟩;split at he
  ·rename_i q;split at he
   ·rename_i kag' es sx hes
    have hxv:zr Λ (a.eval x) (.mp q):=zm hr hx h1 (fun q hq=>hp q (by split at he<;>(simp at he;obtain ⟨_,rfl⟩:=he;simp [hq]))) hg
    have hkv:zr Λ (a.eval k) vk:=zm hr hk h2 (fun q hq=>hp q (by split at he<;>(simp at he;obtain ⟨_,rfl⟩:=he;simp [hq]))) hg
    have hkag:kag'=kag:=by
     have:=hp (kag'==kag) (by split at he<;>(simp at he;obtain ⟨_,rfl⟩:=he;simp))
     simpa using this
    have hkeys:yg ks es=true:=hp (yg ks es) (by split at he<;>(simp at he;obtain ⟨_,rfl⟩:=he;simp))
    subst hkag;obtain ⟨ek,hko⟩:=WY hkv hkc;generalize hex:a.eval x=u at hxv
    cases hxv with
    |@mp b _ hql hb=>
     obtain ⟨ents,clock,hh,hM⟩:=hr.s.Wr hes hb;have hf:=qm KT hko hM.size (hM.keyed hkeys) hkeys Λ.w
     have hrun1:∀(i:Nat) (y:Value),(Instr.findKey kt (kv kag' cs) ents.toList).run P Λ.w= .ok (some (i,y)) Λ.w->(execOp a.eval o).run P Λ.w= .ok (.value (if ok then .tuple #[y,.bool true] else y)) Λ.w:=by
      intro i y hf';simp only [execOp,hop,hex,ek];simp only [Instr.lookup,Sem.run_bind,run_underlying hu,MapKept.run_getObj_map hh,Result.andThen_ok,Sem.run_pure,Y1 KT hko,hf']
     have hrun0:(Instr.findKey kt (kv kag' cs) ents.toList).run P Λ.w= .ok none Λ.w->(execOp a.eval o).run P Λ.w= .ok (.value (if ok then .tuple #[z,.bool false] else z)) Λ.w:=by
      intro hf';simp only [execOp,hop,hex,ek];simp only [Instr.lookup,Sem.run_bind,run_underlying hu,MapKept.run_getObj_map hh,Result.andThen_ok,Sem.run_pure,Y1 KT hko,hf',hz1]
     split at he
     ·rename_i v' hg';simp at he;obtain ⟨rfl,_⟩:=he
      cases hm:ZZ cs es with
      |none=>rw [(qX hm).1] at hg';cases hg'
      |some i=>
       obtain ⟨e,h3,h4,h5,_,_⟩:=qp hm;rw [hg'] at h5;simp at h5;subst h5;obtain ⟨en,h6,h7⟩:=hM.val h3;exact ⟨_,hrun1 i en.val (by rw [hf,hm];simp [h6]),z6k h7 ok true⟩
     ·rename_i hg';simp at he;obtain ⟨rfl,_⟩:=he
      cases hm:ZZ cs es with
      |some i=>obtain ⟨e,_,_,h5,_,_⟩:=qp hm;rw [hg'] at h5;cases h5
      |none=>
       exact ⟨_,hrun0 (by rw [hf,hm]),z6k (hz2 Λ) ok false⟩
   ·cases he
  ·simp at he;obtain ⟨rfl,rfl⟩:=he;have hxv:zr Λ (a.eval x) (.t .z0J):=zm hr hx h1 (fun q hq=>hp q (by simp [hq])) hg;have hkv:zr Λ (a.eval k) vk:=zm hr hk h2 (fun q hq=>hp q (by simp [hq])) hg;obtain ⟨ek,hko⟩:=WY hkv hkc;generalize hex:a.eval x=u at hxv
   have hu':u= .map none:=by cases hxv with|t h=>cases h;rfl
   subst hu';have hf:=qm (ents:=#[]) (es:=[]) KT hko rfl (by simp) (by simp [yg]) Λ.w;refine ⟨_,?_,z6k (hz2 Λ) ok false⟩;simp only [execOp,hop,hex,ek];simp only [Instr.lookup,Sem.run_bind,run_underlying hu,Result.andThen_ok,Sem.run_pure,Y1 KT hko];simp only [ZZ] at hf;simp only [hf,Sem.run_bind,Result.andThen_ok,hz1,Sem.run_pure]
  ·cases he
theorem zdV {t e ty:TypeId} {x y:Operand} {neg:Bool} {x':Ar} {v:V} {ps:List Bool} (hop:o.op= .binOp (if neg then .neq else .eql) t x y ty) (hy:y= .const (.slice none 0 0)) (hu:P.underlying t=some (.slice e)) (hx:opA x=some x')
  (he:Zq gc st (.eqn neg x')=some (v,ps)) (hp:∀q∈ps,q):zD P o gc st v:=by
 intro C Λ a hC hg hr;have hc:∀v,a.eval (.const v)=v:=fun _=>rfl
 have run:∀(ad:Option Addr) (n c:Nat),a.eval x= .slice ad n c->(execOp a.eval o).run P Λ.w= .ok (.value (.bool (if neg then !ad.isNone else ad.isNone))) Λ.w:=by
  intro ad n c hex
  have hq:(Op.equal t (.slice ad n c) (.slice none 0 0)).run P Λ.w= .ok ad.isNone Λ.w:=ZD _ _ Λ.w _ (fun n=>by cases ad<;>simp [Op.equalIn,run_underlying hu])
  subst hy
  cases neg<;>simp [execOp,hop,hex,hc,eqGuard,binOp,hq]
 simp only [Zq] at he;generalize h1:rd gc st x'=rx at he;obtain ⟨vx,p1⟩:=rx
 have lst:∀(xs:List (List T)),zI Λ.lab Λ.w (a.eval x) (.lst xs)->∃ad n c,a.eval x= .slice ad n c/\(ad.isNone=true->∀c∈xs,c=[]):=by
  intro xs h;generalize a.eval x=u at h
  cases h with
  |lst ad cap sz xs b o vf h1 h2 h3 h4 h5 h6=>
   refine ⟨ad,xs.length,cap,rfl,fun hn c hc=>?_⟩
   cases ad with
   |some _=>simp at hn
   |none=>
    cases c with
    |nil=>rfl
    |cons z s=>
     obtain ⟨i,hi⟩:=w0v.1 hc;exact absurd (h3 i 0 (z::s) z hi Z) (by simp)
 have fin:∀(xs:List (List T)),zI Λ.lab Λ.w (a.eval x) (.lst xs)->∃v',(execOp a.eval o).run P Λ.w= .ok (.value v') Λ.w/\zr Λ v' (if neg then .ub True (∀c∈xs,c=[]) else .ub (∀c∈xs,c=[]) True):=by
  intro xs h;obtain ⟨ad,n,c,e1,e2⟩:=lst xs h;refine ⟨_,run ad n c e1,?_⟩
  cases neg with
  |false=>simp only [w0h,w0x];exact .ub e2 (fun _=>trivial)
  |true=>simp only [w17];exact .ub (fun _=>trivial) (fun h=>e2 (by simpa using h))
 split at he
 ·rename_i p h;simp only [w05] at h;obtain ⟨rfl,rfl⟩:=h;simp at he;obtain ⟨rfl,rfl⟩:=he;have hxv:=zm hr hx h1 hp hg;generalize hex:a.eval x=u at hxv
  cases hxv with
  |zC=>exact ⟨_,run _ 0 0 hex,.ub (fun _=>trivial) (fun _=>trivial)⟩
 ·rename_i p h;simp only [w05] at h;obtain ⟨rfl,rfl⟩:=h;simp at he;obtain ⟨rfl,rfl⟩:=he;have hxv:=zm hr hx h1 hp hg;generalize hex:a.eval x=u at hxv
  cases hxv with
  |slc _ _ _=>exact ⟨_,run _ _ _ hex,by cases neg<;>exact .t (.bool _)⟩
 ·rename_i xs p h;simp only [w05] at h;obtain ⟨rfl,rfl⟩:=h;simp at he;obtain ⟨rfl,rfl⟩:=he;have hxv:=zm hr hx h1 hp hg
  have:zI Λ.lab Λ.w (a.eval x) (.lst xs):=by
   generalize a.eval x=u at hxv
   cases hxv with
   |own h _ _ _ _=>exact h
  exact fin xs this
 ·rename_i xs p h;simp only [w05] at h;obtain ⟨rfl,rfl⟩:=h;simp at he;obtain ⟨rfl,rfl⟩:=he;exact fin xs (zm hr hx h1 hp hg).ZL
 ·cases he
theorem zcO:∀{xs:List (List T)} {ns:List Int},u8s xs=some ns->xs.length=ns.length/\∀(i:Nat) (n:Int),ns[i]?=some n->xs[i]?=some [.int .u8 n]
 |[],ns,h=>by simp [u8s] at h;subst h;simp
 |c::r,ns,h=>by
  unfold u8s at h;split at h
  ·rename_i h2;cases h2
  ·rename_i n r2 h2;simp only [List.cons.injEq] at h2;obtain ⟨rfl,rfl⟩:=h2;simp only [w06] at h;obtain ⟨ms,hm,rfl⟩:=h;obtain ⟨k1,k2⟩:=zcO hm
   refine ⟨by simp [k1],fun i x hx=>?_⟩
   cases i with
   |zero=>simp at hx;subst hx;rfl
   |succ i=>exact k2 i x (by simpa using hx)
  ·cases h
theorem zfY {src dst e:TypeId} {x:Operand} {x':Ar} {v:V} {ps:List Bool} (hop:o.op= .convert src dst x) (hs:P.underlying src=some (.slice e)) (hd:P.underlying dst=some .string) (hu:P.underlying e=some (.int .u8)) (hx:opA x=some x')
  (he:Zq gc st (.zdr x')=some (v,ps)) (hp:∀q∈ps,q):zD P o gc st v:=by
 intro C Λ a hC hg hr;simp only [Zq] at he;generalize h1:rd gc st x'=rx at he;obtain ⟨vx,p1⟩:=rx
 have fin:∀(xs:List (List T)),zI Λ.lab Λ.w (a.eval x) (.lst xs)->u8S xs=some v->∃v',(execOp a.eval o).run P Λ.w= .ok (.value v') Λ.w/\zr Λ v' v:=by
  intro xs h hu8;unfold u8S at hu8;split at hu8
  ·rename_i n r hns;simp only [w00] at hu8;subst hu8;obtain ⟨k1,k2⟩:=zcO hns;generalize hex:a.eval x=u at h
   cases h with
   |lst ad cap sz xs b o2 vf hcap hsz ha hrd hc hh=>
    have h0:=k2 0 n rfl;obtain rfl:=ha 0 0 _ _ h0 rfl;have hz:=hsz 0 _ h0;simp only [List.length_singleton] at hz;subst hz
    have hcell:∀i,i<xs.length->Λ.w.cell? ⟨b,o2+i,none⟩=some (.int .u8 ((n::r).getD i 0)):=by
     intro i hi
     have hi2:i<(n::r).length:=by rw [←k1];exact hi
     have e1:=k2 i (n::r)[i] (w0f hi2);have e2:=hc i 0 _ _ e1 rfl;have e3:=hh i 0 _ _ e1 rfl
     have e4:vf i 0= .int .u8 (n::r)[i]:=by generalize vf i 0=z at e3;cases e3;rfl
     rw [e4] at e2;simp only [Nat.mul_one,w1w] at e2;rw [e2,w0w,w0f hi2];rfl
    refine ⟨.string (strOfNums (n::r)),?_,?_⟩
    ·simp only [execOp,hop,hex,Sem.run_bind];rw [run_convert_bytes_arg Λ.w src e hs hu b o2 xs.length cap (n::r) k1.symm hcell dst hd];rfl
    ·exact .t (.str _)
  ·cases hu8
 split at he
 ·rename_i xs p h;simp only [w05] at h;obtain ⟨rfl,rfl⟩:=h;simp only [w06,w05] at he;obtain ⟨v',h2,rfl,rfl⟩:=he;exact fin xs (zm hr hx h1 hp hg).ZL h2
 ·rename_i xs p h;simp only [w05] at h;obtain ⟨rfl,rfl⟩:=h;simp only [w06,w05] at he;obtain ⟨v',h2,rfl,rfl⟩:=he;have hxv:=zm hr hx h1 hp hg
  have:zI Λ.lab Λ.w (a.eval x) (.lst xs):=by
   generalize a.eval x=u at hxv
   cases hxv with
   |own h _ _ _ _=>exact h
  exact fin xs this h2
 ·cases he
theorem zcZ {t ty:TypeId} {x y:Operand} {neg:Bool} {ks:List KSh} {x' y':Ar} {v:V} {ps:List Bool} (hop:o.op= .binOp (if neg then .neq else .eql) t x y ty) (hK:YT P t=some (ks,true)) (hx:opA x=some x') (hy:opA y=some y')
  (he:Zq gc st (.zbb neg ks x' y')=some (v,ps)) (hp:∀q∈ps,q):zD P o gc st v:=by
 intro C Λ a hC hg hr;simp only [Zq] at he;generalize h1:rd gc st x'=rx at he;generalize h2:rd gc st y'=ry at he;obtain ⟨vx,p1⟩:=rx;obtain ⟨vy,p2⟩:=ry;simp only at he;split at he
 ·rename_i cs ds hc hd;simp at he;obtain ⟨rfl,rfl⟩:=he;have hxv:zr Λ (a.eval x) vx:=zm hr hx h1 (fun q hq=>hp q (by simp [hq])) hg;have hyv:zr Λ (a.eval y) vy:=zm hr hy h2 (fun q hq=>hp q (by simp [hq])) hg;obtain ⟨e1,k1⟩:=WY hxv hc;obtain ⟨e2,k2⟩:=WY hyv hd;have KT:z3N P t ks true:=⟨hK⟩;have hq:=z1i KT k1 k2 9998 Λ.w
  have hgt:P.eqGuardType P.depth t=false:=by
   have h:=hK;unfold YT at h
   split at h<;>try (simp at h;done)
   split at h
   ·rename_i h';exact h'.2
   ·cases h
  simp only [kv,w17] at e1 e2 hq;refine ⟨.bool (if neg then !(ZY cs ds) else ZY cs ds),?_,.t (.bool _)⟩
  cases neg with
  |false=>
   have hb:=run_eql_struct (P:=P) Λ.w t (cs.map Tv).toArray (ds.map Tv).toArray;rw [hq] at hb;simp only [w0h,w0x] at hop⊢;simp only [execOp,hop,e1,e2];have hgu:=run_eqGuard_agg (P:=P) Λ.w .eql t x y (cs.map Tv).toArray (ds.map Tv).toArray hgt;simp [hgu,hb]
  |true=>
   have hb:=run_neq_struct (P:=P) Λ.w t (cs.map Tv).toArray (ds.map Tv).toArray;rw [hq] at hb;simp only [w17] at hop⊢;simp only [execOp,hop,e1,e2];have hgu:=run_eqGuard_agg (P:=P) Λ.w .neq t x y (cs.map Tv).toArray (ds.map Tv).toArray hgt;simp [hgu,hb]
 ·cases he
def yP (w:World) (b:Nat) (ents:Array MapEntry) (clock:Nat):World:={w with heap:=w.heap.setIfInBounds b (.map ents clock)}
theorem qL {w:World} {b:Nat} {ents:Array MapEntry} {clock:Nat}:YH w (yP w b ents clock) b:=
 ⟨rfl,rfl,rfl,by simp [yP],fun c hc=>by simp [yP,Ne.symm hc]⟩
theorem zbZ {w:World} {b:Nat} {ents:Array MapEntry} {clock:Nat} {ob:Obj} (h:w.heap[b]?=some ob):(yP w b ents clock).heap[b]?=some (.map ents clock):=(MapKept.heap_set h).1
theorem Yy {Λ:L} {s:S} {q b:Nat} {kag:Bool} {es':List (List T×V)} {sx':Option (Nat×List Nat)} {ents ents':Array MapEntry} {clock clock':Nat} (h:zT Λ s) (hq:q<Λ.nxt) (hb:Λ.lab b= .obj q) (hh:Λ.w.heap[b]?=some (.map ents clock))
  (hM:wP Λ kag ents' clock' es' sx') {v:V} {rd:Bool}:
  Kp Λ {Λ with w:=yP Λ.w b ents' clock'}/\zT {Λ with w:=yP Λ.w b ents' clock'} (s.app {v:=v,ob:=[(q,.map kag es' sx')],rd:=rd})/\∀k,ZU Λ k->ZU {Λ with w:=yP Λ.w b ents' clock'} k:=by
 have hkp:Kp Λ {Λ with w:=yP Λ.w b ents' clock'}:=Kp.wrote qL hb
 have hF:Z7 Λ {Λ with w:=yP Λ.w b ents' clock'}:=Z7.wrote qL hb
 refine ⟨hkp,?_,fun k h=>h.ZX hF h.obj h.arr h.fro⟩;refine h.step hkp Z (fun j ob hj=>?_) h.inj (fun c hc=>h.new c (by simpa [yP] using hc)) h.bnd h.frz hF;simp only [S.app,Zf] at hj;rw [Zb] at hj;split at hj
 ·rename_i e;subst e;simp at hj;subst hj;exact .inr ⟨hq,b,ents',clock',hb,zbZ hh,hM.ZX (fun _ _ h=>h.mono hkp.fr) (fun _ _ _ _ h=>h.mono hkp)⟩
 ·rename_i hne;refine .inl ⟨hj,fun c hc=>?_,rfl⟩
  have:c≠b:=by rintro rfl;rw [hb] at hc;simp at hc;exact hne hc
  exact qL.old c this
theorem z6S {l:Nat->Lab} {w:World} {kag:Bool} {ks:List KSh} {cs:List T} (hk:Zd ks cs=true) (h1:kag=false->∃x,cs=[x]):q9 l w kag (kv kag cs) cs:=by
 have hT:∀(s:KSh) (x:T),s.ok x=true->zI l w (Tv x) x:=by
  intro s x h
  cases x<;>cases s<;>simp [KSh.ok] at h<;>constructor
 obtain ⟨k1,k2⟩:=qh hk;unfold q9
 cases kag with
 |true=>
  simp only [w17,kv]
  refine ⟨_,rfl,by simp,fun j u x hu hx=>?_⟩
  have hlt:j<ks.length:=by rw [k1];exact (w02.1 hx).1
  simp [hx] at hu;subst hu;exact hT ks[j] x (k2 j _ x (by simp [hlt]) hx)
 |false=>
  obtain ⟨x,rfl⟩:=h1 rfl
  have hlt:0<ks.length:=by rw [k1];simp
  exact ⟨x,rfl,by simpa [kv] using hT ks[0] x (k2 0 _ x (by simp) rfl)⟩
theorem wP.set {Λ:L} {kag:Bool} {ents:Array MapEntry} {clock:Nat} {es:List (List T×V)} {sx:Option (Nat×List Nat)} (h:wP Λ kag ents clock es sx) {i:Nat} {k:Value} {cs:List T} {u:Value} {v:V} (hk:q9 Λ.lab Λ.w kag k cs) (hv:zr Λ u v):
  wP Λ kag (ents.modify i fun e=>{e with key:=k,val:=u}) clock (es.set i (cs,v)) sx:=by
 have hget:∀(j:Nat) (e:MapEntry),(ents.modify i fun e=>{e with key:=k,val:=u})[j]?=some e->∃e0,ents[j]?=some e0/\e.born=e0.born/\(i≠j->e=e0)/\(i=j->e.key=k/\e.val=u):=by
  intro j e he;rw [w29] at he;split at he
  ·rename_i hij
   cases h0:ents[j]? with
   |none=>rw [h0] at he;simp at he
   |some e0=>rw [h0] at he;simp at he;subst he;exact ⟨e0,rfl,rfl,fun h=>absurd hij h,fun _=>⟨rfl,rfl⟩⟩
  ·rename_i hij;exact ⟨e,he,rfl,fun _=>rfl,fun h=>absurd h hij⟩
 refine ⟨by simp [h.size],fun j e x a b=>?_,fun j e a=>?_,fun j j' e f a b hb=>?_,fun c bs hs=>?_⟩
 ·obtain ⟨e0,h0,_,h2,h3⟩:=hget j e a;rw [w1q] at b;split at b
  ·rename_i hij;split at b
   ·simp at b;subst b;obtain ⟨h4,h5⟩:=h3 hij
    exact ⟨by rw [h4];exact hk,by rw [h5];exact hv⟩
   ·cases b
  ·rename_i hij;rw [h2 hij];exact h.at_ j e0 x h0 b
 ·obtain ⟨e0,h0,h1,_,_⟩:=hget j e a;rw [h1];exact h.born j e0 h0
 ·obtain ⟨e0,h0,h1,_,_⟩:=hget j e a;obtain ⟨f0,g0,g1,_,_⟩:=hget j' f b;exact h.apart j j' e0 f0 h0 g0 (by rw [←h1,←g1];exact hb)
 ·obtain ⟨e1,e2⟩:=h.known c bs hs;refine ⟨e1,?_⟩;rw [←e2];apply w22;intro j;simp only [w0c]
  have:(ents.modify i fun e=>{e with key:=k,val:=u}).toList[j]?=(ents.modify i fun e=>{e with key:=k,val:=u})[j]?:=w1t
  rw [this,w29]
  have h2:ents.toList[j]?=ents[j]?:=by simp
  rw [h2];split
  ·cases ents[j]?<;>rfl
  ·rfl
theorem wP.push {Λ:L} {kag:Bool} {ents:Array MapEntry} {clock:Nat} {es:List (List T×V)} {sx:Option (Nat×List Nat)} (h:wP Λ kag ents clock es sx) {k:Value} {cs:List T} {u:Value} {v:V} (hk:q9 Λ.lab Λ.w kag k cs) (hv:zr Λ u v) {sx':Option (Nat×List Nat)}
  (hs:∀c bs,sx'=some (c,bs)->∃c0 bs0,sx=some (c0,bs0)/\c=c0+1/\bs=bs0++[c0]):
  wP Λ kag (ents.push {key:=k,val:=u,born:=clock}) (clock+1) (es++[(cs,v)]) sx':=by
 have hget:∀(j:Nat) (e:MapEntry),(ents.push {key:=k,val:=u,born:=clock})[j]?=some e->(ents[j]?=some e/\j<ents.size)∨(j=ents.size/\e={key:=k,val:=u,born:=clock}):=by
  intro j e he;rw [Array.getElem?_push] at he;split at he
  ·rename_i hj;simp at he;exact .inr ⟨hj,he.symm⟩
  ·rename_i hj;exact .inl ⟨he,(w1s.1 he).1⟩
 refine ⟨by simp [h.size],fun j e x a b=>?_,fun j e a=>?_,fun j j' e f a b hb=>?_,fun c bs hc=>?_⟩
 ·rcases hget j e a with ⟨h1,h2⟩|⟨h1,rfl⟩
  ·rw [w0a (by rw [←h.size];exact h2)] at b;exact h.at_ j e x h1 b
  ·subst h1;rw [w0b (by rw [h.size];exact w09 _),h.size] at b;simp at b;subst b;exact ⟨hk,hv⟩
 ·rcases hget j e a with ⟨h1,h2⟩|⟨h1,rfl⟩
  ·have:=h.born j e h1;omega
  ·simp
 ·rcases hget j e a with ⟨h1,h2⟩|⟨h1,rfl⟩
  ·rcases hget j' f b with ⟨g1,g2⟩|⟨g1,rfl⟩
   ·exact h.apart j j' e f h1 g1 hb
   ·have:=h.born j e h1;simp at hb;omega
  ·rcases hget j' f b with ⟨g1,g2⟩|⟨g1,rfl⟩
   ·have:=h.born j' f g1;simp at hb;omega
   ·omega
 ·obtain ⟨c0,bs0,h0,rfl,rfl⟩:=hs c bs hc;obtain ⟨e1,e2⟩:=h.known c0 bs0 h0
  exact ⟨by rw [e1],by rw [←e2,←e1];simp⟩
theorem wP.forget {Λ:L} {kag:Bool} {ents:Array MapEntry} {clock:Nat} {es:List (List T×V)} {sx:Option (Nat×List Nat)} (h:wP Λ kag ents clock es sx):wP Λ kag ents clock es none:=
 ⟨h.size,h.at_,h.born,h.apart,fun _ _ h=>by cases h⟩
theorem map_eraseIdx {α β:Type} (f:α->β):∀(l:List α) (i:Nat),(l.eraseIdx i).map f=(l.map f).eraseIdx i
 |[],i=>by simp
 |x::r,0=>by simp
 |x::r,i+1=>by simp [map_eraseIdx f r i]
theorem wP.erase {Λ:L} {kag:Bool} {ents:Array MapEntry} {clock:Nat} {es:List (List T×V)} {sx:Option (Nat×List Nat)} (h:wP Λ kag ents clock es sx) (i:Nat):wP Λ kag (ents.eraseIdxIfInBounds i) clock (es.eraseIdx i) (z4Z (some i) sx):=by
 have hl:(ents.eraseIdxIfInBounds i).toList=ents.toList.eraseIdx i:=by
  unfold Array.eraseIdxIfInBounds;split
  ·simp
  ·rename_i hi;rw [List.eraseIdx_of_length_le (by simpa using hi)]
 have hat:∀j:Nat,(ents.eraseIdxIfInBounds i)[j]?=(ents.toList.eraseIdx i)[j]?:=fun j=>by rw [←hl];exact w1t.symm
 have hidx:∀(α:Type) (l:List α) (j:Nat),(l.eraseIdx i)[j]?=l[if j<i then j else j+1]?:=fun α l j=>by rw [List.getElem?_eraseIdx];split<;>rfl
 have hent:∀(j:Nat) (e:MapEntry),(ents.eraseIdxIfInBounds i)[j]?=some e->ents[if j<i then j else j+1]?=some e:=by
  intro j e he;rw [hat,hidx] at he;simpa using he
 refine ⟨?_,fun j e x a b=>?_,fun j e a=>h.born _ e (hent j e a),fun j j' e f a b hb=>?_,fun c bs hc=>by
  cases sx with
  |none=>cases hc
  |some y=>
   obtain ⟨c',bs'⟩:=y;obtain ⟨h1,h2⟩:=h.known c' bs' rfl;simp only [z4Z,w00,w05] at hc;obtain ⟨rfl,rfl⟩:=hc
   exact ⟨h1,by rw [hl,←h2,map_eraseIdx]⟩⟩
 ·have h1:(ents.eraseIdxIfInBounds i).size=(ents.toList.eraseIdx i).length:=by rw [←hl];exact w1o.symm
  rw [h1,w2b,w2b];have:=h.size;simp [this]
 ·rw [hidx] at b;exact h.at_ _ e x (hent j e a) b
 ·have:=h.apart _ _ e f (hent j e a) (hent j' f b) hb
  split at this<;>split at this<;>omega
theorem zgu {t kt et:TypeId} {x k v:Operand} {ks:List KSh} {kag:Bool} {x' k' v':Ar} {q:Nat} {cs:List T} {es:List (List T×V)} {sx:Option (Nat×List Nat)} (hop:o.op= .mapUpdate t x k v) (hu:P.underlying t=some (.map kt et)) (hK:YT P kt=some (ks,kag))
  (hx:opA x=some x') (hk:opA k=some k') (hv:opA v=some v') (hxv:x'.u st= .mp q) (hkc:z0g ks kag (k'.u st)=some cs) (hes:zj st.s.sto q=some (.map kag es sx)) (hok:yg ks es=true):
  zM P o base st {v:= .top,ob:=[(q,.map kag (z4I cs (v'.u st) es) none)],rd:=true}:=by
 intro C Λ a next Q hC hr _ _ hnext;have hx1:=hr.opu hx;have hv1:=hr.opu hv;obtain ⟨ek,hko⟩:=WY (hr.opu hk) hkc;have KT:z3N P kt ks kag:=⟨hK⟩;rw [hxv] at hx1;generalize hex:a.eval x=u at hx1
 cases hx1 with
 |@mp b _ hql hb=>
  obtain ⟨ents,clock,hh,hM⟩:=hr.s.Wr hes hb;have hf:=qm KT hko hM.size (hM.keyed hok) hok Λ.w
  have hka:q9 Λ.lab Λ.w kag (kv kag cs) cs:=z6S hko fun h=>by subst h;obtain ⟨s,rfl⟩:=QK KT;obtain ⟨x,e,_⟩:=Wi hko;exact ⟨x,e⟩
  cases hm:ZZ cs es with
  |some i=>
   obtain ⟨e,h1,h2,h3,h4,_⟩:=qp hm;obtain ⟨en,h5,h6⟩:=hM.val h1
   have hek:en.key=kv kag cs:=by
    have:=hM.keyed hok i en e h5 h1
    have hko':Zd ks e.1=true:=by unfold yg at hok;rw [w0i] at hok;exact hok e (zMG h1)
    rw [this,z1x hko hko' h2]
   have hrun:(execOp a.eval o).run P Λ.w= .ok .skip (yP Λ.w b (ents.modify i fun e=>{e with key:=kv kag cs,val:=a.eval v}) clock):=by
    rw [hm] at hf;simp only [h5,Option.map] at hf;simp only [execOp,hop,hex,ek];simp only [Instr.mapUpdate,Sem.run_bind,run_underlying hu,MapKept.run_getObj_map hh,Result.andThen_ok,Y1 KT hko,hf,h5,Option.map,Option.getD,hek,z61 KT hko,MapKept.run_setObj_map _ hh];rfl
   unfold Oper.wp;rw [hrun];simp only [h4] at hnext;obtain ⟨g1,g2,g3⟩:=Yy (v:= .top) (rd:=true) hr.s hql hb hh ((hM.set (i:=i) hka hv1).forget);exact hnext undef _ g1 Z g2 .top (fun k h _ _=>g3 k h)
  |none=>
   obtain ⟨_,h4,_⟩:=qX hm
   have hrun:(execOp a.eval o).run P Λ.w= .ok .skip (yP Λ.w b (ents.push {key:=kv kag cs,val:=a.eval v,born:=clock}) (clock+1)):=by
    rw [hm] at hf;simp only [execOp,hop,hex,ek];simp only [Instr.mapUpdate,Sem.run_bind,run_underlying hu,MapKept.run_getObj_map hh,Result.andThen_ok,Y1 KT hko,hf,MapKept.run_setObj_map _ hh];rfl
   unfold Oper.wp;rw [hrun];simp only [h4] at hnext
   obtain ⟨g1,g2,g3⟩:=Yy (v:= .top) (rd:=true) hr.s hql hb hh (hM.push (sx':=none) hka hv1 (fun _ _ h=>by cases h))
   exact hnext undef _ g1 Z g2 .top (fun k h _ _=>g3 k h)
theorem zfT {ty kt et:TypeId} {x k:Operand} {args:Array Operand} {ats:Array TypeId} {ks:List KSh} {kag:Bool} {x' k':Ar} {q:Nat} {cs:List T} {es:List (List T×V)} {sx:Option (Nat×List Nat)} (hop:o.op= .call {callee:= .builtin .delete,args:=args,argTypes:=ats}) (ha:args.toList=[x,k]) (hat:ats[0]?=some ty)
  (hu:P.underlying ty=some (.map kt et)) (hK:YT P kt=some (ks,kag)) (hx:opA x=some x') (hk:opA k=some k') (hxv:x'.u st= .mp q) (hkc:z0g ks kag (k'.u st)=some cs) (hes:zj st.s.sto q=some (.map kag es sx)) (hok:yg ks es=true):
  zM P o base st {v:= .top,ob:=[(q,.map kag (z0o cs es) (z4Z (ZZ cs es) sx))],rd:=true}:=by
 intro C Λ a next Q hC hr _ _ hnext;have hx1:=hr.opu hx;obtain ⟨ek,hko⟩:=WY (hr.opu hk) hkc;have KT:z3N P kt ks kag:=⟨hK⟩
 have haa:args=#[x,k]:=by apply w27;simpa using ha
 subst haa;rw [hxv] at hx1;generalize hex:a.eval x=u at hx1
 cases hx1 with
 |@mp b _ hql hb=>
  obtain ⟨ents,clock,hh,hM⟩:=hr.s.Wr hes hb;have hf:=qm KT hko hM.size (hM.keyed hok) hok Λ.w
  cases hm:ZZ cs es with
  |some i=>
   obtain ⟨e,h1,_,_,_,h4⟩:=qp hm;obtain ⟨en,h5,h6⟩:=hM.val h1
   have hrun:(execOp a.eval o).run P Λ.w= .ok (.value (.tuple #[])) (yP Λ.w b (ents.eraseIdxIfInBounds i) clock):=by
    rw [hm] at hf;simp only [h5,Option.map] at hf;simp only [execOp,hop,resolve,invoke,builtin,List.map_toArray,w0n,List.map_nil,hex,ek];simp [Builtin.delete_,hat,run_underlying hu,MapKept.run_getObj_map hh,Y1 KT hko,hf,MapKept.run_setObj_map _ hh];rfl
   unfold Oper.wp;rw [hrun];simp only [h4,hm] at hnext;obtain ⟨g1,g2,g3⟩:=Yy (v:= .top) (rd:=true) hr.s hql hb hh (hM.erase i);exact hnext _ _ g1 Z g2 .top (fun k h _ _=>g3 k h)
  |none=>
   obtain ⟨_,_,h4⟩:=qX hm
   have hrun:(execOp a.eval o).run P Λ.w= .ok (.value (.tuple #[])) (yP Λ.w b ents clock):=by
    rw [hm] at hf;simp only [execOp,hop,resolve,invoke,builtin,List.map_toArray,w0n,List.map_nil,hex,ek];simp [Builtin.delete_,hat,run_underlying hu,MapKept.run_getObj_map hh,Y1 KT hko,hf,MapKept.run_setObj_map _ hh];rfl
   unfold Oper.wp;rw [hrun]
   simp only [h4,hm,show z4Z none sx=sx from by cases sx<;>rfl] at hnext
   obtain ⟨g1,g2,g3⟩:=Yy (v:= .top) (rd:=true) hr.s hql hb hh hM;exact hnext _ _ g1 Z g2 .top (fun k h _ _=>g3 k h)
theorem wP.empty {Λ:L} {kag:Bool} {clock:Nat} {sx:Option (Nat×List Nat)} (h:∀c bs,sx=some (c,bs)->clock=c/\bs=[]):wP Λ kag #[] clock [] sx:=
 ⟨rfl,by simp,by simp,by simp,fun c bs hs=>by obtain ⟨h1,h2⟩:=h c bs hs;exact ⟨h1,h2.symm⟩⟩
theorem zfB {ty kt et:TypeId} {x:Operand} {args:Array Operand} {ats:Array TypeId} {kag:Bool} {x':Ar} {q:Nat} {es:List (List T×V)} {sx:Option (Nat×List Nat)} (hop:o.op= .call {callee:= .builtin .clear,args:=args,argTypes:=ats}) (ha:args.toList=[x]) (hat:ats[0]?=some ty)
  (hu:P.underlying ty=some (.map kt et)) (hx:opA x=some x') (hxv:x'.u st= .mp q) (hes:zj st.s.sto q=some (.map kag es sx)):
  zM P o base st {v:= .top,ob:=[(q,.map kag [] none)],rd:=true}:=by
 intro C Λ a next Q hC hr _ _ hnext;have hx1:=hr.opu hx
 have haa:args=#[x]:=by apply w27;simpa using ha
 subst haa;rw [hxv] at hx1;generalize hex:a.eval x=u at hx1
 cases hx1 with
 |@mp b _ hql hb=>
  obtain ⟨ents,clock,hh,hM⟩:=hr.s.Wr hes hb
  have hrun:(execOp a.eval o).run P Λ.w= .ok (.value (.tuple #[])) (yP Λ.w b #[] clock):=by
   simp only [execOp,hop,resolve,invoke,builtin,List.map_toArray,w0n,List.map_nil,hex];simp [Builtin.clear_,hat,run_underlying hu,MapKept.run_getObj_map hh,MapKept.run_setObj_map _ hh];rfl
  unfold Oper.wp;rw [hrun]
  obtain ⟨g1,g2,g3⟩:=Yy (v:= .top) (rd:=true) hr.s hql hb hh (wP.empty (kag:=kag) (clock:=clock) (sx:=none) (fun _ _ h=>by cases h))
  exact hnext _ _ g1 Z g2 .top (fun k h _ _=>g3 k h)
theorem ze6 {t:TypeId} {kag:Bool} (hop:o.op= .makeMap t none):zM P o base st {v:= .mp base,ob:=[(base,.map kag [] (some (0,[])))],n:=1}:=by
 intro C Λ a next Q hC hr hle hfree hnext
 have hrun:(execOp a.eval o).run P Λ.w= .ok (.value (.map (some Λ.w.heap.size))) (Λ.w.alloc (.map #[] 0)):=by
  simp only [execOp,hop];simp [Instr.makeMap]
 unfold Oper.wp;rw [hrun];obtain ⟨hb1,hb2,hb3⟩:=hfree base (w09 _) (by simp);have g:=yK.alloc Λ.w (.map #[] 0);have hkp:=Kp.new g hr.s.new (.obj base)
 obtain ⟨k1,k2,k3⟩:=z08 hr.s g hb1 hb2 rfl (ao:= .map kag [] (some (0,[]))) ⟨Λ.w.heap.size,_,_,by simp [zq],g.top,wP.empty (fun c bs h=>by simp at h;exact ⟨h.1,h.2⟩)⟩
 exact hnext _ _ k1 Z k2 (.mp hb1 (by simp [zq])) (fun k hk _ hlt=>k3 k hk (by simp at hlt;omega))
theorem zdl {ty kt et:TypeId} {x:Operand} {args:Array Operand} {ats:Array TypeId} {x':Ar} {n:Nat} (hop:o.op= .call {callee:= .builtin .len,args:=args,argTypes:=ats}) (ha:args[0]?=some x) (hat:ats[0]?=some ty)
  (hu:P.underlying ty=some (.map kt et)) (hx:opA x=some x') (hxv:(x'.u st= .t .z0J/\n=0)∨∃q kag es sx,x'.u st= .mp q/\zj st.s.sto q=some (.map kag es sx)/\n=es.length):
  zM P o base st {v:= .t (.int .i64 n),rd:=true}:=by
 intro C Λ a next Q hC hr _ _ hnext;have hx1:=hr.opu hx
 have hrun:(execOp a.eval o).run P Λ.w= .ok (.value (.int .i64 n)) Λ.w:=by
  rcases hxv with ⟨h1,rfl⟩|⟨q,kag,es,sx,h1,h2,rfl⟩
  ·rw [h1] at hx1
   have:a.eval x= .map none:=by generalize a.eval x=u at hx1;cases hx1 with|t h=>cases h;rfl
   have hax:(args.map a.eval)[0]?=some (.map none):=by simp [ha,this]
   simp only [execOp,hop,resolve,Sem.run_bind,Sem.run_pure,Result.andThen_ok,invoke,builtin];simp [Builtin.len_,hat,hax,run_underlying hu,goInt]
  ·rw [h1] at hx1;generalize hex:a.eval x=u at hx1
   cases hx1 with
   |@mp b _ hql hb=>
    obtain ⟨ents,clock,hh,hM⟩:=hr.s.Wr h2 hb
    have hax:(args.map a.eval)[0]?=some (.map (some b)):=by simp [ha,hex]
    simp only [execOp,hop,resolve,Sem.run_bind,Sem.run_pure,Result.andThen_ok,invoke,builtin];simp [Builtin.len_,hat,hax,run_underlying hu,goInt,MapKept.run_getObj_map hh,hM.size]
 unfold Oper.wp;rw [hrun];exact hnext _ Λ (Kp.refl _) Z hr.s (.t (.int _ _)) (fun _ h _ _=>h)
theorem zcu {t kt et:TypeId} {x k:Operand} {ks:List KSh} {kag:Bool} {zv:V} {x' k':Ar} {q c:Nat} {bs:List Nat} {cs:List T} {es:List (List T×V)} (hop:o.op= .mapEntry t x k) (hu:P.underlying t=some (.map kt et)) (hK:YT P kt=some (ks,kag)) (hz:QU P et=some zv)
  (hx:opA x=some x') (hk:opA k=some k') (hxv:x'.u st= .mp q) (hkc:z0g ks kag (k'.u st)=some cs) (hes:zj st.s.sto q=some (.map kag es (some (c,bs)))) (hok:yg ks es=true):
  (∀i e b,ZZ cs es=some i->es[i]?=some e->bs[i]?=some b->zM P o base st {v:= .tup [e.2,.t (.int .i64 b)],ob:=[(q,.map kag es (some (c,bs)))],rd:=true})/\
  (ZZ cs es=none->zM P o base st {v:= .tup [zv,.t (.int .i64 c)],ob:=[(q,.map kag (es++[(cs,zv)]) (some (c+1,bs++[c])))],rd:=true}):=by
 have KT:z3N P kt ks kag:=⟨hK⟩;refine ⟨fun i e bb hm he hbb=>?_,fun hm=>?_⟩
 ·intro C Λ a next Q hC hr _ _ hnext;have hx1:=hr.opu hx;obtain ⟨ek,hko⟩:=WY (hr.opu hk) hkc;rw [hxv] at hx1;generalize hex:a.eval x=u at hx1
  cases hx1 with
  |@mp b _ hql hb=>
   obtain ⟨ents,clock,hh,hM⟩:=hr.s.Wr hes hb;have hf:=qm KT hko hM.size (hM.keyed hok) hok Λ.w
   have hka:q9 Λ.lab Λ.w kag (kv kag cs) cs:=z6S hko fun h=>by subst h;obtain ⟨s,rfl⟩:=QK KT;obtain ⟨x,e,_⟩:=Wi hko;exact ⟨x,e⟩
   obtain ⟨e',h1,h2,h3,h4,_⟩:=qp hm;rw [he] at h1;simp at h1;subst h1;obtain ⟨en,h5,h6⟩:=hM.val he
   have hek:en.key=kv kag cs:=by
    have:=hM.keyed hok i en e h5 he
    have hko':Zd ks e.1=true:=by unfold yg at hok;rw [w0i] at hok;exact hok e (zMG he)
    rw [this,z1x hko hko' h2]
   have hbn:en.born=bb:=by
    obtain ⟨_,e2⟩:=hM.known c bs rfl;rw [←e2,w0c] at hbb;have:ents.toList[i]?=ents[i]?:=w1t;rw [this,h5] at hbb;simpa using hbb
   have hcs:cs=e.1:=by
    have hko':Zd ks e.1=true:=by unfold yg at hok;rw [w0i] at hok;exact hok e (zMG he)
    exact z1x hko hko' h2
   have hrun:(execOp a.eval o).run P Λ.w= .ok (.value (.tuple #[en.val,.int .i64 bb])) (yP Λ.w b (ents.modify i fun e=>{e with key:=kv kag cs}) clock):=by
    rw [hm] at hf;simp only [h5,Option.map] at hf;simp only [execOp,hop,hex,ek];simp only [Instr.mapEntry,Sem.run_bind,run_underlying hu,MapKept.run_getObj_map hh,Result.andThen_ok,Y1 KT hko,hf,h5,Option.map,Option.getD,hek,z61 KT hko,MapKept.run_setObj_map _ hh,hbn];rfl
   have hmod:(ents.modify i fun e=>{e with key:=kv kag cs})=ents.modify i fun e=>{e with key:=kv kag cs,val:=en.val}:=by
    apply w27;apply w22;intro j;rw [w1t,w1t,w29,w29];split
    ·rename_i hij;subst hij;rw [h5];simp
    ·rfl
   have hM2:=hM.set (i:=i) hka h6
   have hes2:es.set i (cs,e.2)=es:=by
    rw [hcs];apply w22;intro j;rw [w1q];split
    ·rename_i hij;subst hij;rw [he];simp;exact (w02.1 he).1
    ·rfl
   rw [hes2,←hmod] at hM2;unfold Oper.wp;rw [hrun];obtain ⟨g1,g2,g3⟩:=Yy (v:= .tup [e.2,.t (.int .i64 bb)]) (rd:=true) hr.s hql hb hh hM2;refine hnext _ _ g1 Z g2 (.tup Z fun j u d hu hd=>?_) (fun k h _ _=>g3 k h)
   match j,hu,hd with
   |0,hu,hd=>simp at hu hd;subst hu;subst hd;exact h6.mono g1
   |1,hu,hd=>simp at hu hd;subst hu;subst hd;exact .t (.int _ _)
 ·intro C Λ a next Q hC hr _ _ hnext;have hx1:=hr.opu hx;obtain ⟨ek,hko⟩:=WY (hr.opu hk) hkc;rw [hxv] at hx1;generalize hex:a.eval x=u at hx1
  cases hx1 with
  |@mp b _ hql hb=>
   obtain ⟨ents,clock,hh,hM⟩:=hr.s.Wr hes hb;have hf:=qm KT hko hM.size (hM.keyed hok) hok Λ.w
   have hka:q9 Λ.lab Λ.w kag (kv kag cs) cs:=z6S hko fun h=>by subst h;obtain ⟨s,rfl⟩:=QK KT;obtain ⟨x,e,_⟩:=Wi hko;exact ⟨x,e⟩
   obtain ⟨z,hz1,hz2⟩:=z2S hz Λ.w;have hcl:clock=c:=(hM.known c bs rfl).1;subst hcl
   have hrun:(execOp a.eval o).run P Λ.w= .ok (.value (.tuple #[z,.int .i64 clock])) (yP Λ.w b (ents.push {key:=kv kag cs,val:=z,born:=clock}) (clock+1)):=by
    rw [hm] at hf;simp only [execOp,hop,hex,ek];simp only [Instr.mapEntry,Sem.run_bind,run_underlying hu,MapKept.run_getObj_map hh,Result.andThen_ok,Y1 KT hko,hf,hz1,MapKept.run_setObj_map _ hh];rfl
   unfold Oper.wp;rw [hrun]
   obtain ⟨g1,g2,g3⟩:=Yy (v:= .tup [zv,.t (.int .i64 clock)]) (rd:=true) hr.s hql hb hh (hM.push (sx':=some (clock+1,bs++[clock])) hka (hz2 Λ) (fun c' bs' h=>by simp at h;exact ⟨clock,bs,rfl,h.1.symm,h.2.symm⟩))
   refine hnext _ _ g1 Z g2 (.tup Z fun j u d hu hd=>?_) (fun k h _ _=>g3 k h)
   match j,hu,hd with
   |0,hu,hd=>simp at hu hd;subst hu;subst hd;exact (hz2 Λ).mono g1
   |1,hu,hd=>simp at hu hd;subst hu;subst hd;exact .t (.int _ _)
theorem z6T {α:Type} (xs:Array α) (p:α->Bool):xs.findIdx? p=xs.toList.findIdx? p:=by
 obtain ⟨l⟩:=xs;simp
theorem zgm {t:TypeId} {x s v:Operand} {x' s' v':Ar} {q c i:Nat} {bs:List Nat} {z:Int} {kd:IntKind} {kag:Bool} {es:List (List T×V)} (hop:o.op= .entryStore t x s v) (hx:opA x=some x') (hs:opA s=some s') (hv:opA v=some v') (hxv:x'.u st= .mp q) (hsv:s'.u st= .t (.int kd z))
  (hes:zj st.s.sto q=some (.map kag es (some (c,bs)))) (hi:bs.findIdx? (fun b:Nat=>decide (((b:Nat):Int)=z))=some i):
  zM P o base st {v:= .top,ob:=[(q,.map kag (es.modify i fun e=>(e.1,v'.u st)) (some (c,bs)))],rd:=true}:=by
 intro C Λ a next Q hC hr _ _ hnext;have hx1:=hr.opu hx;have hs1:=hr.opu hs;have hv1:=hr.opu hv;rw [hsv] at hs1;have es1:=hs1.ZL.yc;rw [hxv] at hx1;generalize hex:a.eval x=u at hx1
 cases hx1 with
 |@mp b _ hql hb=>
  obtain ⟨ents,clock,hh,hM⟩:=hr.s.Wr hes hb;obtain ⟨e1,e2⟩:=hM.known c bs rfl
  have hfi:ents.findIdx? (fun e=>(e.born:Int)==z)=some i:=by
   rw [z6T,←hi,←e2,List.findIdx?_map];congr 1
  have hlt:i<ents.size:=by
   have:=(Array.findIdx?_eq_some_iff_findIdx_eq.1 hfi).1;exact this
  have hen:ents[i]?=some ents[i]:=by simp [hlt]
  have hle:i<es.length:=by rw [←hM.size];exact hlt
  have hee:es[i]?=some es[i]:=by simp [hle]
  have hka:=(hM.at_ i _ _ hen hee).1
  have hrun:(execOp a.eval o).run P Λ.w= .ok .skip (yP Λ.w b (ents.modify i fun e=>{e with val:=a.eval v}) clock):=by
   simp only [execOp,hop,hex,es1]
   have hz:(asInt (.int kd z)).run P Λ.w= .ok z Λ.w:=by simp [asInt,asIntOf]
   simp only [Instr.entryStore,Sem.run_bind,MapKept.run_getObj_map hh,Result.andThen_ok,hz,hfi,MapKept.run_setObj_map _ hh,Sem.run_pure];rfl
  have hmod:(ents.modify i fun e=>{e with val:=a.eval v})=ents.modify i fun e=>{e with key:=ents[i].key,val:=a.eval v}:=by
   apply w27;apply w22;intro j;rw [w1t,w1t,w29,w29];split
   ·rename_i hij;subst hij;rw [hen];simp
   ·rfl
  have hes2:(es.modify i fun e=>(e.1,v'.u st))=es.set i (es[i].1,v'.u st):=by
   apply w22;intro j;rw [List.getElem?_modify,w1q];split
   ·rename_i hij;subst hij;rw [hee];simp
   ·simp
  have hM2:=hM.set (i:=i) hka hv1;rw [←hmod,←hes2] at hM2;unfold Oper.wp;rw [hrun];obtain ⟨g1,g2,g3⟩:=Yy (v:= .top) (rd:=true) hr.s hql hb hh hM2;exact hnext undef _ g1 Z g2 .top (fun k h _ _=>g3 k h)
end
theorem z3g {z:Nat} {e:List T×V}:∀{es:List (List T×V)} {bs:List Nat},z1A z es bs=some e->∃i:Nat,es[i]?=some e/\bs[i]?=some z
 |[],bs,h=>by simp [z1A] at h
 |x::r,[],h=>by simp [z1A] at h
 |x::r,b::bs,h=>by
  simp only [z1A] at h;split at h
  ·rename_i hb;simp at h;subst h;exact ⟨0,rfl,by simp [hb]⟩
  ·obtain ⟨i,h1,h2⟩:=z3g h
   exact ⟨i+1,by simpa using h1,by simpa using h2⟩
theorem q9.z2Y {Λ:L} {kag:Bool} {v:Value} {cs:List T} (h:q9 Λ.lab Λ.w kag v cs):zr Λ v (z2Y kag cs):=by
 unfold q9 at h;unfold Go.GB.z2Y
 cases kag with
 |true=>
  obtain ⟨vs,rfl,hs,hv⟩:=h;simp only [w17];refine .agg (by simpa using hs) fun j u c a b=>?_;rw [w0c,w06] at b;obtain ⟨x,b1,rfl⟩:=b;exact .t (hv j u x a b1)
 |false=>
  obtain ⟨x,rfl,hv⟩:=h;exact .t hv
theorem z68 {l:List Nat} {z:Nat} (h:l.getLast?=some z):∃a:Array Nat,l.toArray=a.push z:=by
 have hne:l≠[]:=by intro e;subst e;simp at h
 refine ⟨l.dropLast.toArray,?_⟩
 have h2:l.getLast hne=z:=by rw [List.getLast?_eq_some_getLast hne] at h;simpa using h
 rw [List.push_toArray,←h2,List.dropLast_concat_getLast hne]
section
variable {P:Program} {o:Oper} {st:St} {base:Nat}
theorem zge {gc:Bool} {x:Operand} {x':Ar} {v:V} {ps:List Bool} (hop:o.op= .entry x) (hx:opA x=some x') (he:Zq gc st (.z7v x')=some (v,ps)) (hp:∀q∈ps,q):zD P o gc st v:=by
 intro C Λ a hC hg hr;simp only [Zq] at he;generalize h1:rd gc st x'=rx at he;obtain ⟨vx,p1⟩:=rx;split at he
 ·rename_i k p hk;simp only [w05] at hk;obtain ⟨rfl,rfl⟩:=hk;split at he
  ·rename_i q s seen c hit;split at he
   ·rename_i kag es c' bs z hes hz;split at he
    ·rename_i e hent;simp only [w00,w05] at he;obtain ⟨rfl,rfl⟩:=he;have hxv:zr Λ (a.eval x) (.ptr k 0):=zm hr hx h1 (fun q hq=>hp q (by simp [hq])) hg
     have hcc:c'=c:=by have:=hp (decide (c'=c)) (by simp);simpa using this
     have hnd:bs.Nodup:=by have:=hp (decide bs.Nodup) (by simp);simpa using this
     subst hcc;obtain ⟨b,bm,e1,e2,e3,e4⟩:=(hr.s.sto k _ hit).2;obtain ⟨ents,clock,hh,hM⟩:=hr.s.Wr hes e3;obtain ⟨k1,k2⟩:=hM.known c' bs rfl;obtain ⟨i,g1,g2⟩:=z3g hent;obtain ⟨seen',hs'⟩:=z68 hz
     have hil:i<ents.size:=by rw [hM.size];exact (w02.1 g1).1
     have hen:ents[i]?=some ents[i]:=by simp [hil]
     have hborn:ents[i].born=z:=by
      rw [←k2,w0c] at g2;have:ents.toList[i]?=ents[i]?:=w1t;rw [this,hen] at g2;simpa using g2
     have hmem:ents[i]∈ents.toList:=by simp
     rw [hs',←hborn,←k1] at e2;have hrun:=run_entry_at (P:=P) Λ.w b bm s seen' ents clock ents[i] e2 hh hmem (by rw [k2];exact hnd);generalize hex:a.eval x=u at hxv
     cases hxv with
     |@ptr b' _ _ hkl hb'=>
      obtain rfl:=hr.s.inj b' b k hb' e1;refine ⟨.tuple #[ents[i].key,ents[i].val],?_,?_⟩
      ·simp only [execOp,hop,hex];simp only [Sem.run_bind,hrun,Result.andThen_ok,Sem.run_pure]
      ·obtain ⟨q1,q2⟩:=hM.at_ i _ _ hen g1;refine .tup Z fun j u c hj hc=>?_
       match j,hj,hc with
       |0,hj,hc=>simp at hj hc;subst hj;subst hc;exact q1.z2Y
       |1,hj,hc=>simp at hj hc;subst hj;subst hc;exact q2
    ·cases he
   ·cases he
  ·cases he
 ·cases he
theorem zcY {t kt et:TypeId} {x:Operand} {x':Ar} {q c:Nat} {bs:List Nat} {kag:Bool} {es:List (List T×V)} (hop:o.op= .range t x) (hu:P.underlying t=some (.map kt et)) (hx:opA x=some x') (hxv:x'.u st= .mp q)
  (hes:zj st.s.sto q=some (.map kag es (some (c,bs)))):zM P o base st {v:= .ptr base 0,ob:=[(base,.iter q c [] c)],n:=1,rd:=true}:=by
 intro C Λ a next Q hC hr hle hfree hnext;have hx1:=hr.opu hx;rw [hxv] at hx1;generalize hex:a.eval x=u at hx1
 cases hx1 with
 |@mp b _ hql hb=>
  obtain ⟨ents,clock,hh,hM⟩:=hr.s.Wr hes hb;obtain ⟨rfl,_⟩:=hM.known c bs rfl
  have hrun:(execOp a.eval o).run P Λ.w= .ok (.value (.pointer (some ⟨Λ.w.heap.size,0,none⟩))) (Λ.w.alloc (.mapIter (some b) clock #[] clock)):=by
   simp only [execOp,hop,hex];simp only [Sem.run_bind,run_range_map Λ.w t kt et b ents clock hu hh,Result.andThen_ok,Sem.run_pure]
  unfold Oper.wp;rw [hrun];obtain ⟨hb1,hb2,hb3⟩:=hfree base (w09 _) (by simp);have g:=yK.alloc Λ.w (.mapIter (some b) clock #[] clock);have hne:b≠Λ.w.heap.size:=Nat.ne_of_lt (z1F hh)
  obtain ⟨k1,k2,k3⟩:=z08 hr.s g hb1 hb2 rfl (ao:= .iter q clock [] clock) ⟨Λ.w.heap.size,b,by simp [zq],g.top,by simp only;rw [zx hne];exact hb,hql⟩
  exact hnext _ _ k1 Z k2 (.ptr hb1 (by simp [zq])) (fun k hk _ hlt=>k3 k hk (by rcases hlt with h|h<;>simp at h<;>omega))
end
def Lab.ofK (k:Nat):Lab->Prop
 | .fob j _=>j=k
 | .far j _ _=>j=k
 |_=>False
structure Zy (Λ Λ':L) (k:Nat):Prop where
 os:Λ'.w.os=Λ.w.os
 tape:Λ'.w.tape=Λ.w.tape
 output:Λ'.w.output=Λ.w.output
 size:Λ.w.heap.size<=Λ'.w.heap.size
 nxt:Λ'.nxt=Λ.nxt
 fro:Λ'.fro=Λ.fro
 lab:∀b,Λ'.lab b=Λ.lab b∨((Λ'.lab b).ofK k/\((Λ.lab b).ofK k∨Λ.w.heap.size<=b))
 heap:∀b,b<Λ.w.heap.size->¬ (Λ.lab b).ofK k->Λ'.w.heap[b]?=Λ.w.heap[b]?
 fob:∀b i,Λ.lab b= .fob k i->Λ'.lab b= .fob k i/\∀N,Zl Λ.w b=some N->Zl Λ'.w b=some N
 far:∀b i n,b<Λ.w.heap.size->Λ.lab b= .far k i n->Λ'.frf k i=Λ.frf k i->Λ'.lab b= .far k i n/\Λ'.w.heap[b]?=Λ.w.heap[b]?
 rd:∀b i n,b<Λ.w.heap.size->Λ.lab b= .far k i n->∀o,o<n->Rd Λ'.lab b o/\Λ'.w.cell? ⟨b,o,none⟩=Λ.w.cell? ⟨b,o,none⟩
 zf0:∀j i,j≠k->Λ'.frf j i=Λ.frf j i
 zhw:∀i,Λ.frf k i<=Λ'.frf k i
 z4C:∀b i,Λ'.frf k 0=Λ.frf k 0->Λ'.lab b= .fob k i->Λ.lab b= .fob k i
 inj:∀b b' i,Λ'.lab b= .fob k i->Λ'.lab b'= .fob k i->b=b'
 new:∀b,Λ'.w.heap.size<=b->Λ'.lab b= .fix none
theorem Zy.old {Λ Λ':L} {k:Nat} (F:Zy Λ Λ' k) {s:S} (h:zT Λ s) {b:Nat} {x:Lab} (hl:Λ.lab b=x) (hx:x≠ .fix none) (hk:¬ x.ofK k):Λ'.lab b=x/\Λ'.w.heap[b]?=Λ.w.heap[b]?:=by
 have hlt:b<Λ.w.heap.size:=by
  rcases w1a b Λ.w.heap.size with h'|h'
  ·exact h'
  ·rw [h.new b h'] at hl;exact absurd hl.symm hx
 refine ⟨?_,F.heap b hlt (by rw [hl];exact hk)⟩
 rcases F.lab b with e|⟨_,e|e⟩
 ·rw [e];exact hl
 ·rw [hl] at e;exact absurd e hk
 ·omega
theorem Zy.back {Λ Λ':L} {k:Nat} (F:Zy Λ Λ' k) {b:Nat} {x:Lab} (hl:Λ'.lab b=x) (hk:¬ x.ofK k):Λ.lab b=x:=by
 rcases F.lab b with e|⟨e,_⟩
 ·rw [←e];exact hl
 ·rw [hl] at e;exact absurd e hk
theorem Zy.kp {Λ Λ':L} {k:Nat} (F:Zy Λ Λ' k) {s:S} (h:zT Λ s):Kp Λ Λ':=by
 have hfix:∀b,b<Λ.w.heap.size->∀fr,Λ.lab b= .fix fr->Λ'.lab b= .fix fr/\Λ'.w.heap[b]?=Λ.w.heap[b]?:=by
  intro b hb fr hl;refine ⟨?_,F.heap b hb (by rw [hl];exact id)⟩
  rcases F.lab b with e|⟨_,e|e⟩
  ·rw [e];exact hl
  ·rw [hl] at e;exact absurd e id
  ·omega
 have hlt:∀{b:Nat} {x:Lab},Λ.lab b=x->x≠ .fix none->b<Λ.w.heap.size:=by
  intro b x hl hx
  rcases w1a b Λ.w.heap.size with h'|h'
  ·exact h'
  ·rw [h.new b h'] at hl;exact absurd hl.symm hx
 refine ⟨⟨F.os,F.tape,F.output,F.size,hfix,fun b hb j fr hl o ho=>?_,fun b hb j i fr hl o ho=>?_⟩,by rw [F.nxt];exact w09 _,fun b j _ hl=>(F.old h hl (by simp) id).1,fun b j n _ _ hl _=>F.old h hl (by simp) id,
  fun j _=>by rw [F.fro];exact w09 _,fun b j i _ hl=>?_,fun b j i n _ hb hl hf=>?_,fun j i _=>?_,fun b j i _ _ hf hl=>?_⟩
 ·obtain ⟨e1,e2⟩:=F.old h hl (by simp) id
  exact ⟨by simp [Rd,e1,ho],cell?_heap e2⟩
 ·by_cases e:j=k
  ·subst e;exact F.rd b i fr hb hl o ho
  ·obtain ⟨e1,e2⟩:=F.old h hl (by simp) e
   exact ⟨by simp [Rd,e1,ho],cell?_heap e2⟩
 ·by_cases e:j=k
  ·subst e;exact F.fob b i hl
  ·obtain ⟨e1,e2⟩:=F.old h hl (by simp) e
   exact ⟨e1,fun N hN=>by unfold Zl at hN⊢;rw [e2];exact hN⟩
 ·by_cases e:j=k
  ·subst e;exact F.far b i n hb hl hf
  ·exact F.old h hl (by simp) e
 ·by_cases e:j=k
  ·subst e;exact F.zhw i
  ·rw [F.zf0 j i e];exact w09 _
 ·by_cases e:j=k
  ·subst e;exact F.z4C b i hf hl
  ·exact F.back hl e
theorem Zy.z0E {Λ Λ':L} {k:Nat} (F:Zy Λ Λ' k) {s:S} (h:zT Λ s) (hk:k<Λ.nxt) {o:zd} (ho:qd Λ' k o):zT Λ' {s with sto:=Ym s.sto k o}:=by
 have hkp:=F.kp h
 refine ⟨fun j ob hj=>?_,fun b b' j h1 h2=>h.inj b b' j (F.back h1 id) (F.back h2 id),F.new,fun b j hb=>?_,fun j hj=>by rw [F.fro];exact h.frz j (by rw [←F.nxt];exact hj),fun b b' j i h1 h2=>?_,fun b j hb=>?_,fun j i hj=>?_⟩
 ·simp only at hj;rw [Zb] at hj;split at hj
  ·rename_i e;subst e;simp at hj;subst hj;exact ⟨by rw [F.nxt];exact hk,ho⟩
  ·rename_i hne;obtain ⟨a1,a2⟩:=h.sto j ob hj;have hne':¬ j=k:=fun e=>hne e.symm
   exact ⟨by rw [F.nxt];exact a1,a2.mono hkp a1 (fun b hb=>(F.old h hb (by simp) id).2) (by rw [F.fro]) (fun b i hb=>(F.old h hb (by simp) hne').2) (fun b i hb=>F.back hb hne') (fun i=>F.zf0 j i hne')⟩
 ·rw [F.nxt]
  rcases hb with hb|⟨n,hb⟩
  ·exact h.bnd b j (.inl (F.back hb id))
  ·exact h.bnd b j (.inr ⟨n,F.back hb id⟩)
 ·by_cases e:j=k
  ·subst e;exact F.inj b b' i h1 h2
  ·exact h.YX b b' j i (F.back h1 e) (F.back h2 e)
 ·rw [F.nxt];by_cases e:j=k
  ·subst e;exact hk
  ·rcases hb with ⟨i,hb⟩|⟨i,n,hb⟩
   ·exact h.Yu b j (.inl ⟨i,F.back hb e⟩)
   ·exact h.Yu b j (.inr ⟨i,n,F.back hb e⟩)
 ·rw [F.nxt] at hj;rw [F.zf0 j i (by omega)];exact h.z2g j i hj
theorem Zy.free {Λ Λ':L} {k:Nat} (F:Zy Λ Λ' k) {j:Nat} (h:ZU Λ j) (hj:j≠k):ZU Λ' j:=
 ⟨fun b hb=>h.obj b (F.back hb id),fun b n hb=>h.arr b n (F.back hb id),by rw [F.fro];exact h.fro,fun b i hb=>h.fob b i (F.back hb hj),fun b i n hb=>h.far b i n (F.back hb hj),fun i=>by rw [F.zf0 j i hj];exact h.frf i⟩
theorem Zy.write {Λ:L} {w':World} {b k i:Nat} {s:S} (h:zT Λ s) (g:YH Λ.w w' b) (hb:Λ.lab b= .fob k i) (hN:∀N,Zl Λ.w b=some N->Zl w' b=some N):Zy Λ {Λ with w:=w'} k:=by
 have hne:∀{c:Nat} {x:Lab},Λ.lab c=x->(∀j,x≠ .fob k j)->c≠b:=fun h hx e=>hx i (by rw [←h,e,hb])
 refine ⟨g.os,g.tape,g.output,by rw [g.size];exact w09 _,rfl,rfl,fun _=> .inl rfl,fun c _ hc=>g.old c (fun e=>hc (by rw [e,hb];rfl)),fun c j hl=>⟨hl,fun N hn=>?_⟩,fun c j n _ hl _=>⟨hl,g.old c (hne hl (by simp))⟩,
  fun c j n _ hl o ho=>⟨by simp [Rd,hl,ho],cell?_heap (g.old c (hne hl (by simp)))⟩,fun _ _ _=>rfl,fun _=>w09 _,fun _ _ _ h=>h,fun b b' j h1 h2=>h.YX b b' k j h1 h2,fun c hc=>h.new c (by rw [←g.size];exact hc)⟩
 by_cases e:c=b
 ·subst e;exact hN N hn
 ·unfold Zl at hn⊢;rw [g.old c e];exact hn
def Zx (f:Nat->Nat->Nat) (k i n:Nat):Nat->Nat->Nat:=fun k' i'=>if k'=k/\i'=i then n else f k' i'
theorem yV {f:Nat->Nat->Nat} {k i n:Nat}:Zx f k i n k i=n:=by simp [Zx]
theorem Yn {f:Nat->Nat->Nat} {k i n k' i':Nat} (h:¬ (k'=k/\i'=i)):Zx f k i n k' i'=f k' i':=by simp [Zx,h]
theorem Zy.zfM {Λ:L} {k i n:Nat} {s:S} (h:zT Λ s) (hn:Λ.frf k i<n):Zy Λ {Λ with frf:=Zx Λ.frf k i n} k:=by
 refine ⟨rfl,rfl,rfl,w09 _,rfl,rfl,fun _=> .inl Z,fun _ _ _=>rfl,fun _ _ hl=>⟨hl,fun _ h=>h⟩,fun _ _ _ _ hl _=>⟨hl,rfl⟩,fun c j m _ hl o ho=>⟨by simp [Rd,hl,ho],rfl⟩,fun j i' hj=>Yn (by omega),fun i'=>?_,fun _ _ _ h=>h,fun b b' j h1 h2=>h.YX b b' k j h1 h2,h.new⟩
 by_cases e:i'=i
 ·subst e;show Λ.frf k i'<=Zx Λ.frf k i' n k i';rw [yV];omega
 ·show Λ.frf k i'<=Zx Λ.frf k i n k i';rw [Yn (by simp [e])];exact w09 _
theorem Zy.grow {Λ:L} {w':World} {o:Obj} {k i n:Nat} {s:S} (h:zT Λ s) (g:yK Λ.w w' o) (hi:∀b,Λ.lab b≠ .fob k i) (hn:Λ.frf k 0<n):
  Zy Λ {Λ with lab:=zQ Λ.lab Λ.w.heap.size (.fob k i),w:=w',frf:=Zx Λ.frf k 0 n} k:=by
 have hne:∀{b:Nat},b<Λ.w.heap.size->zQ Λ.lab Λ.w.heap.size (.fob k i) b=Λ.lab b:=fun h=>zx (by omega)
 have hlt:∀{b:Nat} {x:Lab},Λ.lab b=x->x≠ .fix none->b<Λ.w.heap.size:=by
  intro b x hl hx
  rcases w1a b Λ.w.heap.size with h'|h'
  ·exact h'
  ·rw [h.new b h'] at hl;exact absurd hl.symm hx
 refine ⟨g.os,g.tape,g.output,by rw [g.size];omega,rfl,rfl,fun b=>?_,fun b hb _=>g.old hb,fun b j hl=>?_,fun b j m hb hl _=>⟨by simp only [hne hb];exact hl,g.old hb⟩,fun b j m hb hl o ho=>⟨by simp [Rd,hne hb,hl,ho],cell?_heap (g.old hb)⟩,
  fun j i' hj=>Yn (by omega),fun i'=>?_,fun b j hf=>?_,fun b b' j h1 h2=>?_,fun b hb=>?_⟩
 ·by_cases e:b=Λ.w.heap.size
  ·subst e;refine .inr ⟨by simp [zq,Lab.ofK],.inr (w09 _)⟩
  ·exact .inl (zx e)
 ·have hb:=hlt hl (by simp)
  exact ⟨by simp only [hne hb];exact hl,fun N hN=>by unfold Zl at hN⊢;rw [g.old hb];exact hN⟩
 ·by_cases e:i'=0
  ·subst e;show Λ.frf k 0<=Zx Λ.frf k 0 n k 0;rw [yV];omega
  ·show Λ.frf k i'<=Zx Λ.frf k 0 n k i';rw [Yn (by simp [e])];exact w09 _
 ·exfalso;have:Zx Λ.frf k 0 n k 0=Λ.frf k 0:=hf;rw [yV] at this;omega
 ·simp only at h1 h2;by_cases e1:b=Λ.w.heap.size
  ·by_cases e2:b'=Λ.w.heap.size
   ·omega
   ·rw [zx e2] at h2;subst e1;rw [zq] at h1;simp at h1;subst h1;exact absurd h2 (hi b')
  ·rw [zx e1] at h1;by_cases e2:b'=Λ.w.heap.size
   ·subst e2;rw [zq] at h2;simp at h2;subst h2;exact absurd h1 (hi b)
   ·rw [zx e2] at h2;exact h.YX b b' k j h1 h2
 ·simp only at hb⊢;rw [g.size] at hb;rw [zx (by omega)];exact h.new b (by omega)
section
variable {P:Program} {o:Oper} {base:Nat} {st:St}
theorem z6I {Λ:L} {arr:Array Value} {cs vs:List V} {us:List Value} {off:Nat} (hul:us.length=vs.length) (hlc:off+vs.length<=cs.length) (hca:cs.length<=arr.size)
  (h4:∀(j:Nat) (v:Value) (c:V),arr[j]?=some v->cs[j]?=some c->zr Λ v c) (hy:∀(j:Nat) (v:Value) (c:V),us[j]?=some v->vs[j]?=some c->zr Λ v c):
  ∀(j:Nat) (u:Value) (c:V),(arr.toList.take off++us++arr.toList.drop (off+us.length)).toArray[j]?=some u->(setAt cs off vs)[j]?=some c->zr Λ u c:=by
 intro j u c hu hc;rw [QR _ _ _ _ hlc] at hc
 have hu':(arr.toList.take off++us++arr.toList.drop (off+us.length))[j]?=some u:=by simpa using hu
 have hlt:(arr.toList.take off).length=off:=by simp;omega
 split at hc
 ·rename_i hj;rw [w1g,w0b (by omega),hlt,w0a (by omega)] at hu';exact hy _ u c hu' hc
 ·rename_i hj;refine h4 j u c ?_ hc;by_cases hj1:j<off
  ·rw [w1g,w0a (by omega),w0p,w0e hj1] at hu';simpa using hu'
  ·rw [w0b (by simp;omega),w0z] at hu'
   have:off+us.length+(j - (arr.toList.take off++us).length)=j:=by simp;omega
   rw [this] at hu';simpa using hu'
theorem z5G {t:TypeId} {x y:Operand} {y':Ar} {n off b:Nat} {vs:List V} {a:Act} {C:Ctx} {Λ:L} {arr:Array Value} {e:TypeId} (hr:Rel C Λ st a) (ho:o.op= .store t x y) (hn:ZF P t=some n) (hy:opA y=some y')
  (hv:a.eval x= .pointer (some ⟨b,off,none⟩)) (hvs:(y'.u st).parts=some vs) (hl:vs.length=n) (hok:vs.all V.Zm=true) (h2:Λ.w.heap[b]?=some (.cells arr e (0,0))) (hsz:off+n<=arr.size):
  ∃us:List Value,us.length=vs.length/\(∀(j:Nat) (v:Value) (c:V),us[j]?=some v->vs[j]?=some c->zr Λ v c)/\
   (execOp a.eval o).run P Λ.w= .ok .skip (Λ.w.setRow b (arr.toList.take off++us++arr.toList.drop (off+us.length)).toArray):=by
 have hy1:=(hr.opu hy).parts hvs
 have hone:∀u∈(a.eval y).cells.toList,u.oneCell'=true:=by
  intro u hu;obtain ⟨j,hj⟩:=w0v.1 hu
  have hj':(a.eval y).cells[j]?=some u:=by simpa using hj
  have hlt:j<vs.length:=by rw [←hy1.1];exact (w1s.1 hj').1
  have:=hy1.2 j u vs[j] hj' (by simp [hlt]);exact this.Q1 (by rw [w0i] at hok;exact hok _ (List.getElem_mem hlt))
 have hs:(a.eval y).cells.size=n:=by rw [hy1.1];exact hl
 refine ⟨(a.eval y).cells.toList,by simpa using hy1.1,fun j v c e1 e2=>hy1.2 j v c (by simpa using e1) e2,?_⟩
 have hst:=run_storeCells_at P b off e (a.eval y).cells.toList 0 arr Λ.w h2 (by simp [hs];omega) hone;simp only [w1w] at hst;simp only [execOp,ho,hv];simp [Instr.storeAt,Instr.sureAddr,storeVar,yI hn,hs,hst]
theorem YI {w:World} {b:Nat} {arr A:Array Value} {e:TypeId} (h:w.heap[b]?=some (.cells arr e (0,0))) (hs:A.size=arr.size):∀N,Zl w b=some N->Zl (w.setRow b A) b=some N:=by
 intro N hN;unfold Zl at hN⊢;rw [setRow_heap _ _ _ _ _ _ h];rw [h] at hN;simp at hN⊢;omega
theorem zgS {t:TypeId} {x y:Operand} {x' y':Ar} {n k ver off w:Nat} {cs vs:List V} (ho:o.op= .store t x y) (hn:ZF P t=some n) (hx:opA x=some x') (hy:opA y=some y')
  (hxv:x'.u st= .gpt k ver off) (hk:zj st.s.sto k=some (.gro w cs)) (hw:ver=w) (hvs:(y'.u st).parts=some vs) (hl:vs.length=n) (hle:off+n<=cs.length) (hok:vs.all V.Zm=true):
  zM P o base st {v:= .top,ob:=[(k,.gro w (setAt cs off vs))],rd:=true}:=by
 intro C Λ a next Q hC hr _ _ hnext;have hx1:=hr.opu hx;rw [hxv] at hx1;generalize hv:a.eval x=v at hx1
 cases hx1 with
 |gpt _ hkn _ g3=>
  have hwv:=(hr.s.sto k _ hk).2.1;obtain ⟨b,rfl,g4⟩:=g3 (hw.trans hwv.symm);obtain ⟨arr,e,h2,h3,h4⟩:=hr.s.z0U hk g4;obtain ⟨us,e1,e2,hrun⟩:=z5G hr ho hn hy hv hvs hl hok h2 (by omega);unfold Oper.wp;rw [hrun];obtain ⟨i,hb,hb'⟩:=g4;have hrow:=z6I (Λ:=Λ) (off:=off) e1 (by omega) h3 h4 e2
  have hA:(arr.toList.take off++us++arr.toList.drop (off+us.length)).toArray.size=arr.size:=by simp;omega
  generalize (arr.toList.take off++us++arr.toList.drop (off+us.length)).toArray=A at hrow hA⊢;have F:=Zy.write hr.s (YH.setRow Λ.w b A) hb (YI h2 hA);have hkp:=F.kp hr.s;refine hnext undef _ hkp Z (F.z0E hr.s hkn ⟨hwv,.inr ⟨b,A,e,⟨i,hb,hb'⟩,setRow_heap _ _ _ _ _ _ h2,by rw [YK,hA];exact h3,fun j v c q1 q2=>(hrow j v c q1 q2).mono hkp⟩⟩) .top (fun j hj hn _=>F.free hj ?_);rintro rfl;rw [hk] at hn;cases hn
theorem zhD {t:TypeId} {x y:Operand} {x' y':Ar} {n k i off:Nat} {os:List (List V)} {cs vs:List V} (ho:o.op= .store t x y) (hn:ZF P t=some n) (hx:opA x=some x') (hy:opA y=some y')
  (hxv:x'.u st= .fpt k i off) (hk:zj st.s.sto k=some (.yL os)) (hi:os[i]?=some cs) (hvs:(y'.u st).parts=some vs) (hl:vs.length=n) (hle:off+n<=cs.length) (hok:vs.all V.Zm=true):
  zM P o base st {v:= .top,ob:=[(k,.yL (os.set i (setAt cs off vs)))],rd:=true}:=by
 intro C Λ a next Q hC hr _ _ hnext;have hx1:=hr.opu hx;rw [hxv] at hx1;generalize hv:a.eval x=v at hx1
 cases hx1 with
 |@fpt b _ _ _ hkn hb=>
  obtain ⟨arr,e,h2,h3,h4⟩:=hr.s.z8G hk hi hb;obtain ⟨us,e1,e2,hrun⟩:=z5G hr ho hn hy hv hvs hl hok h2 (by omega);unfold Oper.wp;rw [hrun];have hrow:=z6I (Λ:=Λ) (off:=off) e1 (by omega) (by omega) h4 e2
  have hA:(arr.toList.take off++us++arr.toList.drop (off+us.length)).toArray.size=arr.size:=by simp;omega
  generalize (arr.toList.take off++us++arr.toList.drop (off+us.length)).toArray=A at hrow hA⊢;have F:=Zy.write hr.s (YH.setRow Λ.w b A) hb (YI h2 hA);have hkp:=F.kp hr.s;obtain ⟨g1,g2⟩:=(hr.s.sto k _ hk).2;have hil:i<os.length:=(w02.1 hi).1
  refine hnext undef _ hkp Z (F.z0E hr.s hkn ⟨fun b' i' h'=>by rw [List.length_set];exact g1 b' i' h',fun i' cs' h'=>?_⟩) .top (fun j hj hn _=>F.free hj ?_)
  ·rw [w1q] at h';split at h'
   ·rename_i e';subst e';simp at h';obtain ⟨_,rfl⟩:=h'
    exact ⟨b,A,e,hb,setRow_heap _ _ _ _ _ _ h2,by rw [YK,hA];exact h3,fun j v c q1 q2=>(hrow j v c q1 q2).mono hkp⟩
   ·rename_i e';obtain ⟨b',arr',et,f1,f2,f3,f4⟩:=g2 i' cs' h';refine ⟨b',arr',et,f1,?_,f3,fun j v c q1 q2=>(f4 j v c q1 q2).mono hkp⟩
    have:b'≠b:=by rintro rfl;rw [hb] at f1;simp at f1;exact e' f1
    rw [←f2];exact setRow_other _ _ _ _ this
  ·rintro rfl;rw [hk] at hn;cases hn
theorem zau {Λ:L} {s:S} {w':World} {arr:Array Value} {e:TypeId} {k:Nat} {os:List (List V)} {vs:List V} (h:zT Λ s) (g:yK Λ.w w' (.cells arr e)) (hk:zj s.sto k=some (.yL os)) (hs:arr.size=vs.length)
  (hv:∀(Λ':L),Kp Λ Λ'->∀(j:Nat) (v:Value) (c:V),arr[j]?=some v->vs[j]?=some c->zr Λ' v c):
  ∃Λ',Λ'.w=w'/\Λ'.nxt=Λ.nxt/\Kp Λ Λ'/\zT Λ' {s with sto:=Ym s.sto k (.yL (os++[vs]))}/\zr Λ' (.pointer (some ⟨Λ.w.heap.size,0,none⟩)) (.fpt k os.length 0)/\∀j,ZU Λ j->j≠k->ZU Λ' j:=by
 obtain ⟨hkn,g1,g2⟩:=h.sto k _ hk
 have F:=Zy.grow (i:=os.length) (n:=Λ.frf k 0+1) h g (fun b hb=>by have:=g1 b _ hb;omega) (by omega)
 have hkp:=F.kp h
 refine ⟨{Λ with lab:=zQ Λ.lab Λ.w.heap.size (.fob k os.length),w:=w',frf:=Zx Λ.frf k 0 (Λ.frf k 0+1)},rfl,rfl,hkp,F.z0E (o:= .yL (os++[vs])) h hkn ⟨fun b i hb=>?_,fun i cs hi=>?_⟩,.fpt hkn (by simp [zq]),fun j hj hne=>F.free hj hne⟩
 ·simp only at hb;by_cases e:b=Λ.w.heap.size
  ·subst e;rw [zq] at hb;simp at hb;simp;omega
  ·rw [zx e] at hb;have:=g1 b i hb;simp;omega
 ·by_cases hi':i<os.length
  ·rw [w0a hi'] at hi;obtain ⟨b',arr',et,f1,f2,f3,f4⟩:=g2 i cs hi;have hb':b'<Λ.w.heap.size:=z1F f2
   exact ⟨b',arr',et,by simp only;rw [zx (by omega)];exact f1,by rw [g.old hb'];exact f2,f3,fun j v c q1 q2=>(f4 j v c q1 q2).mono hkp⟩
  ·have hii:i=os.length:=by
    have:=(w02.1 hi).1;simp at this;omega
   subst hii;rw [w0b (w09 _)] at hi;simp at hi;subst hi
   exact ⟨Λ.w.heap.size,arr,e,by simp [zq],g.top,hs,hv _ hkp⟩
theorem zht {t:TypeId} {x:Operand} {x':Ar} {k:Nat} {os:List (List V)} {vs:List V} (ho:o.op= .box t x) (hx:opA x=some x') (hvs:(x'.u st).parts=some vs) (hk:zj st.s.sto k=some (.yL os)):
  zM P o base st {v:= .fpt k os.length 0,ob:=[(k,.yL (os++[vs]))],rd:=true}:=by
 intro C Λ a next Q hC hr hle hfree hnext;have hx1:=(hr.opu hx).parts hvs
 have hrun:(execOp a.eval o).run P Λ.w= .ok (.value (.pointer (some ⟨Λ.w.heap.size,0,none⟩))) (Λ.w.alloc (.cells (a.eval x).cells t)):=by
  simp only [execOp,ho];simp [Instr.box,newVar,newRow]
 unfold Oper.wp;rw [hrun];obtain ⟨Λ',e1,e2,e3,e4,e5,e6⟩:=zau hr.s (yK.alloc Λ.w (.cells (a.eval x).cells t)) hk hx1.1 (fun Λ' hkp j v c q1 q2=>(hx1.2 j v c q1 q2).mono hkp);rw [←e1];refine hnext _ Λ' e3 e2 e4 e5 (fun j hj hn _=>e6 j hj ?_);rintro rfl;rw [hk] at hn;cases hn
theorem zhm {t:TypeId} {zs:List V} {k:Nat} {os:List (List V)} (ho:o.op= .alloc t) (hz:ZP P t=some zs) (hk:zj st.s.sto k=some (.yL os)):
  zM P o base st {v:= .fpt k os.length 0,ob:=[(k,.yL (os++[zs]))],rd:=true}:=by
 intro C Λ a next Q hC hr hle hfree hnext;obtain ⟨i,z,hi,hz1,hlen,hok⟩:=y5 hz
 have hrun:(execOp a.eval o).run P Λ.w= .ok (.value (.pointer (some ⟨Λ.w.heap.size,0,none⟩))) (Λ.w.alloc (.cells z.cells t)):=by
  simp only [execOp,ho];simp [Instr.alloc,zeroValue,typeInfo,hi,hz1,newVar,newRow]
 unfold Oper.wp;rw [hrun];have hrc:=fun Λ':L=>yf (Λ:=Λ') hok;obtain ⟨Λ',e1,e2,e3,e4,e5,e6⟩:=zau hr.s (yK.alloc Λ.w (.cells z.cells t)) hk (hrc Λ).1 (fun Λ' hkp j v c q1 q2=>(hrc Λ').2 j v c q1 q2);rw [←e1];refine hnext _ Λ' e3 e2 e4 e5 (fun j hj hn _=>e6 j hj ?_);rintro rfl;rw [hk] at hn;cases hn
end
section
variable {P:Program} {o:Oper} {base:Nat} {st:St}
theorem z7Z {sz:Nat} (h0:0<sz) {C:Ctx} {Λ:L} {a:Act} (hr:Rel C Λ st a) {y:Operand} {y':Ar} (hy:opA y=some y') {vs:List V} {m:Nat} (h:z30 st sz (y'.u st)=some (vs,m)):
  vs.length=m*sz/\((m=0/\∃ad c,a.eval y= .slice ad 0 c)∨(0<m/\∃(b off cap:Nat) (us:List Value),a.eval y= .slice (some ⟨b,off,none⟩) m cap/\m<=cap/\us.length=m*sz/\
   (∀(j:Nat) (u:Value),us[j]?=some u->Λ.w.cell? ⟨b,off+j,none⟩=some u)/\∀(j:Nat) (u:Value) (c:V),us[j]?=some u->vs[j]?=some c->zr Λ u c)):=by
 have hy1:=hr.opu hy;unfold z30 at h
 have blk:∀{b off len cap:Nat} {arr:Array Value} {e:TypeId} {cs:List V},a.eval y= .slice (some ⟨b,off,none⟩) len cap->len<=cap->Λ.w.heap[b]?=some (.cells arr e (0,0))->off+len*sz<=cs.length->cs.length<=arr.size->
   (∀(j:Nat) (v:Value) (c:V),arr[j]?=some v->cs[j]?=some c->zr Λ v c)->vs=(cs.drop off).take (len*sz)->m=len->
   vs.length=m*sz/\((m=0/\∃ad c,a.eval y= .slice ad 0 c)∨(0<m/\∃(b off cap:Nat) (us:List Value),a.eval y= .slice (some ⟨b,off,none⟩) m cap/\m<=cap/\us.length=m*sz/\
   (∀(j:Nat) (u:Value),us[j]?=some u->Λ.w.cell? ⟨b,off+j,none⟩=some u)/\∀(j:Nat) (u:Value) (c:V),us[j]?=some u->vs[j]?=some c->zr Λ u c)):=by
  intro b off len cap arr e cs he hcap h2 hle hca h4 hvs hm;subst hvs hm
  refine ⟨by simp;omega,?_⟩
  by_cases hm0:m=0
  ·subst hm0;exact .inl ⟨rfl,_,_,he⟩
  ·refine .inr ⟨by omega,b,off,cap,(arr.toList.drop off).take (m*sz),he,hcap,by simp;omega,fun j u hu=>?_,fun j u c hu hc=>?_⟩
   ·rw [w0p] at hu;split at hu
    ·rw [w0z] at hu;rw [cell_of_row Λ.w b _ arr e _ h2];simpa using hu
    ·cases hu
   ·rw [w0p] at hu hc;split at hc
    ·rename_i hj;rw [w0e hj] at hu;rw [w0z] at hu hc;exact h4 _ u c (by simpa using hu) hc
    ·cases hc
 split at h
 ·rename_i ys hc1;split at h
  ·rename_i hl;obtain ⟨h1,h2⟩:=Prod.mk.inj (Option.some.inj h);subst h1 h2;have hlY:=Wn hl;have hfl:=zO ys hlY
   refine ⟨by rw [w0r];exact hfl,?_⟩
   have hrep:=hy1.zw hc1;by_cases hm0:ys.length=0
   ·refine .inl ⟨hm0,?_⟩;have:ys=[]:=w0q.1 hm0;subst this;generalize a.eval y=u at hrep
    cases hrep with
    |lst ad cap _ _ _ _ _ _ _ _ _ _ _=>exact ⟨ad,cap,rfl⟩
   ·obtain ⟨b,off,cap,us,e1,e2,e3,e4,e5⟩:=hrep.cells hlY (by omega) h0
    refine .inr ⟨by omega,b,off,cap,us,e1,e2,e3,fun j u hu=>(e4 j u hu).1,fun j u c hu hc=>?_⟩
    rw [w0c,w06] at hc;obtain ⟨x,hx,rfl⟩:=hc;exact .t (e5 j u x hu hx)
  ·cases h
 ·split at h
  ·rename_i k off len s hyv;split at h
   ·rename_i cs hk;split at h
    ·rename_i hc;simp at h;obtain ⟨h1,h2⟩:=h;rw [hyv] at hy1;generalize he:a.eval y=u at hy1
     cases hy1 with
     |slc hkn hcap hb=>
      obtain ⟨arr,e,g2,g3,g4⟩:=hr.s.Qw hk hb;exact he▸blk he hcap g2 hc.2 (by omega) g4 h1.symm h2.symm
    ·cases h
   ·cases h
  ·rename_i k ver off len s hyv;split at h
   ·rename_i w cs hk;split at h
    ·rename_i hc;simp at h;obtain ⟨h1,h2⟩:=h;rw [hyv] at hy1;generalize he:a.eval y=u at hy1
     cases hy1 with
     |gsl _ hkn _ hb=>
      rcases hb (hc.2.1.trans (hr.s.sto k _ hk).2.1.symm) with ⟨⟨ad,rfl⟩,hl0⟩|⟨b,cap,N,rfl,hcap,hcur,hN,hN'⟩
      ·subst hl0
       refine ⟨by rw [←h1,←h2];simp,.inl ⟨h2.symm,ad,0,rfl⟩⟩
      ·obtain ⟨arr,e,g2,g3,g4⟩:=hr.s.z0U hk hcur;exact he▸blk he hcap g2 hc.2.2 g3 g4 h1.symm h2.symm
    ·cases h
   ·cases h
  ·cases h
theorem z7M {Λ:L} {s:S} {w':World} {arr:Array Value} {e:TypeId} {k i ver sz n cap:Nat} {cs:List V} (h:zT Λ s) (g:yK Λ.w w' (.cells arr e)) (hk:k<Λ.nxt) (hv:Λ.frf k 0<ver) (hi:∀b j,Λ.lab b= .fob k j->j<i)
  (hle:cs.length<=arr.size) (hn:n<=cap) (hcap:arr.size=cap*sz) (hrel:∀(Λ':L),Kp Λ Λ'->∀(j:Nat) (v:Value) (c:V),arr[j]?=some v->cs[j]?=some c->zr Λ' v c):
  ∃Λ',Λ'.w=w'/\Λ'.nxt=Λ.nxt/\Kp Λ Λ'/\zT Λ' {s with sto:=Ym s.sto k (.gro ver cs)}/\zr Λ' (.slice (some ⟨Λ.w.heap.size,0,none⟩) n cap) (.gsl k ver 0 n sz)/\∀j,ZU Λ j->j≠k->ZU Λ' j:=by
 have F:=Zy.grow (i:=i) (n:=ver) h g (fun b hb=>by have:=hi b _ hb;omega) hv
 have hkp:=F.kp h
 have hcur:qu (zQ Λ.lab Λ.w.heap.size (.fob k i)) k Λ.w.heap.size:=by
  refine ⟨i,by simp [zq],fun b' j hb=>?_⟩
  by_cases e:b'=Λ.w.heap.size
  ·subst e;rw [zq] at hb;simp at hb;omega
  ·rw [zx e] at hb;have:=hi b' j hb;omega
 refine ⟨{Λ with lab:=zQ Λ.lab Λ.w.heap.size (.fob k i),w:=w',frf:=Zx Λ.frf k 0 ver},rfl,rfl,hkp,F.z0E (o:= .gro ver cs) h hk ⟨by simp [Zx],.inr ⟨Λ.w.heap.size,arr,e,hcur,g.top,hle,hrel _ hkp⟩⟩,.gsl ⟨_,_,_,rfl⟩ hk ⟨fun h0=>absurd h0 (by omega),by simp [Zx]⟩ (fun _=> .inr ⟨Λ.w.heap.size,cap,arr.size,rfl,hn,hcur,by simp [Zl,g.top],by simp [hcap]⟩),fun j hj hne=>F.free hj hne⟩
theorem zbu {Λ:L} {s:S} {w':World} {arr A:Array Value} {e:TypeId} {k b ver sz n cap:Nat} {cs cs0:List V} {w0:Nat} (h:zT Λ s) (hks:zj s.sto k=some (.gro w0 cs0)) (hv:w0<ver) (hcur:qu Λ.lab k b) (hb:Λ.w.heap[b]?=some (.cells arr e (0,0)))
  (hw:w'=Λ.w.setRow b A) (hA:A.size=arr.size) (hle:cs.length<=A.size) (hn:n<=cap) (hcap:A.size=cap*sz) (hrel:∀(j:Nat) (v:Value) (c:V),A[j]?=some v->cs[j]?=some c->zr Λ v c):
  ∃Λ',Λ'.w=w'/\Λ'.nxt=Λ.nxt/\Kp Λ Λ'/\zT Λ' {s with sto:=Ym s.sto k (.gro ver cs)}/\zr Λ' (.slice (some ⟨b,0,none⟩) n cap) (.gsl k ver 0 n sz)/\∀j,ZU Λ j->j≠k->ZU Λ' j:=by
 subst hw;obtain ⟨hk,hv0,_⟩:=h.sto k _ hks;obtain ⟨i,hi,hi'⟩:=hcur;have F1:=Zy.write h (YH.setRow Λ.w b A) hi (YI hb hA);have k1:=F1.kp h;have hh:=setRow_heap Λ.w b arr A e (0,0) hb;have r1:=F1.z0E (o:= .gro w0 cs) h hk ⟨hv0,.inr ⟨b,A,e,⟨i,hi,hi'⟩,hh,hle,fun j v c q1 q2=>(hrel j v c q1 q2).mono k1⟩⟩;have F2:=Zy.zfM (k:=k) (i:=0) (n:=ver) r1 (by show Λ.frf k 0<ver;omega);have k2:=F2.kp r1
 have r2:=F2.z0E (o:= .gro ver cs) r1 hk ⟨by simp [Zx],.inr ⟨b,A,e,⟨i,hi,hi'⟩,hh,hle,fun j v c q1 q2=>((hrel j v c q1 q2).mono k1).mono k2⟩⟩
 refine ⟨{Λ with w:=Λ.w.setRow b A,frf:=Zx Λ.frf k 0 ver},rfl,rfl,Kp.trans k1 k2,?_,.gsl ⟨_,_,_,rfl⟩ hk ⟨fun h0=>absurd h0 (by omega),by simp [Zx]⟩ (fun _=> .inr ⟨b,cap,A.size,rfl,hn,⟨i,hi,hi'⟩,?_,by simp [hcap]⟩),fun j hj hne=>F2.free (F1.free hj hne) hne⟩
 ·have e2:Ym (Ym s.sto k (.gro w0 cs)) k (.gro ver cs)=Ym s.sto k (.gro ver cs):=by
   generalize s.sto=l
   induction l with
   |nil=>simp [Ym]
   |cons x r ih=>
    obtain ⟨j,x⟩:=x;by_cases hj:j=k
    ·subst hj;simp [Ym]
    ·simp [Ym,hj,ih]
  rw [←e2];exact r2
 ·show Zl (Λ.w.setRow b A) b=some A.size;simp [Zl,hh]
end
section
variable {P:Program} {o:Oper} {base:Nat} {st:St}
def Src (Λ:L) (sz:Nat) (u:Value) (vs:List V) (m:Nat):Prop:=
 vs.length=m*sz/\((m=0/\∃ad c,u= .slice ad 0 c)∨(0<m/\∃(b off cap:Nat) (us:List Value),u= .slice (some ⟨b,off,none⟩) m cap/\m<=cap/\us.length=m*sz/\
   (∀(j:Nat) (v:Value),us[j]?=some v->Λ.w.cell? ⟨b,off+j,none⟩=some v)/\∀(j:Nat) (v:Value) (c:V),us[j]?=some v->vs[j]?=some c->zr Λ v c))
theorem z75 {sz bytes:Nat} {x' y':Ar} (A:z2E P o sz bytes x' y') {C:Ctx} {Λ:L} {a:Act} (hr:Rel C Λ st a) {k ver m:Nat} {vs:List V} (hk:k<Λ.nxt) (hv:Λ.frf k 0<ver) (hno:(∀b i,Λ.lab b≠ .fob k i)∨∃(b:Nat) (arr:Array Value) (e:TypeId),qu Λ.lab k b/\Λ.w.heap[b]?=some (.cells arr e (0,0))) {ad:Option Addr} (hnil:a.eval A.x= .slice ad 0 0)
  (hs:Src Λ sz (a.eval A.y) vs m) (hroom:m*bytes<=140737488355328) (h63:m<=9223372036854775807):
  ∃v Λ',(execOp a.eval o).run P Λ.w= .ok (.value v) Λ'.w/\Kp Λ Λ'/\Λ'.nxt=Λ.nxt/\zT Λ' {st.s with sto:=Ym st.s.sto k (.gro ver vs)}/\zr Λ' v (.gsl k ver 0 m sz)/\∀j,ZU Λ j->j≠k->ZU Λ' j:=by
 obtain ⟨hl,⟨hm,a',c,hy⟩|⟨hm,b,off,cap,us,hy,hcap,hul,huc,hur⟩⟩:=hs
 ·subst hm;have hvs:vs=[]:=w0q.1 (by omega);subst hvs
  have hrun:(execOp a.eval o).run P Λ.w= .ok (.value (.slice ad 0 0)) Λ.w:=by
   refine zR A.ho Z A.ha A.hat ?_;rw [hnil,hy];exact yJ A.ht A.hi ad 0 0 (w09 _) a' c Λ.w
  have F:=Zy.zfM (k:=k) (i:=0) (n:=ver) hr.s hv;have hkp:=F.kp hr.s
  refine ⟨_,{Λ with frf:=Zx Λ.frf k 0 ver},hrun,hkp,rfl,F.z0E (o:= .gro ver []) hr.s hk ⟨by simp [Zx],?_⟩,.gsl ⟨_,_,_,rfl⟩ hk ⟨fun h0=>absurd h0 (by omega),by simp [Zx]⟩ (fun _=> .inl ⟨⟨_,rfl⟩,rfl⟩),fun j hj hne=>F.free hj hne⟩
  rcases hno with hno|⟨b,arr,e,g1,g2⟩
  ·exact .inl ⟨rfl,hno⟩
  ·exact .inr ⟨b,arr,e,g1,g2,by simp,by simp⟩
 ·have hrun':(Builtin.append_ #[A.t,A.t] o.type #[.slice ad 0 0,.slice (some ⟨b,off,none⟩) m cap]).run P Λ.w=
    .ok (.slice (some ⟨Λ.w.heap.size,0,none⟩) m (grownCap Λ.w m 0 A.e)) (Λ.w.drew.alloc (.cells (us.toArray++Builtin.zeroCells A.z.cells (grownCap Λ.w m 0 A.e - m)) A.e)):=by
   cases ad with
   |none=>exact run_append_nil (P:=P) Λ.w A.t o.type A.e A.inf A.z A.ht A.hi A.hz ⟨b,off,none⟩ m cap us (by rw [A.hs];exact hul) (fun j u hu=>by rw [y3];exact huc j u hu) (by omega) (by omega) (by rw [A.hb];omega)
   |some ad=>
    have:=run_append_grow (P:=P) Λ.w A.t o.type A.e A.inf A.z A.ht A.hi A.hz ad 0 0 [] (by simp) (by simp) ⟨b,off,none⟩ m cap us (by rw [A.hs];exact hul) (fun j u hu=>by rw [y3];exact huc j u hu) (by omega) (by omega) (by rw [w0y,nextslicecap_zero (by omega),A.hb];omega)
    simpa only [w0y,List.append_toArray,w0u] using this
  have hrun:=zR (x:=A.x) (y:=A.y) (a:=a) A.ho rfl A.ha A.hat (by rw [hnil,hy];exact hrun');have hge:=grownCap_ge Λ.w m 0 A.e
  obtain ⟨i0,hi0⟩:∃i0,∀b j,Λ.lab b= .fob k j->j<i0:=by
   rcases hno with hno|⟨b,_,_,⟨i,g1,g2⟩,_⟩
   ·exact ⟨0,fun b j hb=>absurd hb (hno b j)⟩
   ·exact ⟨i+1,fun b' j hb=>by have:=g2 b' j hb;omega⟩
  obtain ⟨Λ',e1,e2,e3,e4,e5,e6⟩:=z7M (i:=i0) (ver:=ver) (sz:=sz) (n:=m) (cap:=grownCap Λ.w m 0 A.e) (cs:=vs) hr.s (yK.wB Λ.w (.cells (us.toArray++Builtin.zeroCells A.z.cells (grownCap Λ.w m 0 A.e - m)) A.e)) hk hv hi0
   (by simp [hul,hl]) hge (by simp only [w23,w1h,size_zeroCells,A.hzs,hul];rw [←w13];congr 1;omega) (fun Λ' hkp j v c q1 q2=>by
    have hj:=(w02.1 q2).1;rw [w1c (by simp;omega)] at q1
    exact (hur j v c (by simpa using q1) q2).mono hkp)
  exact ⟨_,Λ',by rw [hrun,e1],e3,e2,e4,e5,e6⟩
theorem zgn {sz bytes:Nat} {x' y':Ar} {vs:List V} {m:Nat} (A:z2E P o sz bytes x' y') (hxv:x'.u st= .zC) (hyv:z30 st sz (y'.u st)=some (vs,m)) (hroom:m*bytes<=140737488355328) (h63:m<=9223372036854775807):
  zM P o base st {v:= .gsl base 1 0 m sz,ob:=[(base,.gro 1 vs)],n:=1,rd:=true}:=by
 intro C Λ a next Q hC hr hle hfree hnext;have hx1:=hr.opu A.hx;rw [hxv] at hx1
 obtain ⟨ad,hnil⟩:∃ad,a.eval A.x= .slice ad 0 0:=by generalize a.eval A.x=u at hx1;cases hx1;exact ⟨_,rfl⟩
 obtain ⟨hb1,hb2,hb3⟩:=hfree base (w09 _) (by simp);obtain ⟨v,Λ',h1,h2,h3,h4,h5,h6⟩:=z75 (ver:=1) A hr hb1 (by rw [hb2.frf 0];omega) (.inl hb2.fob) hnil (z7Z A.h0 hr A.hy hyv) hroom h63;unfold Oper.wp;rw [h1];exact hnext v Λ' h2 h3 h4 h5 (fun k hk _ hlt=>h6 k hk (by simp at hlt;omega))
theorem zgq {sz bytes:Nat} {x' y':Ar} {k ver len w:Nat} {cs vs:List V} {m:Nat} (A:z2E P o sz bytes x' y') (hxv:x'.u st= .gsl k ver 0 len sz) (hk:zj st.s.sto k=some (.gro w cs)) (hw:ver=w) (hcl:cs.length=len*sz)
  (hyv:z30 st sz (y'.u st)=some (vs,m)) (hok:vs.all V.Zm=true) (hroom:(len+m)*bytes<=140737488355328) (h63:len+m<=9223372036854775807):
  zM P o base st {v:= .gsl k (w+1) 0 (len+m) sz,ob:=[(k,.gro (w+1) (cs++vs))],rd:=true}:=by
 intro C Λ a next Q hC hr hle hfree hnext;have hx1:=hr.opu A.hx;rw [hxv] at hx1;obtain ⟨hkn,hwv,hcur0⟩:=hr.s.sto k _ hk;have hsrc:=z7Z A.h0 hr A.hy hyv
 have hkj:∀j,zj st.s.sto j=none->j≠k:=by rintro j hn rfl;rw [hk] at hn;cases hn
 unfold Oper.wp;generalize hxe:a.eval A.x=vx at hx1
 cases hx1 with
 |gsl _ _ _ hb=>
 rcases hb (hw.trans hwv.symm) with ⟨⟨ad,rfl⟩,hl0⟩|⟨b,cap,N,rfl,hcap,hcur,hN,hN'⟩
 ·subst hl0;have hcs:cs=[]:=w0q.1 (by omega);subst hcs
  have hno:(∀b i,Λ.lab b≠ .fob k i)∨∃(b:Nat) (arr:Array Value) (e:TypeId),qu Λ.lab k b/\Λ.w.heap[b]?=some (.cells arr e (0,0)):=by
   rcases hcur0 with ⟨_,g⟩|⟨b,arr,e,g1,g2,_⟩
   ·exact .inl g
   ·exact .inr ⟨b,arr,e,g1,g2⟩
  obtain ⟨v,Λ',h1,h2,h3,h4,h5,h6⟩:=z75 (ver:=w+1) A hr hkn (by omega) hno hxe hsrc (by simpa using hroom) (by simpa using h63);rw [h1];exact hnext v Λ' h2 h3 (by simpa [S.app,Zf] using h4) (by simpa using h5) (fun j hj hn _=>h6 j hj (hkj j hn))
 ·obtain ⟨arr,e',hhb,hac,hold⟩:=hr.s.z0U hk hcur
  have hNa:N=arr.size:=by simpa [Zl,hhb] using hN.symm
  have hac2:arr.size=cap*sz:=by omega
  obtain ⟨hl,⟨hm,a',c,hy⟩|⟨hm,yb,yoff,ycap,us,hy,hyc,hul,huc,hur⟩⟩:=hsrc
  ·subst hm;have hvs:vs=[]:=w0q.1 (by omega);subst hvs
   have hrun:(execOp a.eval o).run P Λ.w= .ok (.value (.slice (some ⟨b,0,none⟩) len cap)) Λ.w:=by
    refine zR A.ho Z A.ha A.hat ?_;rw [hxe,hy];exact yJ A.ht A.hi _ _ _ hcap a' c Λ.w
   rw [hrun];have F:=Zy.zfM (k:=k) (i:=0) (n:=w+1) hr.s (by omega);have hkp:=F.kp hr.s
   refine hnext _ {Λ with frf:=Zx Λ.frf k 0 (w+1)} hkp Z (F.z0E (o:= .gro (w+1) (cs++[])) hr.s hkn ⟨by simp [Zx],.inr ⟨b,arr,e',hcur,hhb,by simpa using hac,fun j v c q1 q2=>(hold j v c q1 (by simpa using q2)).mono hkp⟩⟩) (.gsl ⟨_,_,_,rfl⟩ hkn ⟨fun h0=>absurd h0 (by omega),by simp [Zx]⟩ (fun _=> .inr ⟨b,cap,N,rfl,hcap,hcur,hN,hN'⟩)) (fun j hj hn _=>F.free hj (hkj j hn))
  ·have hone:∀u∈us,u.oneCell'=true:=by
    intro u hu;obtain ⟨j,hj⟩:=w0v.1 hu;have hjl:=(w02.1 hj).1
    have hjv:j<vs.length:=by omega
    exact (hur j u vs[j] hj (by simp [hjv])).Q1 (by rw [w0i] at hok;exact hok _ (List.getElem_mem hjv))
   by_cases hrm:len+m<=cap
   ·have hfit:len*A.inf.size+us.length<=arr.size:=by
     rw [A.hs,hul,hac2,←w13];exact w0s _ hrm
    have hrun':=wu (P:=P) (ty:=o.type) Λ.w A.ht A.hi b len cap arr hhb ⟨yb,yoff,none⟩ m ycap us (by rw [A.hs];exact hul) (fun j u hu=>by rw [y3];exact huc j u hu) hone hrm hfit
    have hrun:=zR (x:=A.x) (y:=A.y) (a:=a) A.ho rfl A.ha A.hat (by rw [hxe,hy];exact hrun');rw [hrun];rw [A.hs] at hfit⊢
    have hsz2:(arr.toList.take (len*sz)++us++arr.toList.drop (len*sz+us.length)).toArray.size=arr.size:=by simp;omega
    have hget:∀(j:Nat) (v:Value) (c:V),(arr.toList.take (len*sz)++us++arr.toList.drop (len*sz+us.length)).toArray[j]?=some v->(cs++vs)[j]?=some c->zr Λ v c:=by
     intro j v c q1 q2
     have hlt:(arr.toList.take (len*sz)).length=len*sz:=by simp;omega
     have q1':(arr.toList.take (len*sz)++us++arr.toList.drop (len*sz+us.length))[j]?=some v:=by simpa using q1
     by_cases hj:j<cs.length
     ·rw [w0a hj] at q2;rw [w1g,w0a (by omega),w0p,w0e (by omega)] at q1';exact hold j v c (by simpa using q1') q2
     ·rw [w0b (by omega)] at q2;have hjv:=(w02.1 q2).1;rw [w1g,w0b (by omega),w0a (by omega),hlt,←hcl] at q1';exact hur _ v c q1' q2
    generalize (arr.toList.take (len*sz)++us++arr.toList.drop (len*sz+us.length)).toArray=A2 at*;obtain ⟨Λ',e1,e2,e3,e4,e5,e6⟩:=zbu (ver:=w+1) (sz:=sz) (n:=len+m) (cap:=cap) (cs:=cs++vs) hr.s hk (by omega) hcur hhb rfl hsz2 (by rw [hsz2,hac2,w03,hl,hcl,←w13];exact w0s _ hrm) hrm (by omega) hget;rw [←e1];exact hnext _ Λ' e3 e2 (by simpa [S.app,Zf] using e4) e5 (fun j hj hn _=>e6 j hj (hkj j hn))
   ·have hrun':=run_append_grow (P:=P) Λ.w A.t o.type A.e A.inf A.z A.ht A.hi A.hz ⟨b,0,none⟩ len cap (arr.toList.take (len*sz)) (by have:=w0s sz hcap;rw [A.hs];simp;omega)
     (fun j u hu=>by
      rw [y3,cell_of_row Λ.w b _ arr e' _ hhb,w0y];rw [w0p] at hu;split at hu
      ·simpa using hu
      ·cases hu) ⟨yb,yoff,none⟩ m ycap us (by rw [A.hs];exact hul) (fun j u hu=>by rw [y3];exact huc j u hu) (by omega) (by omega)
     (by rw [A.hb];exact growslice_fits (by omega) hroom)
    have hrun:=zR (x:=A.x) (y:=A.y) (a:=a) A.ho rfl A.ha A.hat (by rw [hxe,hy];exact hrun');rw [hrun];have hge:=grownCap_ge Λ.w (len+m) cap A.e;obtain ⟨i,hi1,hi2⟩:=hcur
    have htl:(arr.toList.take (len*sz)).length=len*sz:=by have:=w0s sz hcap;simp;omega
    obtain ⟨Λ',e1,e2,e3,e4,e5,e6⟩:=z7M (i:=i+1) (ver:=w+1) (sz:=sz) (n:=len+m) (cap:=grownCap Λ.w (len+m) cap A.e) (cs:=cs++vs) hr.s (yK.wB Λ.w (.cells ((arr.toList.take (len*sz)).toArray++us.toArray++Builtin.zeroCells A.z.cells (grownCap Λ.w (len+m) cap A.e - (len+m))) A.e)) hkn (by omega) (fun b' j hb=>by have:=hi2 b' j hb;omega)
     (by simp only [w23,w1h,htl,hul,w03,hcl,hl];omega) hge (by simp only [w23,w1h,size_zeroCells,A.hzs,hul,htl];rw [←w13,←w13];congr 1;omega) (fun Λ' hkp j v c q1 q2=>by
      have hj:=(w02.1 q2).1;rw [w03] at hj;rw [w1c (by simp only [w23,w1h,htl,hul];omega)] at q1;by_cases hjc:j<cs.length
      ·rw [w0a hjc] at q2;rw [w1c (by simp only [w1h,htl];omega)] at q1;rw [w28,w0p,w0e (by omega)] at q1;exact (hold j v c (by simpa using q1) q2).mono hkp
      ·rw [w0b (by omega)] at q2;rw [Array.getElem?_append_right (by simp only [w1h,htl];omega)] at q1;simp only [w1h,htl,w28] at q1;rw [←hcl] at q1
       exact (hur _ v c q1 q2).mono hkp)
    rw [←e1];exact hnext _ Λ' e3 e2 (by simpa [S.app,Zf] using e4) e5 (fun j hj hn _=>e6 j hj (hkj j hn))
end
theorem Zy.zcX {Λ:L} {w':World} {o:Obj} {k i n fr:Nat} {s:S} (h:zT Λ s) (g:yK Λ.w w' o) (hn:Λ.frf k i<n):
  Zy Λ {Λ with lab:=zQ Λ.lab Λ.w.heap.size (.far k i fr),w:=w',frf:=Zx Λ.frf k i n} k:=by
 have hne:∀{b:Nat},b<Λ.w.heap.size->zQ Λ.lab Λ.w.heap.size (.far k i fr) b=Λ.lab b:=fun h=>zx (by omega)
 have hnf:∀b j,zQ Λ.lab Λ.w.heap.size (.far k i fr) b= .fob k j->Λ.lab b= .fob k j:=by
  intro b j hb;by_cases e:b=Λ.w.heap.size
  ·subst e;rw [zq] at hb;cases hb
  ·rw [zx e] at hb;exact hb
 have hlt:∀{b:Nat} {x:Lab},Λ.lab b=x->x≠ .fix none->b<Λ.w.heap.size:=by
  intro b x hl hx
  rcases w1a b Λ.w.heap.size with h'|h'
  ·exact h'
  ·rw [h.new b h'] at hl;exact absurd hl.symm hx
 refine ⟨g.os,g.tape,g.output,by rw [g.size];omega,rfl,rfl,fun b=>?_,fun b hb _=>g.old hb,fun b j hl=>⟨by simp only [hne (hlt hl (by simp))];exact hl,fun N hN=>by unfold Zl at hN⊢;rw [g.old (hlt hl (by simp))];exact hN⟩,fun b j m hb hl _=>⟨by simp only [hne hb];exact hl,g.old hb⟩,fun b j m hb hl o ho=>⟨by simp [Rd,hne hb,hl,ho],cell?_heap (g.old hb)⟩,
  fun j i' hj=>Yn (by omega),fun i'=>?_,fun b j _ hb=>hnf b j hb,fun b b' j h1 h2=>h.YX b b' k j (hnf b j h1) (hnf b' j h2),fun b hb=>?_⟩
 ·by_cases e:b=Λ.w.heap.size
  ·subst e;refine .inr ⟨by simp [zq,Lab.ofK],.inr (w09 _)⟩
  ·exact .inl (zx e)
 ·by_cases e:i'=i
  ·subst e;show Λ.frf k i'<=Zx Λ.frf k i' n k i';rw [yV];omega
  ·show Λ.frf k i'<=Zx Λ.frf k i n k i';rw [Yn (by simp [e])];exact w09 _
 ·simp only at hb⊢;rw [g.size] at hb;rw [zx (by omega)];exact h.new b (by omega)
theorem Zy.zfL {Λ:L} {w':World} {b k i n fr fr':Nat} {s:S} (h:zT Λ s) (g:YH Λ.w w' b) (hb:Λ.lab b= .far k i fr) (hfr:fr<=fr') (hc:∀o,o<fr->w'.cell? ⟨b,o,none⟩=Λ.w.cell? ⟨b,o,none⟩) (hn:Λ.frf k i<n):
  Zy Λ {Λ with lab:=zQ Λ.lab b (.far k i fr'),w:=w',frf:=Zx Λ.frf k i n} k:=by
 have hnf:∀c j,zQ Λ.lab b (.far k i fr') c= .fob k j->Λ.lab c= .fob k j/\c≠b:=by
  intro c j hc;by_cases e:c=b
  ·subst e;rw [zq] at hc;cases hc
  ·rw [zx e] at hc;exact ⟨hc,e⟩
 have hcb:∀c j,Λ.lab c= .fob k j->c≠b:=by rintro c j hl rfl;rw [hb] at hl;cases hl
 refine ⟨g.os,g.tape,g.output,by rw [g.size];exact w09 _,rfl,rfl,fun c=>?_,fun c _ hc=>g.old c (fun e=>hc (by rw [e,hb];rfl)),fun c j hl=>⟨by simp only [zx (hcb c j hl)];exact hl,fun N hN=>by unfold Zl at hN⊢;rw [g.old c (hcb c j hl)];exact hN⟩,fun c j m hcl hl he=>?_,fun c j m hcl hl o ho=>?_,
  fun j i' hj=>Yn (by omega),fun i'=>?_,fun c j _ hb=>(hnf c j hb).1,fun c c' j h1 h2=>h.YX c c' k j (hnf c j h1).1 (hnf c' j h2).1,fun c hcl=>?_⟩
 ·by_cases e:c=b
  ·subst e;exact .inr ⟨by simp [zq,Lab.ofK],.inl (by rw [hb];rfl)⟩
  ·exact .inl (zx e)
 ·have hji:j≠i:=by
   rintro rfl;have:Zx Λ.frf k j n k j=Λ.frf k j:=he;rw [yV] at this;omega
  have hcb:c≠b:=by rintro rfl;rw [hb] at hl;simp at hl;exact hji hl.1.symm
  exact ⟨by simp only [zx hcb];exact hl,g.old c hcb⟩
 ·by_cases e:c=b
  ·subst e;rw [hb] at hl;simp at hl;obtain ⟨_,rfl⟩:=hl
   exact ⟨by simp [Rd,zq];omega,hc o ho⟩
  ·exact ⟨by simp [Rd,zx e,hl,ho],cell?_heap (g.old c e)⟩
 ·by_cases e:i'=i
  ·subst e;show Λ.frf k i'<=Zx Λ.frf k i' n k i';rw [yV];omega
  ·show Λ.frf k i'<=Zx Λ.frf k i n k i';rw [Yn (by simp [e])];exact w09 _
 ·simp only at hcl⊢;rw [g.size] at hcl
  have:c≠b:=by intro e;rw [e] at hcl;rw [h.new _ hcl] at hb;simp at hb
  rw [zx this];exact h.new c hcl
theorem Zy.same {Λ:L} {k:Nat} {s:S} (h:zT Λ s):Zy Λ Λ k:=
 ⟨rfl,rfl,rfl,w09 _,rfl,rfl,fun _=> .inl rfl,fun _ _ _=>rfl,fun _ _ hl=>⟨hl,fun _ h=>h⟩,fun _ _ _ _ hl _=>⟨hl,rfl⟩,fun c j m _ hl o ho=>⟨by simp [Rd,hl,ho],rfl⟩,fun _ _ _=>rfl,fun _=>w09 _,fun _ _ _ h=>h,fun b b' j h1 h2=>h.YX b b' k j h1 h2,h.new⟩
section
variable {P:Program} {o:Oper} {base:Nat} {st:St}
theorem z3h {f:Nat->Nat->Nat} {k i n:Nat} {ns:List Nat} (h:∀j,f k j=(ns[j]?).getD 0) (hi:i<ns.length):∀j,Zx f k i n k j=((ns.set i n)[j]?).getD 0:=by
 intro j;rw [w1q];by_cases e:i=j
 ·subst e;rw [yV,w0e rfl,w0e hi];rfl
 ·rw [Yn (by omega),w0g e];exact h j
theorem zhC {sz bytes k i:Nat} {x' y':Ar} {xs ys:List (List T)} {ns:List Nat} (A:z2E P o sz bytes x' y') (hxv:x'.u st= .fow k i sz xs) (hk:zj st.s.sto k=some (.y8 ns)) (hi:ns[i]?=some xs.length) (hyv:(y'.u st).zw=some (.lst ys)) (hl:ZQ sz ys=true)
  (hroom:(xs.length+ys.length)*bytes<=140737488355328) (h63:xs.length+ys.length<=9223372036854775807):
  zM P o base st {v:= .fow k i sz (xs++ys),ob:=[(k,.y8 (ns.set i (xs.length+ys.length)))],rd:=true}:=by
 intro C Λ a next Q hC hr hle hfree hnext;have hx1:=hr.opu A.hx;rw [hxv] at hx1;obtain ⟨hkn,hns⟩:=hr.s.sto k _ hk;have hns:∀j,Λ.frf k j=(ns[j]?).getD 0:=hns
 have hfk:Λ.frf k i=xs.length:=by rw [hns i,hi];rfl
 have hil:i<ns.length:=(w02.1 hi).1;have hy1:=(hr.opu A.hy).zw hyv;have hlY:=Wn hl
 have hkj:∀j,zj st.s.sto j=none->j≠k:=by rintro j hn rfl;rw [hk] at hn;cases hn
 unfold Oper.wp;generalize hxe:a.eval A.x=vx at hx1
 cases hx1 with
 |fow hrep hsz _ _ how=>
 by_cases hy0:ys.length=0
 ·have hys:ys=[]:=w0q.1 hy0;subst hys
  have hvx:∃ad n cap,vx= .slice ad n cap/\n<=cap:=by
   rcases how hfk.symm with ⟨⟨ad,rfl⟩,_⟩|⟨b,cap,arr,e',rfl,_,_,_,hnc⟩
   ·exact ⟨_,_,_,rfl,w09 _⟩
   ·exact ⟨_,_,_,rfl,hnc⟩
  have hrun:(execOp a.eval o).run P Λ.w= .ok (.value vx) Λ.w:=by
   refine zR A.ho Z A.ha A.hat ?_;obtain ⟨ad,n,cap,rfl,hnc⟩:=hvx;rw [hxe];generalize a.eval A.y=u at hy1
   cases hy1 with
   |lst a' cap' _ _ _ _ _ _ _ _ _ _ _=>exact yJ A.ht A.hi _ _ _ hnc a' cap' Λ.w
  rw [hrun]
  have e0:ns.set i (xs.length+([]:List (List T)).length)=ns:=by
   apply w22;intro j;rw [w1q];by_cases e:i=j
   ·subst e;rw [w0e rfl,w0e hil,hi];simp
   ·rw [w0g e]
  rw [e0] at hnext;have F:=Zy.same (k:=k) hr.s;refine hnext _ Λ (Kp.refl Λ) Z (F.z0E (o:= .y8 ns) hr.s hkn hns) (by simpa using zr.fow hrep hsz hkn (by omega) how) (fun j hj _ _=>hj)
 ·obtain ⟨yb,yoff,ycap,vs,hv,hcap,hvl,hvc,hvr⟩:=hy1.cells hlY (by omega) A.h0
  have hone:∀u∈vs,u.oneCell'=true:=by
   intro u hu;obtain ⟨j,hj⟩:=w0v.1 hu;have hjl:=(w02.1 hj).1
   have hfl:j<ys.flatten.length:=by rw [zO ys hlY];omega
   exact (hvr j u ys.flatten[j] hj (by simp)).Q1
  rcases how hfk.symm with ⟨⟨ad,rfl⟩,hx0⟩|⟨b,cap,arr,e',rfl,hlb,hhb,hac,hnc⟩
  ·have hxs:xs=[]:=w0q.1 hx0;subst hxs
   have hrun':(Builtin.append_ #[A.t,A.t] o.type #[.slice ad 0 0,.slice (some ⟨yb,yoff,none⟩) ys.length ycap]).run P Λ.w=
     .ok (.slice (some ⟨Λ.w.heap.size,0,none⟩) ys.length (grownCap Λ.w ys.length 0 A.e)) (Λ.w.drew.alloc (.cells (vs.toArray++Builtin.zeroCells A.z.cells (grownCap Λ.w ys.length 0 A.e - ys.length)) A.e)):=by
    simp only [w16,w0y] at hroom h63
    cases ad with
    |none=>exact run_append_nil (P:=P) Λ.w A.t o.type A.e A.inf A.z A.ht A.hi A.hz ⟨yb,yoff,none⟩ ys.length ycap vs (by rw [A.hs];exact hvl) (fun j u hu=>by rw [y3];exact (hvc j u hu).1) (by omega) (by omega) (by rw [A.hb];omega)
    |some ad=>
     have:=run_append_grow (P:=P) Λ.w A.t o.type A.e A.inf A.z A.ht A.hi A.hz ad 0 0 [] (by simp) (by simp) ⟨yb,yoff,none⟩ ys.length ycap vs (by rw [A.hs];exact hvl) (fun j u hu=>by rw [y3];exact (hvc j u hu).1) (by omega) (by omega) (by rw [w0y,nextslicecap_zero (by omega),A.hb];omega)
     simpa only [w0y,List.append_toArray,w0u] using this
   have hrun:=zR (x:=A.x) (y:=A.y) (a:=a) A.ho rfl A.ha A.hat (by rw [hxe,hv];exact hrun');rw [hrun];have hge:=grownCap_ge Λ.w ys.length 0 A.e;have F:=Zy.zcX (i:=i) (n:=([]:List (List T)).length+ys.length) (fr:=ys.length*sz) hr.s (yK.wB Λ.w (.cells (vs.toArray++Builtin.zeroCells A.z.cells (grownCap Λ.w ys.length 0 A.e - ys.length)) A.e)) (by rw [hfk];simp;omega);have g:=yK.wB Λ.w (.cells (vs.toArray++Builtin.zeroCells A.z.cells (grownCap Λ.w ys.length 0 A.e - ys.length)) A.e);have k1:=F.kp hr.s;refine hnext _ _ k1 Z (F.z0E (o:= .y8 _) hr.s hkn (z3h hns hil)) (.fow ?_ (by simpa using hlY) hkn (by simp [Zx]) (fun _=> .inr ⟨Λ.w.heap.size,_,_,_,rfl,by simp [zQ],g.top,?_,by simpa using hge⟩)) (fun j hj hn _=>F.free hj (hkj j hn))
   ·rw [w0u]
    refine Y9 (sz:=sz) (vs:=vs) g.top hge Z hlY (fun o ho=>by simp [Rd,zQ];exact ho) (fun j v hj=>?_) hvl (fun j v x h1 h2=>(hvr j v x h1 h2).mono k1.fr)
    rw [w1c (by have:=(w02.1 hj).1;simpa using this)];simpa using hj
   ·simp only [w23,w1h,size_zeroCells,A.hzs,hvl];rw [←w13];congr 1;omega
  ·
   have hold:∃us:List Value,us.length=xs.length*sz/\(∀(j:Nat) (u:Value),us[j]?=some u->arr[j]?=some u)/\∀(j:Nat) (u:Value) (x:T),us[j]?=some u->xs.flatten[j]?=some x->zI Λ.lab Λ.w u x:=by
    by_cases hx0:xs.length=0
    ·exact ⟨[],by simp [hx0],by simp,by simp⟩
    ·obtain ⟨b',off',cap',us,e1,e2,e3,e4,e5⟩:=hrep.cells hsz (by omega) A.h0;simp at e1;obtain ⟨⟨rfl,rfl⟩,rfl⟩:=e1;refine ⟨us,e3,fun j u hu=>?_,e5⟩;have:=(e4 j u hu).1;rw [cell_of_row Λ.w b _ arr e' _ hhb] at this;simpa using this
   obtain ⟨us,hul,huc,hur⟩:=hold
   have hflat:(xs++ys).flatten=xs.flatten++ys.flatten:=by simp
   have hboth:∀(j:Nat) (u:Value) (x:T),(us++vs)[j]?=some u->(xs++ys).flatten[j]?=some x->zI Λ.lab Λ.w u x:=by
    intro j u x h1 h2;rw [hflat] at h2;have hxl:=zO xs hsz;by_cases hj:j<us.length
    ·rw [w0a hj] at h1;rw [w0a (by omega)] at h2;exact hur j u x h1 h2
    ·rw [w0b (by omega)] at h1;rw [w0b (by omega)] at h2;rw [hxl,←hul] at h2;exact hvr _ u x h1 h2
   by_cases hrm:xs.length+ys.length<=cap
   ·have hfit:xs.length*A.inf.size+vs.length<=arr.size:=by
     rw [A.hs,hvl,hac,←w13];exact w0s _ hrm
    have hrun':=wu (P:=P) (ty:=o.type) Λ.w A.ht A.hi b xs.length cap arr hhb ⟨yb,yoff,none⟩ ys.length ycap vs (by rw [A.hs];exact hvl) (fun j u hu=>by rw [y3];exact (hvc j u hu).1) hone hrm hfit
    have hrun:=zR (x:=A.x) (y:=A.y) (a:=a) A.ho rfl A.ha A.hat (by rw [hxe,hv];exact hrun');rw [hrun];rw [A.hs] at hfit⊢
    have harrL:∀j,j<xs.length*sz->(arr.toList.take (xs.length*sz)++vs++arr.toList.drop (xs.length*sz+vs.length)).toArray[j]?=arr[j]?:=by
     intro j hj
     have:(arr.toList.take (xs.length*sz)).length=xs.length*sz:=by simp;omega
     simp only [w28];rw [w1g,w0a (by omega),w0p,w0e hj];simp
    have hsz2:(arr.toList.take (xs.length*sz)++vs++arr.toList.drop (xs.length*sz+vs.length)).toArray.size=cap*sz:=by simp;omega
    have hget2:∀(j:Nat) (v:Value),(us++vs)[j]?=some v->(arr.toList.take (xs.length*sz)++vs++arr.toList.drop (xs.length*sz+vs.length)).toArray[j]?=some v:=by
     intro j v hj;by_cases hjl:j<us.length
     ·rw [w0a hjl] at hj;rw [harrL j (by omega)];exact huc j v hj
     ·rw [w0b (by omega)] at hj
      have:(arr.toList.take (xs.length*sz)).length=xs.length*sz:=by simp;omega
      simp only [w28];have hjv:=(w02.1 hj).1;rw [w1g,w0b (by omega),w0a (by omega),this,←hul];exact hj
    generalize (arr.toList.take (xs.length*sz)++vs++arr.toList.drop (xs.length*sz+vs.length)).toArray=A2 at*
    have F:=Zy.zfL (n:=xs.length+ys.length) (fr':=(xs.length+ys.length)*sz) hr.s (YH.setRow Λ.w b A2) hlb (w0s _ (by omega)) (fun o ho=>by
     rw [cell_setRow_same _ _ _ _ _ _ _ hhb,cell_of_row Λ.w b o arr e' _ hhb];exact harrL o ho) (by omega)
    have k1:=F.kp hr.s;refine hnext (.slice (some ⟨b,0,none⟩) (xs.length+ys.length) cap) _ k1 Z (F.z0E (o:= .y8 _) hr.s hkn (z3h hns hil)) (.fow ?_ (ZR hsz hlY) hkn (by simp [Zx]) (fun _=> .inr ⟨b,cap,A2,e',by simp,by simp [zQ],setRow_heap _ _ _ _ _ _ hhb,hsz2,by simpa using hrm⟩)) (fun j hj hn _=>F.free hj (hkj j hn))
    exact Y9 (sz:=sz) (vs:=us++vs) (setRow_heap _ _ _ _ _ _ hhb) hrm (by simp) (ZR hsz hlY) (fun o ho=>by simp [Rd,zQ] at ho⊢;exact ho) hget2 (by simp [hul,hvl,w13]) (fun j v x h1 h2=>(hboth j v x h1 h2).mono k1.fr)
   ·have hrun':=run_append_grow (P:=P) Λ.w A.t o.type A.e A.inf A.z A.ht A.hi A.hz ⟨b,0,none⟩ xs.length cap us (by rw [A.hs];exact hul)
     (fun j u hu=>by rw [y3,cell_of_row Λ.w b _ arr e' _ hhb,w0y];exact huc j u hu) ⟨yb,yoff,none⟩ ys.length ycap vs (by rw [A.hs];exact hvl) (fun j u hu=>by rw [y3];exact (hvc j u hu).1) (by omega) (by omega)
     (by rw [A.hb];exact growslice_fits (by omega) hroom)
    have hrun:=zR (x:=A.x) (y:=A.y) (a:=a) A.ho rfl A.ha A.hat (by rw [hxe,hv];exact hrun');rw [hrun];have g:=yK.wB Λ.w (.cells (us.toArray++vs.toArray++Builtin.zeroCells A.z.cells (grownCap Λ.w (xs.length+ys.length) cap A.e - (xs.length+ys.length))) A.e);have F:=Zy.zcX (k:=k) (i:=i) (n:=xs.length+ys.length) (fr:=(xs.length+ys.length)*sz) hr.s g (by omega);have k1:=F.kp hr.s;have hge:=grownCap_ge Λ.w (xs.length+ys.length) cap A.e;refine hnext (.slice (some ⟨Λ.w.heap.size,0,none⟩) (xs.length+ys.length) (grownCap Λ.w (xs.length+ys.length) cap A.e)) _ k1 Z (F.z0E (o:= .y8 _) hr.s hkn (z3h hns hil)) (.fow ?_ (ZR hsz hlY) hkn (by simp [Zx]) (fun _=> .inr ⟨Λ.w.heap.size,grownCap Λ.w (xs.length+ys.length) cap A.e,_,A.e,by simp,by simp [zQ],g.top,?_,by simpa using hge⟩)) (fun j hj hn _=>F.free hj (hkj j hn))
    ·refine Y9 (sz:=sz) (vs:=us++vs) g.top hge (by simp) (ZR hsz hlY) (fun o ho=>by simp [Rd,zQ] at ho⊢;exact ho) (fun j v hj=>?_) (by simp [hul,hvl,w13]) (fun j v x h1 h2=>(hboth j v x h1 h2).mono k1.fr)
     have hjl:=(w02.1 hj).1;rw [w1c (by simpa using hjl)]
     have:(us.toArray++vs.toArray)[j]?=(us++vs)[j]?:=by simp
     rw [this];exact hj
    ·simp only [w23,w1h,size_zeroCells,A.hzs,hvl,hul];rw [←w13,←w13];congr 1;omega
end
section
variable {P:Program} {o:Oper} {base:Nat} {st:St}
theorem z7V {C:Ctx} {Λ:L} {ac:Act} (h:Rel C Λ st ac) (sz:Nat):∀(parts:List (Nat×Operand)) (ps:List (Nat×Ar)) (arr:Array Value) (cs xs:List V),
  slotsOf parts=some ps->YJ Λ arr cs->YQ st sz cs ps=some xs->
  ∃arr',Instr.fill (fun i=>some (i*sz,sz)) arr (parts.map fun (i,x)=>(i,ac.eval x))=some arr'/\YJ Λ arr' xs
 |[],ps,arr,cs,xs,hps,hr,hf=>by
  simp [slotsOf] at hps;subst hps;simp [YQ] at hf;subst hf;exact ⟨arr,rfl,hr⟩
 |(i,x)::parts,ps,arr,cs,xs,hps,hr,hf=>by
  simp only [slotsOf] at hps;split at hps
  ·rename_i a l h1 h2;simp at hps;subst hps;simp only [YQ] at hf;split at hf
   ·rename_i c hc;split at hf
    ·rename_i hcond;have hrc:=(h.opu h1).parts hc;have hfold:=YJ.foldl (i*sz) (ac.eval x).cells.toList c 0 arr cs (by simpa using hrc.1) (fun j a b e1 e2=>hrc.2 j a b (by simpa using e1) e2) hr;rw [w1w] at hfold;obtain ⟨arr',e1,e2⟩:=z7V h sz parts l _ _ xs h2 hfold hf;refine ⟨arr',?_,e2⟩
     have hsz:(ac.eval x).cells.size=sz:=by rw [hrc.1];exact hcond.1
     have hsz2:arr.size=cs.length:=hr.1;simp only [w0n,Instr.fill,hsz]
     have:¬ (i*sz+sz>arr.size):=by omega
     simp only [ne_eq,not_true_eq_false,decide_false,this,Bool.or_self,w0h,w0x];rw [←e1];congr 1;rw [←Array.foldl_toList,Array.toList_zipIdx]
    ·simp at hf
   ·simp at hf
  ·simp at hps
theorem zfr {sz:Nat} {zs:List (List T)} {ps:List (Nat×Ar)} {cs:List V} (B:z4m P o sz zs ps) (hx:YQ st sz (zs.flatten.map V.t) ps=some cs):zM P o base st {v:= .slc base 0 zs.length sz,ob:=[(base,.cells cs)],n:=1}:=by
 intro C Λ a next Q hC hr hle hfree hnext;obtain ⟨i,zval,hi,hz1,hlen,hok⟩:=y5 B.hzv
 have hsz:i.size=sz:=by have:=B.hs;unfold ZF at this;rw [hi] at this;simpa using this
 have hrc:=z50 (yf (Λ:=Λ) hok) B.hz
 have hzl:zval.cells.size=sz:=by rw [(yf (Λ:=Λ) hok).1,hlen];exact hsz
 have hmade:=z02 hrc B.n
 have hfl:(List.replicate B.n (B.z.map V.t)).flatten=(zs.flatten.map V.t):=by have e:=B.hzs;generalize B.n=n at*;generalize B.z=z at*;subst e;simp
 rw [hfl] at hmade;obtain ⟨arr,e1,e2⟩:=z7V hr sz _ _ _ _ _ B.hps hmade hx
 have hn:zs.length=B.n:=by have e:=congrArg List.length B.hzs;simpa using e
 have hrun:=Qs (o:=o) (a:=a) (w:=Λ.w) B.ho B.ht hi hz1 (by rw [hzl,hsz]) (by rw [hsz];exact B.hle) (by rw [hsz];exact e1);unfold Oper.wp;rw [hrun];obtain ⟨hb1,hb2,hb3⟩:=hfree base (w09 _) (by simp);have g:=yK.alloc Λ.w (.cells arr B.e);have hkp:=Kp.new g hr.s.new (.obj base)
 obtain ⟨k1,k2,k3⟩:=z08 hr.s g hb1 hb2 rfl (ao:= .cells cs) ⟨Λ.w.heap.size,_,_,by simp [zq],g.top,e2.1,fun j v c q1 q2=>(e2.2 j v c q1 q2).mono hkp⟩
 rw [←hn];exact hnext _ _ k1 Z k2 (.slc hb1 (w09 _) (by simp [zq])) (fun k hk _ hlt=>k3 k hk (by simp at hlt;omega))
theorem zc0 {f:Nat->Nat->Nat} {k n:Nat} {ns:List Nat} (h:∀j,f k j=(ns[j]?).getD 0):∀j,Zx f k ns.length n k j=((ns++[n])[j]?).getD 0:=by
 intro j;by_cases e:ns.length=j
 ·subst e;rw [yV];simp
 ·rw [Yn (by omega),h j];by_cases hj:j<ns.length
  ·rw [w0a hj]
  ·rw [w19 (by omega),w19 (by simp;omega)]
theorem zhA {sz k:Nat} {zs xs:List (List T)} {ps:List (Nat×Ar)} {ns:List Nat} (B:z4m P o sz zs ps) (hx:ZA st sz zs ps=some xs) (hk:zj st.s.sto k=some (.y8 ns)) (h0:0<xs.length):
  zM P o base st {v:= .fow k ns.length sz xs,ob:=[(k,.y8 (ns++[xs.length]))],rd:=true}:=by
 intro C Λ a next Q hC hr hle hfree hnext;obtain ⟨arr,h1,h2,h3⟩:=z34 B hr hx;obtain ⟨hkn,hns⟩:=hr.s.sto k _ hk;have hns:∀j,Λ.frf k j=(ns[j]?).getD 0:=hns
 have hfk:Λ.frf k ns.length=0:=by rw [hns];simp
 have hkj:∀j,zj st.s.sto j=none->j≠k:=by rintro j hn rfl;rw [hk] at hn;cases hn
 unfold Oper.wp;rw [h1];have g:=yK.alloc Λ.w (.cells arr B.e);have F:=Zy.zcX (k:=k) (i:=ns.length) (n:=xs.length) (fr:=xs.length*sz) hr.s g (by omega);have k1:=F.kp hr.s
 have hal:arr.size=xs.length*sz:=by rw [h2.1,w0r,zO xs h3]
 refine hnext _ _ k1 Z (F.z0E (o:= .y8 _) hr.s hkn (zc0 hns)) (.fow ?_ h3 hkn (by simp [Zx]) (fun _=> .inr ⟨Λ.w.heap.size,xs.length,arr,B.e,rfl,by simp [zQ],g.top,hal,w09 _⟩)) (fun j hj hn _=>F.free hj (hkj j hn))
 refine Y9 (sz:=sz) (vs:=arr.toList) g.top (w09 _) Z h3 (fun o ho=>by simp [Rd,zQ];exact ho) (fun j v hj=>by simpa using hj) (by rw [w1o,hal]) fun j v x e1 e2=>?_
 exact (h2.2 j v (.t x) (by simpa using e1) (by simp only [w0c,e2];rfl)).ZL.mono k1.fr
theorem zgp {ty e:TypeId} {x:Operand} {args:Array Operand} {ats:Array TypeId} {x':Ar} {sz:Nat} {z:List V} {k ver off len w:Nat} {cs:List V} (hop:o.op= .call {callee:= .builtin .clear,args:=args,argTypes:=ats}) (ha:args.toList=[x]) (hat:ats[0]?=some ty)
  (hu:P.underlying ty=some (.slice e)) (hs:ZF P e=some sz) (hz:ZP P e=some z) (hzc:z.all V.Zm=true) (hx:opA x=some x') (hxv:x'.u st= .gsl k ver off len sz) (hk:zj st.s.sto k=some (.gro w cs)) (hw:ver=w) (hle:off+len*sz<=cs.length):
  zM P o base st {v:= .top,ob:=[(k,.gro w (setAt cs off (List.replicate len z).flatten))],rd:=true}:=by
 intro C Λ a next Q hC hr hle' hfree hnext;have hx1:=hr.opu hx;rw [hxv] at hx1;obtain ⟨hkn,hwv,hcur0⟩:=hr.s.sto k _ hk
 have hargs:args.map a.eval=#[a.eval x]:=by apply w27;simp [ha]
 obtain ⟨i,zval,hi,hz1,hlen,hok⟩:=y5 hz
 have hsz:i.size=sz:=by have:=hs;unfold ZF at this;rw [hi] at this;simpa using this
 have hrc:=yf (Λ:=Λ) hok
 have hzl:zval.cells.size=sz:=by rw [hrc.1,hlen];exact hsz
 have hkj:∀j,zj st.s.sto j=none->j≠k:=by rintro j hn rfl;rw [hk] at hn;cases hn
 unfold Oper.wp;generalize hxe:a.eval x=vx at hx1
 cases hx1 with
 |gsl _ _ _ hb=>
 have hE:(a.eval x=vx):=hxe;by_cases hl0:len=0
 ·subst hl0
  have hsl:∃ad c,vx= .slice ad 0 c:=by
   rcases hb (hw.trans hwv.symm) with ⟨⟨ad,rfl⟩,_⟩|⟨b,cap,N,rfl,_⟩
   ·exact ⟨_,_,rfl⟩
   ·exact ⟨_,_,rfl⟩
  obtain ⟨ad,c,rfl⟩:=hsl
  have hrun:(execOp a.eval o).run P Λ.w= .ok (.value (.tuple #[])) Λ.w:=by
   simp only [execOp,hop,resolve,Sem.run_bind,Sem.run_pure,Result.andThen_ok,invoke,builtin,hargs,hxe]
   cases ad<;>simp [Builtin.clear_,hat,run_underlying hu]
  rw [hrun]
  have e0:setAt cs off (List.replicate 0 z).flatten=cs:=by simp [setAt]
  rw [e0] at hnext;exact hnext _ Λ (Kp.refl Λ) Z ((Zy.same (k:=k) hr.s).z0E (o:= .gro w cs) hr.s hkn ⟨hwv,hcur0⟩) .top (fun j hj _ _=>hj)
 ·rcases hb (hw.trans hwv.symm) with ⟨⟨ad,rfl⟩,h0⟩|⟨b,cap,N,rfl,hcap,hcur,hN,hN'⟩
  ·exact absurd h0 hl0
  ·obtain ⟨arr,e',hhb,hac,hold⟩:=hr.s.z0U hk hcur
   obtain ⟨n,rfl⟩:∃n,len=n+1:=⟨len - 1,by omega⟩
   have hmade:=z02 hrc (n+1)
   have hvl:(List.replicate (n+1) z).flatten.length=(n+1)*sz:=by
    have:=zO (sz:=sz) (List.replicate (n+1) z) (fun i c hc=>by
     have:=zMG hc;rw [List.mem_replicate] at this
     rw [this.2];omega)
    simpa using this
   have hone:∀u∈(Builtin.zeroCells zval.cells (n+1)).toList,u.oneCell'=true:=by
    intro u hu;obtain ⟨j,hj⟩:=w0v.1 hu
    have hj':(Builtin.zeroCells zval.cells (n+1))[j]?=some u:=by simpa using hj
    have hlt:j<(List.replicate (n+1) z).flatten.length:=by rw [←hmade.1];exact (w1s.1 hj').1
    refine (hmade.2 j u _ hj' (w0f hlt)).Q1 ?_;have hm:=List.getElem_mem hlt;simp only [List.mem_flatten,List.mem_replicate] at hm;obtain ⟨l,⟨_,rfl⟩,hm⟩:=hm;rw [w0i] at hzc;exact hzc _ hm
   have hul:(Builtin.zeroCells zval.cells (n+1)).toList.length=(List.replicate (n+1) z).flatten.length:=by rw [←hmade.1];simp [Builtin.zeroCells]
   have hst:=run_storeCells_at P b off e' (Builtin.zeroCells zval.cells (n+1)).toList 0 arr Λ.w hhb (by simp;rw [←w1o,hul,hvl];omega) hone;simp only [w1w] at hst
   have hrun:(execOp a.eval o).run P Λ.w= .ok (.value (.tuple #[])) (Λ.w.setRow b (arr.toList.take off++(Builtin.zeroCells zval.cells (n+1)).toList++arr.toList.drop (off+(Builtin.zeroCells zval.cells (n+1)).toList.length)).toArray):=by
    simp only [execOp,hop,resolve,Sem.run_bind,Sem.run_pure,Result.andThen_ok,invoke,builtin,hargs,hxe];simp [Builtin.clear_,hat,run_underlying hu,zeroValue,typeInfo,hi,hz1];simp at hst;simp [hst]
   rw [hrun];obtain ⟨i',hb',hb2⟩:=hcur;have hrow:=z6I (Λ:=Λ) (arr:=arr) (cs:=cs) (vs:=(List.replicate (n+1) z).flatten) (us:=(Builtin.zeroCells zval.cells (n+1)).toList) (off:=off) hul (by rw [hvl];exact hle) hac hold (fun j v c q1 q2=>hmade.2 j v c (by rw [w1t] at q1;exact q1) q2)
   have hA:(arr.toList.take off++(Builtin.zeroCells zval.cells (n+1)).toList++arr.toList.drop (off+(Builtin.zeroCells zval.cells (n+1)).toList.length)).toArray.size=arr.size:=by
    simp only [w1h,w03,w26,List.length_drop,hul,hvl,w1o];omega
   generalize (arr.toList.take off++(Builtin.zeroCells zval.cells (n+1)).toList++arr.toList.drop (off+(Builtin.zeroCells zval.cells (n+1)).toList.length)).toArray=A at hrow hA⊢;have F:=Zy.write hr.s (YH.setRow Λ.w b A) hb' (YI hhb hA);have hkp:=F.kp hr.s;exact hnext _ _ hkp Z (F.z0E hr.s hkn ⟨hwv,.inr ⟨b,A,e',⟨i',hb',hb2⟩,setRow_heap _ _ _ _ _ _ hhb,by rw [YK,hA];exact hac,fun j v c q1 q2=>(hrow j v c q1 q2).mono hkp⟩⟩) .top (fun j hj hn _=>F.free hj (hkj j hn))
end
section
variable {P:Program} {ops:Array Oper} {o:Oper} {base:Nat} {st:St}
theorem zdc:∀(xs:List Operand) (ys:List Ar),xs.mapM opA=some ys->xs.length=ys.length/\∀(j:Nat) (x:Operand) (y:Ar),xs[j]?=some x->ys[j]?=some y->opA x=some y:=by
 intro xs
 induction xs with
 |nil=>intro c h;simp at h;subst h;simp
 |cons d cs ih=>
  intro c h;simp only [List.mapM_cons,w04,Option.pure_def,w01] at h;obtain ⟨y,hy,c',hc',h⟩:=h;simp at h;subst h;obtain ⟨i1,i2⟩:=ih c' hc'
  refine ⟨by simp [i1],fun j e z h1 h2=>?_⟩
  cases j with
  |zero=>simp at h1 h2;subst h1;subst h2;exact hy
  |succ j=>exact i2 j e z (by simpa using h1) (by simpa using h2)
theorem z4P:∀(xs:List Ar) (j:Nat),(yk st xs)[j]?=(xs[j]?).map (Ar.u st)
 |[],j=>by simp [yk]
 |x::r,0=>by simp [yk]
 |x::r,j+1=>by simp [yk,z4P r j]
theorem z1P:∀(xs:List Ar),(yk st xs).length=xs.length
 |[]=>rfl
 |x::r=>by simp [yk,z1P r]
theorem z55:∀(xs:List (Nat×Nat)) (j:Nat),(Qv xs)[j]?=(xs[j]?).map fun c=>V.ptr c.1 c.2
 |[],j=>by simp [Qv]
 |x::r,0=>by simp [Qv]
 |x::r,j+1=>by simp [Qv,z55 r j]
theorem z4X:∀(xs:List (Nat×Nat)),(Qv xs).length=xs.length
 |[]=>rfl
 |x::r=>by simp [Qv,z4X r]
theorem z48 {C:Ctx} {Λ:L} {a:Act} (hr:Rel C Λ st a) {args:Array Operand} {args':List Ar} (h:args.toList.mapM opA=some args'):
  (args.map a.eval).size=(yk st args').length/\∀(j:Nat) (v:Value) (x:V),(args.map a.eval)[j]?=some v->(yk st args')[j]?=some x->zr Λ v x:=by
 obtain ⟨h1,h2⟩:=zdc _ _ h
 refine ⟨by simp [z1P];simpa using h1,fun j v x hv hx=>?_⟩
 rw [z4P,w06] at hx;obtain ⟨y,hy,rfl⟩:=hx;rw [Array.getElem?_map,w06] at hv;obtain ⟨z,hz,rfl⟩:=hv;exact hr.opu (h2 j z y (by simpa using hz) hy)
theorem z6s {f:FuncId} {vs:List V} {out:Out} (hf:wc P f vs base st.s.sto out)
  (hrun:∀(C:Ctx) (Λ:L) (a:Act),Rel C Λ st a->∃args:Array Value,(execOp a.eval o).run P Λ.w= .ok (.enter f args) Λ.w/\args.size=vs.length/\∀(j:Nat) (v:Value) (x:V),args[j]?=some v->vs[j]?=some x->zr Λ v x):
  zM P o base st out:=by
 intro C Λ a next Q hC hr hle hfree hnext;obtain ⟨args,h1,h2,h3⟩:=hrun C Λ a hr;unfold Oper.wp;rw [h1];refine (hf.2.2 Λ args ⟨hr.s.sto,hr.s.inj,hr.s.new,hr.s.bnd,hr.s.frz,hr.s.YX,hr.s.Yu,hr.s.z2g⟩ hle hfree h2 h3).mono fun e w' h=>?_;obtain ⟨v,Λ',rfl,rfl,k1,k2,k3,k4,k5⟩:=h;exact hnext v Λ' k1 k2 ⟨k3.sto,k3.inj,k3.new,k3.bnd,k3.frz,k3.YX,k3.Yu,k3.z2g⟩ k4 k5
theorem zc9 {f:FuncId} {args:Array Operand} {ats:Array TypeId} {args':List Ar} {out:Out} (ho:o.op= .call {callee:= .value (.func f),args:=args,argTypes:=ats}) (ha:args.toList.mapM opA=some args')
  (hf:wc P f (yk st args') base st.s.sto out):zM P o base st out:=by
 refine z6s hf fun C Λ a hr=>?_;obtain ⟨h1,h2⟩:=z48 hr ha;refine ⟨args.map a.eval,?_,h1,h2⟩;have hb:=hf.1 (args.map a.eval) Λ.w;simp only [execOp,ho,resolve,Act.eval,Deferred.ofValue,Sem.run_bind,Sem.run_pure,Result.andThen_ok,invoke];simpa using hb
theorem zek {f:FuncId} {t:Nat} {args:Array Operand} {ats:Array TypeId} {args':List Ar} {caps:List (Nat×Nat)} {out:Out} (ho:o.op= .call {callee:= .value (.tmp t),args:=args,argTypes:=ats}) (ha:args.toList.mapM opA=some args')
  (hv:(look st.env t).ug= .fn f caps) (hf:wc P f (yk st args'++Qv caps) base st.s.sto out):zM P o base st out:=by
 refine z6s hf fun C Λ a hr=>?_;obtain ⟨h1,h2⟩:=z48 hr ha;have ht:=(hr.env t).ug;rw [hv] at ht;generalize he:a.tmps.getD t undef=u at ht
 cases ht with
 |@fn _ vs _ hs hc=>
  refine ⟨args.map a.eval++vs,?_,by simp [z1P,z4X] at h1⊢;omega,fun j v x hj hx=>?_⟩
  ·have hb:=hf.1 (args.map a.eval++vs) Λ.w;have he':a.eval (.tmp t)= .func (.func f) #[] vs:=he;simp only [execOp,ho,resolve,he',Deferred.ofValue,Sem.run_bind,Sem.run_pure,Result.andThen_ok,invoke];simpa using hb
  ·by_cases hjl:j<(args.map a.eval).size
   ·rw [w1c hjl] at hj;rw [w0a (by omega)] at hx;exact h2 j v x hj hx
   ·rw [Array.getElem?_append_right (by omega)] at hj;rw [w0b (by omega),z55,w06] at hx;obtain ⟨c,hc1,rfl⟩:=hx;rw [←h1] at hc1;obtain ⟨b,e1,e2,e3⟩:=hc _ v c hj hc1;subst e1;exact .ptr e3 e2
theorem zcU {f:FuncId} {t:Nat} {args:Array Operand} {ats:Array TypeId} {args':List Ar} {out:Out} (ho:o.op= .call {callee:= .value (.tmp t),args:=args,argTypes:=ats}) (ha:args.toList.mapM opA=some args')
  (hv:(look st.env t).ug= .t (.fn f)) (hf:wc P f (yk st args') base st.s.sto out):zM P o base st out:=by
 refine z6s hf fun C Λ a hr=>?_;obtain ⟨h1,h2⟩:=z48 hr ha;have ht:=(hr.env t).ug;rw [hv] at ht
 have he:a.tmps.getD t undef= .func (.func f) #[] #[]:=by
  have:=ht.ZL;generalize a.tmps.getD t undef=u at this;cases this;rfl
 refine ⟨args.map a.eval,?_,h1,h2⟩;have hb:=hf.1 (args.map a.eval) Λ.w;have he':a.eval (.tmp t)= .func (.func f) #[] #[]:=he;simp only [execOp,ho,resolve,he',Deferred.ofValue,Sem.run_bind,Sem.run_pure,Result.andThen_ok,invoke];simpa using hb
theorem WA:∀{ps:List Bool},Zg ps->∀q∈ps,q=true
 |[],_,q,h=>by simp at h
 |p::r,h,q,hq=>by
  simp only [Zg] at h
  cases w0t.1 hq with
  |inl e=>subst e;exact h.1
  |inr e=>exact WA h.2 q e
theorem zcs {K:Out->Prop} {aop:AOp} (h:evX P base st K aop):∃out,evX P base st (· =out) aop/\K out:=by
 unfold evX at h;split at h
 ·split at h
  ·split at h
   ·split at h
    ·rename_i h1 _ _ h2 _ _ h3;refine ⟨_,?_,h.2⟩;simp only [evX,h1,h2,h3];exact ⟨h.1,by simp⟩
    ·exact h.elim
   ·exact h.elim
  ·exact h.elim
 ·split at h
  ·rename_i h1;refine ⟨_,?_,h.2⟩;simp only [evX,h1];exact ⟨h.1,by simp⟩
  ·exact h.elim
 ·exact ⟨_,by simp only [evX],h⟩
 ·split at h
  ·rename_i ow _ _ _ _ xs h1;cases ow
   ·refine ⟨_,?_,h.2⟩;simp only [evX,h1];exact ⟨h.1,by simp⟩
   ·obtain ⟨h2,h|h⟩:=h
    ·cases xs with
     |nil=>refine ⟨_,?_,h⟩;simp only [evX,h1];exact ⟨h2,by simp⟩
     |cons y ys=>refine ⟨_,?_,h⟩;simp only [evX,h1];exact ⟨h2,.inl (by simp)⟩
    ·refine ⟨_,?_,h⟩;simp only [evX,h1];exact ⟨h2,.inr (by trivial)⟩
  ·exact h.elim
 ·split at h
  ·split at h
   ·rename_i h1 _ h2;refine ⟨_,?_,h.2.2.2⟩;simp only [evX,h1,h2];exact ⟨h.1,h.2.1,h.2.2.1,by simp⟩
   ·split at h
    ·rename_i h1 _ _ _ _ h2 _ _ h3;refine ⟨_,?_,h.2.2.2.2.2⟩;simp only [evX,h1,h2,h3];exact ⟨h.1,h.2.1,h.2.2.1,h.2.2.2.1,h.2.2.2.2.1,by simp⟩
    ·exact h.elim
   ·exact h.elim
  ·exact h.elim
 ·split at h
  ·rename_i h1;refine ⟨_,?_,h.2⟩;simp only [evX,h1];exact ⟨h.1,by simp⟩
  ·exact h.elim
 ·obtain ⟨out,h1,h2⟩:=h;exact ⟨out,⟨out,h1,rfl⟩,h2⟩
 ·split at h
  ·rename_i h1;obtain ⟨out,h2,h3⟩:=h;refine ⟨out,?_,h3⟩;simp only [evX,h1];exact ⟨out,h2,rfl⟩
  ·rename_i h1;obtain ⟨out,h2,h3⟩:=h;refine ⟨out,?_,h3⟩;simp only [evX,h1];exact ⟨out,h2,rfl⟩
  ·exact h.elim
 ·exact ⟨_,by simp only [evX],h⟩
 ·split at h
  ·rename_i h1;split at h
   ·rename_i h2;exact ⟨_,by simp only [evX,h1,h2],h⟩
   ·exact h.elim
  ·exact h.elim
 ·split at h
  ·rename_i h1;exact ⟨_,by simp only [evX,h1],h⟩
  ·rename_i h1;split at h
   ·rename_i h2;exact ⟨_,by simp only [evX,h1,h2],h⟩
   ·exact h.elim
  ·exact h.elim
 ·rename_i op;simp only [evX];unfold yi at h;split at h
  ·split at h
   ·rename_i h1 h2;split at h
    ·rename_i h3;exact ⟨_,by simp only [yi,h1,h2,h3];exact ⟨h.1,by simp⟩,h.2⟩
    ·exact h.elim
   ·exact h.elim
  ·split at h
   ·rename_i h1 h2;split at h
    ·rename_i h3;exact ⟨_,by simp only [yi,h1,h2,h3];exact ⟨h.1,by simp⟩,h.2⟩
    ·exact h.elim
   ·exact h.elim
  ·split at h
   ·rename_i h1;split at h
    ·rename_i h3;exact ⟨_,by simp only [yi,h1,h3],h⟩
    ·exact h.elim
   ·exact h.elim
  ·split at h
   ·rename_i h1 h2;split at h
    ·rename_i h3;split at h
     ·rename_i h4;split at h
      ·rename_i h5 h6;exact ⟨_,by simp only [yi,h1,h2,h3,h4,h5,h6];exact ⟨h.1,by simp⟩,h.2⟩
      ·exact h.elim
     ·rename_i h4;exact ⟨_,by simp only [yi,h1,h2,h3,h4];exact ⟨h.1,by simp⟩,h.2⟩
    ·exact h.elim
   ·exact h.elim
  ·split at h
   ·rename_i h1 h2;split at h
    ·rename_i h3;split at h
     ·rename_i h4;exact ⟨_,by simp only [yi,h1,h2,h3,h4],h⟩
     ·exact h.elim
    ·exact h.elim
   ·exact h.elim
  ·exact h.elim
 ·exact h.elim
theorem zde {n:Nat} {x v:Ar} (h:ZV P ops o=some (.st n x v)):∃t a b,o.op= .store t a b/\ZF P t=some n/\opA a=some x/\opA b=some v:=by
 unfold ZV at h
 (repeat' split at h)<;>simp [w01] at h
 all_goals try (obtain ⟨_,_,_,_,h⟩:=h;split at h<;>simp [w01] at h;done)
 rename_i t a b hop;obtain ⟨n',hn,a',ha,b',hb,rfl,rfl,rfl⟩:=h;exact ⟨t,a,b,hop,hn,ha,hb⟩
theorem ze5 {n:Nat} {x:Ar} (h:ZV P ops o=some (.box n x)):∃t a,o.op= .box t a/\opA a=some x:=by
 unfold ZV at h
 (repeat' split at h)<;>simp [w01] at h
 all_goals try (obtain ⟨_,_,_,_,h⟩:=h;split at h<;>simp [w01] at h;done)
 rename_i t a hop;obtain ⟨hn,ha⟩:=h;exact ⟨t,a,hop,ha⟩
theorem zbX {zs:List V} (h:ZV P ops o=some (.alloc zs)):∃t,o.op= .alloc t/\ZP P t=some zs:=by
 unfold ZV at h
 (repeat' split at h)<;>simp [w01] at h
 all_goals try (obtain ⟨_,_,_,_,h⟩:=h;split at h<;>simp [w01] at h;done)
 rename_i t hop;exact ⟨t,hop,h⟩
theorem za5 {ow:Bool} {sz:Nat} {zs:List (List T)} {ps:List (Nat×Ar)} (h:ZV P ops o=some (.bsl ow sz zs ps)):Nonempty (z4m P o sz zs ps):=by
 unfold ZV at h
 (repeat' split at h)<;>simp [w01] at h
 all_goals try (obtain ⟨_,_,_,_,h⟩:=h;split at h<;>simp [w01] at h;done)
 rename_i t n parts hop _ e ht;obtain ⟨sz',hs,zv,hzv,z,hz,hle,ps',hps,_,rfl,rfl,rfl⟩:=h;exact ⟨⟨t,e,n,parts,zv,z,hop,ht,hs,hzv,hz,hle,rfl,hps⟩⟩
theorem z6o {sz bytes:Nat} {x y:Ar} (h:ZV P ops o=some (.app sz bytes x y)):Nonempty (z2E P o sz bytes x y):=by
 unfold ZV at h
 (repeat' split at h)<;>simp [w01] at h
 all_goals try (obtain ⟨_,_,_,_,h⟩:=h;split at h<;>simp [w01] at h;done)
 rename_i args ats hop _ _ x' y' t u ha hat htu _ e ht;obtain ⟨inf,hi,z,hz,hc,a',hx,b',hy,rfl,rfl,rfl,rfl⟩:=h;subst htu
 exact ⟨⟨x',y',args,ats,t,e,inf,z,hop,ha,hat,ht,hi,hz,rfl,rfl,by omega,by omega,hx,hy⟩⟩
theorem zck {sz bytes:Nat} {z:List V} {n:Ar} (h:ZV P ops o=some (.z97 sz bytes z n)):∃t e l i,o.op= .makeSlice t (.tmp l) (.tmp l)/\P.underlying t=some (.slice e)/\P.info? e=some i/\ZP P e=some z/\i.size=sz/\i.bytes=bytes/\n= .s l:=by
 unfold ZV at h
 (repeat' split at h)<;>simp [w01] at h
 all_goals try (obtain ⟨_,_,_,_,h⟩:=h;split at h<;>simp [w01] at h;done)
 rename_i t l c hop _ e ht hlc;obtain ⟨inf,hi,z',hz,rfl,rfl,rfl,rfl⟩:=h;subst hlc;exact ⟨t,e,l,inf,hop,ht,hi,hz,rfl,rfl,rfl⟩
theorem z7o {f:FuncId} {args':List Ar} (h:ZV P ops o=some (.call f args')):∃args ats,o.op= .call {callee:= .value (.func f),args:=args,argTypes:=ats}/\args.toList.mapM opA=some args':=by
 unfold ZV at h
 (repeat' split at h)<;>simp [w01] at h
 all_goals try (obtain ⟨_,_,_,_,h⟩:=h;split at h<;>simp [w01] at h;done)
 obtain ⟨ha,rfl⟩:=h
 exact ⟨_,_,by assumption,ha⟩
theorem zaH {x:Ar} {args':List Ar} (h:ZV P ops o=some (.z13 x args')):∃t args ats,o.op= .call {callee:= .value (.tmp t),args:=args,argTypes:=ats}/\args.toList.mapM opA=some args'/\x= .s t:=by
 unfold ZV at h
 (repeat' split at h)<;>simp [w01] at h
 all_goals try (obtain ⟨_,_,_,_,h⟩:=h;split at h<;>simp [w01] at h;done)
 rename_i t args ats hop
 rcases h with ⟨h1,h2⟩
 first |exact ⟨t,args,ats,hop,h1,h2.symm⟩|exact ⟨t,args,ats,hop,h2,h1.symm⟩
theorem zav {f:FuncId} {vs:List V} {sto:List (Nat×zd)} {out:Out} (h:z0d P f vs base sto (· =out)):wc P f vs base sto out:=by
 obtain ⟨out',h1,rfl⟩:=h;split at h1
 ·exact h1 sto fun _ _=>rfl
 ·exact h1 sto
theorem z1s {f:FuncId} {vs:List V} {sto:List (Nat×zd)} {out:Out} (h:qe P f vs base sto (· =out)):wc P f vs base sto out:=by
 obtain ⟨out',h1,rfl⟩:=h;split at h1
 ·exact h1
 ·exact h1 sto
theorem zbA {kag vag:Bool} (h:ZV P ops o=some (.z3t kag vag)):∃t,o.op= .makeMap t none:=by
 unfold ZV at h
 (repeat' split at h)<;>simp [w01] at h
 all_goals try (obtain ⟨_,_,_,_,h⟩:=h;split at h<;>simp [w01] at h;done)
 exact ⟨_,by assumption⟩
theorem z8Q {x:Ar} (h:ZV P ops o=some (.Qq x)):∃t kt et a,o.op= .range t a/\P.underlying t=some (.map kt et)/\opA a=some x:=by
 unfold ZV at h
 (repeat' split at h)<;>simp [w01] at h
 all_goals try (obtain ⟨_,_,_,_,h⟩:=h;split at h<;>simp [w01] at h;done)
 exact ⟨_,_,_,_,by assumption,by assumption,h⟩
theorem zcA {x:Ar} (h:ZV P ops o=some (.z94 x)):∃args ats t kt et a,o.op= .call {callee:= .builtin .len,args:=args,argTypes:=ats}/\args[0]?=some a/\ats[0]?=some t/\P.underlying t=some (.map kt et)/\opA a=some x:=by
 unfold ZV at h
 (repeat' split at h)<;>simp [w01] at h
 all_goals try (obtain ⟨_,_,_,_,h⟩:=h;split at h<;>simp [w01] at h;done)
 exact ⟨_,_,_,_,_,_,by assumption,by assumption,by assumption,by assumption,h⟩
theorem z8e {gc:Bool} {nop:NOp} {v:V} {ps:List Bool} (hres:z86 P o=some nop) (he:Zq gc st nop=some (v,ps)) (hp:∀q∈ps,q):zD P o gc st v:=by
 unfold z86 at hres;split at hres
 ·rename_i t x k ok hop;split at hres
  ·rename_i kt et hu;simp only [w04,w01,w00] at hres;obtain ⟨⟨ks,kag⟩,h1,zv,h2,x',h3,k',h4,rfl⟩:=hres;exact zcf hop hu h1 h2 h3 h4 he hp
  ·cases hres
 ·split at hres
  ·simp only [w04,w01,w00] at hres;obtain ⟨⟨ks,kag⟩,h1,x',h3,k',h4,v',h5,rfl⟩:=hres;simp [Zq] at he
  ·cases hres
 ·split at hres
  ·simp only [w04,w01,w00] at hres;obtain ⟨⟨ks,kag⟩,h1,zv,h2,x',h3,k',h4,rfl⟩:=hres;simp [Zq] at he
  ·cases hres
 ·simp only [w04,w01,w00] at hres;obtain ⟨_,_,_,_,_,_,rfl⟩:=hres;simp [Zq] at he
 ·rename_i op t x y ty hop;split at hres
  ·rename_i e hu;split at hres
   ·simp only [w04,w01,w00] at hres;obtain ⟨x',h3,rfl⟩:=hres;exact zdV (neg:=false) (by simpa using hop) Z hu h3 he hp
   ·simp only [w04,w01,w00] at hres;obtain ⟨x',h3,rfl⟩:=hres;exact zdV (neg:=true) (by simpa using hop) Z hu h3 he hp
   ·cases hres
  ·rename_i fs hu
   have kt:∀{ks:List KSh} {b:Bool},YT P t=some (ks,b)->b=true:=by
    intro ks b h;unfold YT at h;rw [hu] at h;simp only at h;split at h
    ·simp only [w06,w05] at h;obtain ⟨_,_,_,h⟩:=h;exact h.symm
    ·cases h
   split at hres
   ·rename_i ks b hk;simp only [w04,w01,w00] at hres;obtain ⟨x',h3,y',h4,rfl⟩:=hres;rw [kt hk] at hk;exact zcZ (neg:=false) (by simpa using hop) hk h3 h4 he hp
   ·rename_i ks b hk;simp only [w04,w01,w00] at hres;obtain ⟨x',h3,y',h4,rfl⟩:=hres;rw [kt hk] at hk;exact zcZ (neg:=true) (by simpa using hop) hk h3 h4 he hp
   ·cases hres
  ·cases hres
 ·split at hres
  ·split at hres
   ·simp only [w04,w01,w00] at hres;obtain ⟨⟨ks,kag⟩,h1,x',h3,k',h4,rfl⟩:=hres;simp [Zq] at he
   ·cases hres
  ·cases hres
 ·split at hres
  ·split at hres
   ·simp only [w04,w01,w00] at hres;obtain ⟨x',h3,rfl⟩:=hres;simp [Zq] at he
   ·split at hres
    ·split at hres
     ·simp only [w00] at hres;subst hres;simp [Zq] at he
     ·cases hres
    ·cases hres
   ·cases hres
  ·cases hres
 ·simp only [w04,w01,w00] at hres;obtain ⟨x',h3,rfl⟩:=hres;simp [Zq] at he
 ·rename_i x hop;simp only [w04,w01,w00] at hres;obtain ⟨x',h3,rfl⟩:=hres;exact zge hop h3 he hp
 ·rename_i f args ats hop;split at hres
  ·rename_i cnt x y hf ha;simp only [w04,w01,w00] at hres;obtain ⟨x',h3,y',h4,rfl⟩:=hres;exact zgT hop ha hf h3 h4 he hp
  ·rename_i x y hf ha;simp only [w04,w01,w00] at hres;obtain ⟨x',h3,y',h4,rfl⟩:=hres;exact zgM hop ha hf h3 h4 he hp
  ·cases hres
 ·rename_i src dst x hop;split at hres
  ·rename_i e hs hd;split at hres
   ·rename_i hu;simp only [w04,w01,w00] at hres;obtain ⟨x',h3,rfl⟩:=hres;exact zfY hop hs hd hu h3 he hp
   ·simp only [w00] at hres;subst hres;simp [Zq] at he
  ·simp only [w00] at hres;subst hres;simp [Zq] at he
 ·simp only [w00] at hres;subst hres;simp [Zq] at he
theorem z96 {nop:NOp} {out:Out} (hres:z86 P o=some nop) (h:yi st (· =out) nop):zM P o base st out:=by
 unfold z86 at hres;split at hres
 ·split at hres
  ·simp only [w04,w01,w00] at hres;obtain ⟨⟨ks,kag⟩,h1,zv,h2,x',h3,k',h4,rfl⟩:=hres;simp [yi] at h
  ·cases hres
 ·rename_i t x k v hop;split at hres
  ·rename_i kt et hu;simp only [w04,w01,w00] at hres;obtain ⟨⟨ks,kag⟩,h1,x',h3,k',h4,v',h5,rfl⟩:=hres;simp only [yi] at h;split at h
   ·rename_i q cs hx hk;split at h
    ·rename_i kag' es sx hes;obtain ⟨⟨rfl,h6⟩,rfl⟩:=h;exact zgu hop hu h1 h3 h4 h5 hx hk hes h6
    ·exact h.elim
   ·exact h.elim
  ·cases hres
 ·rename_i t x k hop;split at hres
  ·rename_i kt et hu;simp only [w04,w01,w00] at hres;obtain ⟨⟨ks,kag⟩,h1,zv,h2,x',h3,k',h4,rfl⟩:=hres;simp only [yi] at h;split at h
   ·rename_i q cs hx hk;split at h
    ·rename_i kag' es c bs hes;split at h
     ·rename_i i hm;split at h
      ·rename_i e b he hb;obtain ⟨⟨rfl,h6⟩,rfl⟩:=h;exact (zcu hop hu h1 h2 h3 h4 hx hk hes h6).1 i e b hm he hb
      ·exact h.elim
     ·rename_i hm;obtain ⟨⟨rfl,h6⟩,rfl⟩:=h;exact (zcu hop hu h1 h2 h3 h4 hx hk hes h6).2 hm
    ·exact h.elim
   ·exact h.elim
  ·cases hres
 ·rename_i t x s v hop;simp only [w04,w01,w00] at hres;obtain ⟨x',h3,s',h4,v',h5,rfl⟩:=hres;simp only [yi] at h;split at h
  ·rename_i q kd z hx hs;split at h
   ·rename_i kag es c bs hes;split at h
    ·rename_i i hi;subst h;exact zgm hop h3 h4 h5 hx hs hes hi
    ·exact h.elim
   ·exact h.elim
  ·exact h.elim
 ·split at hres
  ·split at hres
   ·simp only [w04,w01,w00] at hres;obtain ⟨x',h3,rfl⟩:=hres;simp [yi] at h
   ·simp only [w04,w01,w00] at hres;obtain ⟨x',h3,rfl⟩:=hres;simp [yi] at h
   ·cases hres
  ·split at hres
   ·simp only [w04,w01,w00] at hres;obtain ⟨x',h3,y',h4,rfl⟩:=hres;simp [yi] at h
   ·simp only [w04,w01,w00] at hres;obtain ⟨x',h3,y',h4,rfl⟩:=hres;simp [yi] at h
   ·cases hres
  ·cases hres
 ·rename_i args ats hop;split at hres
  ·rename_i x k ty ha hat;split at hres
   ·rename_i kt et hu;simp only [w04,w01,w00] at hres;obtain ⟨⟨ks,kag⟩,h1,x',h3,k',h4,rfl⟩:=hres;simp only [yi] at h;split at h
    ·rename_i q cs hx hk;split at h
     ·rename_i kag' es sx hes;obtain ⟨⟨rfl,h6⟩,rfl⟩:=h;exact zfT hop ha hat hu h1 h3 h4 hx hk hes h6
     ·exact h.elim
    ·exact h.elim
   ·cases hres
  ·cases hres
 ·rename_i args ats hop;split at hres
  ·rename_i x ty ha hat;split at hres
   ·rename_i kt et hu;simp only [w04,w01,w00] at hres;obtain ⟨x',h3,rfl⟩:=hres;simp only [yi] at h;split at h
    ·rename_i q hx;split at h
     ·rename_i kag es sx hes;subst h;exact zfB hop ha hat hu h3 hx hes
     ·exact h.elim
    ·exact h.elim
   ·split at hres
    ·split at hres
     ·simp only [w00] at hres;subst hres;simp [yi] at h
     ·cases hres
    ·cases hres
   ·cases hres
  ·cases hres
 ·simp only [w04,w01,w00] at hres;obtain ⟨x',h3,rfl⟩:=hres;simp [yi] at h
 ·simp only [w04,w01,w00] at hres;obtain ⟨x',h3,rfl⟩:=hres;simp [yi] at h
 ·split at hres
  ·simp only [w04,w01,w00] at hres;obtain ⟨x',h3,y',h4,rfl⟩:=hres;simp [yi] at h
  ·simp only [w04,w01,w00] at hres;obtain ⟨x',h3,y',h4,rfl⟩:=hres;simp [yi] at h
  ·cases hres
 ·split at hres
  ·split at hres
   ·simp only [w04,w01,w00] at hres;obtain ⟨x',h3,rfl⟩:=hres;simp [yi] at h
   ·simp only [w00] at hres;subst hres;simp [yi] at h
  ·simp only [w00] at hres;subst hres;simp [yi] at h
 ·simp only [w00] at hres;subst hres;simp [yi] at h
theorem zay {aop:AOp} {out:Out} (hres:ZV P ops o=some aop) (h:evX P base st (· =out) aop):zM P o base st out:=by
 unfold evX at h;split at h
 ·obtain ⟨t,a,b,hop,hn,ha,hb⟩:=zde hres;split at h
  ·rename_i k off hx;split at h
   ·rename_i cs hk;split at h
    ·rename_i vs hvs;obtain ⟨⟨h1,h2⟩,rfl⟩:=h;exact zew hop hn ha hb hx hk hvs (zDT h1) h2
    ·exact h.elim
   ·exact h.elim
  ·exact h.elim
 ·obtain ⟨t,a,hop,ha⟩:=ze5 hres;split at h
  ·rename_i vs hvs;obtain ⟨_,rfl⟩:=h;exact zh7 (n:=0) hop ha hvs
  ·exact h.elim
 ·obtain ⟨t,hop,hz⟩:=zbX hres;subst h;exact zep hop hz
 ·obtain ⟨B⟩:=za5 hres;split at h
  ·rename_i hx;obtain ⟨_,h⟩:=h;split at h
   ·rcases h with h|h
    ·split at h
     ·next he=>subst h;exact zaQ B hx (by simpa using he)
     ·subst h;exact zbf B hx
    ·subst h;exact zfj B hx
   ·subst h;exact zfj B hx
  ·exact h.elim
 ·obtain ⟨A⟩:=z6o hres;split at h
  ·rename_i ys hy;split at h
   ·rename_i hx;obtain ⟨h1,h2,h3,rfl⟩:=h;exact zax A hx hy h1 h2 h3
   ·rename_i k s xs hx;split at h
    ·rename_i n hk;obtain ⟨rfl,rfl,h1,h2,h3,rfl⟩:=h;exact zb3 A hx hk hy h1 h2 h3
    ·exact h.elim
   ·exact h.elim
  ·exact h.elim
 ·obtain ⟨t,e,l,i,hop,ht,hi,hz,rfl,rfl,rfl⟩:=zck hres;split at h
  ·rename_i m hm;obtain ⟨⟨h1,h2,h3,h4⟩,rfl⟩:=h;exact zfH hop ht hi hz hm h1 h2 h3
  ·exact h.elim
 ·obtain ⟨args,ats,hop,ha⟩:=z7o hres;exact zc9 hop ha (zav h)
 ·obtain ⟨t,args,ats,hop,ha,rfl⟩:=zaH hres;split at h
  ·rename_i f hv;exact zcU hop ha hv (z1s h)
  ·rename_i f caps hv;exact zek hop ha hv (z1s h)
  ·exact h.elim
 ·obtain ⟨t,hop⟩:=zbA hres;subst h;exact ze6 hop
 ·obtain ⟨t,kt,et,a,hop,hu,hx⟩:=z8Q hres;split at h
  ·rename_i q hv;split at h
   ·rename_i kag es c bs hes;subst h;exact zcY hop hu hx hv hes
   ·exact h.elim
  ·exact h.elim
 ·obtain ⟨args,ats,t,kt,et,a,hop,ha,hat,hu,hx⟩:=zcA hres;split at h
  ·rename_i hv;subst h;exact zdl (n:=0) hop ha hat hu hx (.inl ⟨hv,rfl⟩)
  ·rename_i q hv;split at h
   ·rename_i kag es sx hes;subst h;exact zdl hop ha hat hu hx (.inr ⟨q,kag,es,sx,hv,hes,rfl⟩)
   ·exact h.elim
  ·exact h.elim
 ·exfalso;unfold ZV at hres
  (repeat' split at hres)<;>simp [w01] at hres
  all_goals try (obtain ⟨_,_,_,_,hres⟩:=hres;split at hres<;>simp [w01] at hres;done)
 ·exact h.elim
theorem We {aop:AOp} (h:qQ P ops o=some aop):ZV P ops o=some aop∨∃nop,aop= .nw nop/\z86 P o=some nop:=by
 unfold qQ at h;split at h
 ·rename_i x hx;simp at h;subst h;exact .inl hx
 ·simp only [w06] at h;obtain ⟨nop,h1,rfl⟩:=h;exact .inr ⟨nop,rfl,h1⟩
theorem Q0 {aop:AOp} (h:qQ P ops o=some aop) (hn:∀nop,aop≠ .nw nop):ZV P ops o=some aop:=by
 rcases We h with h'|⟨nop,h0,_⟩
 ·exact h'
 ·exact absurd h0 (hn nop)
theorem zdg {sz:Nat} {z:List V} {x:Ar} (h:qQ P ops o=some (.nw (.zcc sz z x))):∃ty e a args ats,o.op= .call {callee:= .builtin .clear,args:=args,argTypes:=ats}/\args.toList=[a]/\ats[0]?=some ty/\P.underlying ty=some (.slice e)/\
  ZF P e=some sz/\ZP P e=some z/\z.all V.Zm=true/\opA a=some x:=by
 rcases We h with h'|⟨nop,h0,h'⟩
 ·exfalso;unfold ZV at h'
  (repeat' split at h')<;>simp [w01] at h'
  all_goals try (obtain ⟨_,_,_,_,h'⟩:=h';split at h'<;>simp [w01] at h';done)
 ·injection h0 with h0
  subst h0;unfold z86 at h'
  (repeat' split at h')<;>simp [w01] at h'
  obtain ⟨rfl,rfl,rfl⟩:=h'
  exact ⟨_,_,_,_,_,by assumption,by assumption,by assumption,by assumption,by assumption,by assumption,by assumption,by assumption⟩
theorem zb1 {aop:AOp} {out:Out} (hres:qQ P ops o=some aop) (h:z1Y st base aop out):zM P o base st out:=by
 cases h with
 |stG hx hk hw hv hn ho hc=>
  obtain ⟨t,a,b,hop,hs,ha,hb⟩:=zde (Q0 hres (by simp));exact zgS hop hs ha hb hx hk hw hv hn ho hc
 |zc4 hx hy hc h1 h2=>
  obtain ⟨A⟩:=z6o (Q0 hres (by simp));exact zgn A hx hy h1 h2
 |zcP hx hk hw hl hy hc h1 h2=>
  obtain ⟨A⟩:=z6o (Q0 hres (by simp));exact zgq A hx hk hw hl hy hc h1 h2
 |zb7 h=>
  obtain ⟨B⟩:=za5 (Q0 hres (by simp));exact zfr B h
 |z9t hx hk hw ho=>
  obtain ⟨ty,e,a,args,ats,hop,ha,hat,hu,hs,hz,hzc,hx'⟩:=zdg hres;exact zgp hop ha hat hu hs hz hzc hx' hx hk hw ho
theorem z1O {gc:Bool} {aop:AOp} {v:V} {ps:List Bool} (hres:qQ P ops o=some aop) (he:zk gc st aop=some (v,ps)) (hp:∀q∈ps,q):zD P o gc st v:=by
 rcases We hres with h|⟨nop,rfl,h⟩
 ·exact z7z h he hp
 ·exact z8e h he hp
theorem z9F {aop:AOp} {out:Out} (hres:qQ P ops o=some aop) (h:evX P base st (· =out) aop∨evY base st (· =out) aop):zM P o base st out:=by
 rcases h with h|⟨out',h,rfl⟩
 ·rcases We hres with h'|⟨nop,rfl,h'⟩
  ·exact zay h' h
  ·exact z96 h' h
 ·exact zb1 hres h
theorem z5l {K:Out->Prop} {aop:AOp} (h:evX P base st K aop∨evY base st K aop):∃out,(evX P base st (· =out) aop∨evY base st (· =out) aop)/\K out:=by
 rcases h with h|⟨out,h1,h2⟩
 ·obtain ⟨out,h1,h2⟩:=zcs h;exact ⟨out,.inl h1,h2⟩
 ·exact ⟨out,.inr ⟨out,h1,rfl⟩,h2⟩
theorem z6G {f:FuncId} {args':List Ar} (h:qQ P ops o=some (.call f args')):∃args ats,o.op= .call {callee:= .value (.func f),args:=args,argTypes:=ats}/\args.toList.mapM opA=some args':=by
 rcases We h with h'|⟨nop,h0,h'⟩
 ·exact z7o h'
 ·cases h0
theorem z8s {gc:Bool} {K:Out->Prop} {aop:AOp} (h:Qr P gc base st K aop):∃out,Qr P gc base st (· =out) aop/\K out:=by
 unfold Qr at h⊢;split at h
 ·obtain ⟨out,h1,h2,h3⟩:=h;exact ⟨_,⟨out,h1,h2,rfl⟩,h3⟩
 ·exact h.elim
theorem zcW {ao:AO} {K:Out->Prop} (h:evO P base st ao K):∃out,evO P base st ao (· =out)/\K out:=by
 unfold evO at h;split at h
 ·rename_i hg;unfold evU at h;split at h
  ·rename_i v ps he;refine ⟨_,?_,h.2⟩
   simp only [evO,hg,evU,he];exact ⟨h.1,by simp⟩
  ·rename_i he;obtain ⟨out,h1,h2⟩:=z5l h;refine ⟨out,?_,h2⟩;simp only [evO,hg,evU,he];exact h1
 ·rename_i s want hg;split at h
  ·exact h.elim
  ·rename_i gc hc;split at h
   ·rename_i v ps he;refine ⟨_,?_,h.2⟩
    simp only [evO,hg,hc,he];exact ⟨h.1,by simp⟩
   ·rename_i he
    rcases h with h|h
    ·obtain ⟨out,h1,h2⟩:=z8s h;refine ⟨out,?_,h2⟩;simp only [evO,hg,hc,he];exact Or.inl h1
    cases gc with
    |true=>
     obtain ⟨out,h1,h2⟩:=z5l (h.1 rfl);refine ⟨out,?_,h2⟩
     simp only [evO,hg,hc,he];exact Or.inr ⟨fun _=>h1,by simp⟩
    |false=>
     refine ⟨_,?_,h.2 Z⟩
     simp only [evO,hg,hc,he];exact Or.inr ⟨by simp,fun _=>by simp⟩
theorem z6y {C:Ctx} {Λ:L} {a:Act} (hr:Rel C Λ st a) {j s:Nat} (hj:(ops[j]?).bind (·.dst)=some s) {want gc:Bool} (hg:z51 want (look st.env s)=some gc) (hlt:s<C.n):
  (yielded ops a.tmps j==some want)=gc:=by
 have hs:=hr.env s
 have hget:a.tmps[s]?=some (a.tmps.getD s undef):=by
  rw [w1p];rw [Array.getElem?_eq_getElem (by rw [hr.size];exact hlt)];simp
 unfold yielded;rw [hj];simp only [Option.bind_some,hget];generalize a.tmps.getD s undef=u at hs;unfold z51 at hg;split at hg
 ·rename_i b hl;rw [hl] at hs;have:=hs.ZL.Yj;subst this;simp at hg;subst hg
  cases b<;>cases want<;>rfl
 ·rename_i c b hl;rw [hl] at hs;simp at hg
  cases hs with
  |gd h1 h2=>
   cases c with
   |true=>
    have:=(h1 rfl).ZL.Yj;subst this;subst hg
    cases b<;>cases want<;>rfl
   |false=>
    have:=h2 rfl;subst this;subst hg
    cases b<;>cases want<;>rfl
 ·rename_i hl;rw [hl] at hs;simp at hg;subst hg
  cases hs with
  |gd h1 h2=>
   have:=h2 rfl;subst this
   cases want<;>rfl
 ·simp at hg
theorem z2f {ao:AO} {out:Out} {i:Nat} (ho:ops[i]?=some o) (hres:z4G P ops o=some ao) (h:evO P base st ao (· =out)) {C:Ctx} {Λ:L} {a:Act} {next:Act->World->Prop} {Q:Exit->Act->World->Prop} (hC:C.P=P) (hr:Rel C Λ st a)
  (hdst:∀(j:Nat) (p:Oper) (d:Nat),ops[j]?=some p->p.dst=some d->d<C.n)
  (hle:base+out.n<=Λ.nxt) (hfree:∀k,base<=k->k<base+out.n->k<Λ.nxt/\ZU Λ k/\zj st.s.sto k=none)
  (hnext:∀v Λ',Kp Λ Λ'->Λ'.nxt=Λ.nxt->zT Λ' (st.s.app out)->zr Λ' v out.v->(∀k,ZU Λ k->zj st.s.sto k=none->(base+out.n<=k∨(k<base/\out.rd=false))->ZU Λ' k)->next (a.put o.dst v) Λ'.w):
  ao.dst=o.dst/\wpOp P ops Q i next a Λ.w:=by
 unfold z4G at hres;split at hres
 ·simp at hres
 ·rename_i aop hop;split at hres
  ·rename_i hg;simp at hres;subst hres;refine ⟨rfl,?_⟩
   have hw:Region.wanted o (yielded ops a.tmps)=true:=by simp [Region.wanted,hg]
   simp only [wpOp,ho,hw,w17];refine .inl ?_;simp only [evO,evU] at h;split at h
   ·rename_i v ps he;obtain ⟨h1,rfl⟩:=h;exact zM.zg6 (z1O hop he (WA h1)) C Λ a next Q hC hr hle hfree hnext
   ·exact z9F hop h C Λ a next Q hC hr hle hfree hnext
  ·rename_i j want hg;split at hres
   ·rename_i s hs;simp at hres;subst hres;refine ⟨rfl,?_⟩;simp only [evO] at h;split at h
    ·exact h.elim
    ·rename_i gc hc
     have hlt:s<C.n:=by
      cases hop':ops[j]? with
      |none=>rw [hop'] at hs;simp at hs
      |some p=>rw [hop'] at hs;exact hdst j p s hop' (by simpa using hs)
     have hy:=z6y hr hs hc hlt
     have hw:Region.wanted o (yielded ops a.tmps)=gc:=by simp only [Region.wanted,hg];exact hy
     simp only [wpOp,ho,hw];split at h
     ·rename_i v ps he;obtain ⟨h1,rfl⟩:=h
      cases gc with
      |true=>
       simp only [w17];refine .inl ?_
       have hps:∀q∈ps,q=true:=by
        intro q hq;have:=WA h1 (!true||q) (w0m.2 ⟨q,hq,rfl⟩);simpa using this
       refine zM.zg6 (r:=Z2 st aop) (z1O hop he hps) C Λ a next Q hC hr (by simp at hle⊢;omega) (fun k h1 h2=>by simp at h2;omega) fun v' Λ' a1 a2 a3 a4 a5=>hnext v' Λ' a1 a2 a3 (.gd (fun _=>a4) (by simp)) a5
      |false=>
       simp only [w0h,w0x];exact hnext undef Λ (Kp.refl _) Z hr.s (.gd (by simp) (fun _=>rfl)) (fun _ h _ _=>h)
     ·rcases h with h|h
      ·unfold Qr at h;split at h
       ·rename_i fid args0 _;obtain ⟨out0,k1,⟨k2,k3⟩,rfl⟩:=h;obtain ⟨args,ats,hop',ha⟩:=z6G hop
        cases gc with
        |true=>
         simp only [w17]
         have hf:wc P fid (yk st args0) base st.s.sto out0:=by
          have:=k1 rfl;split at this
          ·exact this
          ·exact this _
         have hso:zM P o base st out0:=zc9 hop' ha hf;refine .inl (hso C Λ a next Q hC hr hle hfree fun v' Λ' a1 a2 a3 a4 a5=>hnext v' Λ' a1 a2 a3 (.gd (fun _=>a4) (by simp)) a5)
        |false=>
         simp only [w0h,w0x];refine hnext undef Λ (Kp.refl _) Z ?_ (.gd (by simp) (fun _=>rfl)) (fun _ h _ _=>h);simp only [S.app,k2,Zf];exact hr.s
       ·exact h.elim
      cases gc with
      |true=>
       simp only [w17];exact .inl (z9F hop (h.1 Z) C Λ a next Q hC hr hle hfree hnext)
      |false=>
       simp only [w0h,w0x];have:=h.2 rfl;subst this;exact hnext undef Λ (Kp.refl _) Z hr.s (.gd (by simp) (fun _=>rfl)) (fun _ h _ _=>h)
   ·simp at hres
end
end Go.GB
