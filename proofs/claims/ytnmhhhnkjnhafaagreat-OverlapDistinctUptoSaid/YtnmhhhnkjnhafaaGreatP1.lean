/-
  YtnmhhhnkjnhafaaGreatP1: lemmas. No conditions.
-/
import Derived.Test.YtnmhhhnkjnhafaaGreatP0
import Derived.Laws.StructEq
import Derived.MapKept
import Derived.Laws.Externs
import Derived.KernelRfl
import Derived.Laws.BytesArg
import Derived.Maps.RangeRun
import Derived.LaidEqlPtr
set_option linter.all false
set_option maxRecDepth 100000
set_option maxHeartbeats 16000000
namespace Go.GB
def zR (P:Program) (o:Oper) (base:Nat) (st:St) (out:Out):Prop:=
 ∀(C:Ctx) (Λ:L) (a:Act) (next:Act->World->Prop) (Q:Exit->Act->World->Prop),C.P=P->Rel C Λ st a->base+out.n<=Λ.nxt->(∀k,base<=k->k<base+out.n->k<Λ.nxt/\y9 Λ k/\zi st.s.sto k=none)->
  (∀v Λ',Kp Λ Λ'->Λ'.nxt=Λ.nxt->Z4 Λ' (st.s.app out)->zn Λ' v out.v->(∀k,y9 Λ k->zi st.s.sto k=none->(base+out.n<=k∨(k<base/\out.rd=false))->y9 Λ' k)->next (a.put o.dst v) Λ'.w)->
  o.wp P a Λ.w next Q
section
variable {P:Program} {o:Oper} {base:Nat} {st:St}
theorem S.z3i {s:S} {v:V} {r:Bool}:s.app {v:=v,rd:=r}=s:=rfl
theorem zR.zd9 {x:V} {r:Bool} (h:zC P o true st x):zR P o base st {v:=x,rd:=r}:=by
 intro C Λ a next Q hC hr _ _ hn;obtain ⟨v,h1,h2⟩:=h C Λ a hC rfl hr;unfold Oper.wp;rw [h1];exact hn v Λ (Kp.refl _) Z hr.s h2 (fun _ h _ _=>h)
theorem zn.Wm {Λ:L} {v:Value} {x:V} (h:zn Λ v x) (hx:x.ZJ=true):v.oneCell'=true:=by
 cases h with
 |t h=>cases h<;>rfl
 |zV=>rfl
 |own h _ _ _ _=>cases h;rfl
 |slc _ _ _=>rfl
 |agg _ _=>simp [V.ZJ] at hx
 |tup _ _=>simp [V.ZJ] at hx
 |ptr _ _=>rfl
 |mp _ _=>rfl
 |fn _ _=>rfl
 |gd _ _=>simp [V.ZJ] at hx
 |top=>simp [V.ZJ] at hx
 |ub _ _=>simp [V.ZJ] at hx
 |ui=>rfl
 |fpt _ _=>rfl
 |gpt hv _ _ _=>obtain ⟨_,rfl⟩:=hv;rfl
 |gsl hv _ _ _=>obtain ⟨_,_,_,rfl⟩:=hv;rfl
 |fow h _ _ _ _=>cases h;rfl
theorem qA:∀(us:List V) (cs:List V) (off j:Nat),off+us.length<=cs.length->(setAt cs off us)[j]?=if off<=j/\j<off+us.length then us[j - off]? else cs[j]?
 |[],cs,off,j,_=>by simp [setAt];omega
 |u::us,cs,off,j,h=>by
  simp only [setAt];rw [qA us (cs.set off u) (off+1) j (by simp at h⊢;omega)];simp only [List.length_cons] at h⊢;by_cases h1:off+1<=j/\j<off+1+us.length
  ·rw [if_pos h1,if_pos (by omega)]
   have:j - off=(j - (off+1))+1:=by omega
   rw [this];simp
  ·rw [if_neg h1,List.getElem?_set];by_cases h2:off=j
   ·subst h2;rw [if_pos rfl,if_pos (by omega),if_pos (by omega)];simp
   ·rw [if_neg h2,if_neg (by omega)]
theorem zbw {t:TypeId} {x y:Operand} {x' y':Ar} {n k off:Nat} {cs vs:List V} (ho:o.op= .store t x y) (hn:Zs P t=some n) (hx:opA x=some x') (hy:opA y=some y')
  (hxv:x'.u st= .ptr k off) (hk:zi st.s.sto k=some (.cells cs)) (hvs:(y'.u st).parts=some vs) (hl:vs.length=n/\off+n<=cs.length) (hok:vs.all V.ZJ=true):
  zR P o base st {v:= .top,ob:=[(k,.cells (setAt cs off vs))],rd:=true}:=by
 intro C Λ a next Q hC hr _ _ hnext;have hx1:=hr.opu hx;have hy1:=(hr.opu hy).parts hvs;rw [hxv] at hx1;generalize hv:a.eval x=v at hx1
 cases hx1 with
 |@ptr b _ _ hkn hb=>
  obtain ⟨arr,e,h2,h3,h4⟩:=hr.s.WM hk hb
  have hone:∀u∈(a.eval y).cells.toList,u.oneCell'=true:=by
   intro u hu;obtain ⟨j,hj⟩:=List.mem_iff_getElem?.1 hu
   have hj':(a.eval y).cells[j]?=some u:=by simpa using hj
   have hlt:j<vs.length:=by rw [←hy1.1];exact (Array.getElem?_eq_some_iff.1 hj').1
   have:=hy1.2 j u vs[j] hj' (by simp [hlt]);exact this.Wm (by rw [List.all_eq_true] at hok;exact hok _ (List.getElem_mem hlt))
  have hsz:(a.eval y).cells.size=n:=by rw [hy1.1];exact hl.1
  have hst:=run_storeCells_at P b off e (a.eval y).cells.toList 0 arr Λ.w h2 (by simp [hsz];omega) hone;simp only [Nat.add_zero] at hst
  have hrun:(execOp a.eval o).run P Λ.w= .ok .skip (Λ.w.setRow b (arr.toList.take off++(a.eval y).cells.toList++arr.toList.drop (off+(a.eval y).cells.toList.length)).toArray):=by
   simp only [execOp,ho,hv];simp [Instr.storeAt,Instr.sureAddr,storeVar,yv hn,hsz,hst]
  unfold Oper.wp;rw [hrun]
  have hkp:Kp Λ {Λ with w:=Λ.w.setRow b (arr.toList.take off++(a.eval y).cells.toList++arr.toList.drop (off+(a.eval y).cells.toList.length)).toArray}:=Kp.wrote (Yp.setRow _ _ _) hb
  have hF:Zb Λ {Λ with w:=Λ.w.setRow b (arr.toList.take off++(a.eval y).cells.toList++arr.toList.drop (off+(a.eval y).cells.toList.length)).toArray}:=Zb.wrote (Yp.setRow _ _ _) hb
  refine hnext undef _ hkp Z ?_ .top (fun k h _ _=>h.yq hF h.obj h.arr h.fro);refine hr.s.step hkp Z (fun j ob hj=>?_) hr.s.inj (fun c hc=>hr.s.new c (by simpa using hc)) hr.s.bnd hr.s.frz hF;simp only [S.app,Zj] at hj;rw [Zh] at hj;split at hj
  ·rename_i e;subst e;simp at hj;subst hj;refine .inr ⟨hkn,b,_,e,hb,setRow_heap _ _ _ _ _ _ h2,?_,?_⟩
   ·simp [Yd,hsz];omega
   ·intro j u c hu hc;rw [qA _ _ _ _ (by omega)] at hc
    have hu':(arr.toList.take off++(a.eval y).cells.toList++arr.toList.drop (off+(a.eval y).cells.toList.length))[j]?=some u:=by simpa using hu
    have hln:(a.eval y).cells.toList.length=n:=by simpa using hsz
    have hlt:(arr.toList.take off).length=off:=by simp;omega
    split at hc
    ·rename_i hj;rw [List.append_assoc,List.getElem?_append_right (by omega),hlt,List.getElem?_append_left (by omega)] at hu';exact (hy1.2 _ u c (by simpa using hu') hc).mono hkp
    ·rename_i hj;refine (h4 j u c ?_ hc).mono hkp;by_cases hj1:j<off
     ·rw [List.append_assoc,List.getElem?_append_left (by omega),List.getElem?_take,if_pos hj1] at hu';simpa using hu'
     ·rw [List.getElem?_append_right (by simp;omega),List.getElem?_drop] at hu'
      have:off+(a.eval y).cells.toList.length+(j - (arr.toList.take off++(a.eval y).cells.toList).length)=j:=by simp;omega
      rw [this] at hu';simpa using hu'
  ·rename_i hne;refine .inl ⟨hj,fun c hc=>?_,rfl⟩
   have:c≠b:=by rintro rfl;rw [hb] at hc;simp at hc;exact hne hc
   exact setRow_other _ _ _ _ this
theorem qC {Λ:L} {s:S} {w':World} {ob:Obj} {k:Nat} {ao:z3} (h:Z4 Λ s) (g:yA Λ.w w' ob) (hk:k<Λ.nxt) (hf:y9 Λ k) {Λ':L} (hΛ:Λ'={Λ with lab:=zZ Λ.lab Λ.w.heap.size (.obj k),w:=w'})
  (ho:W5 Λ' k ao):
  Kp Λ Λ'/\Z4 Λ' {s with sto:=yC s.sto k ao}/\∀j,y9 Λ j->j≠k->y9 Λ' j:=by
 subst hΛ;have hkp:=Kp.new g h.new (.obj k);have hF:=Zb.new g h.new (.obj k) rfl;refine ⟨hkp,h.step hkp Z (fun j ob' hj=>?_) (fun b b' j h1 h2=>?_) (fun b hb=>?_) (fun b j hb=>?_) h.frz hF,fun j hj hne=>hj.yq hF (fun b hb=>?_) (fun b n hb=>?_) hj.fro⟩
 ·simp only at hj;rw [Zh] at hj;split at hj
  ·rename_i e;subst e;simp at hj;subst hj;exact .inr ⟨hk,ho⟩
  ·refine .inl ⟨hj,fun b hb=>g.old ?_,rfl⟩
   rcases Nat.lt_or_ge b Λ.w.heap.size with h'|h'
   ·exact h'
   ·rw [h.new b h'] at hb;simp at hb
 ·by_cases e1:b=Λ.w.heap.size
  ·by_cases e2:b'=Λ.w.heap.size
   ·omega
   ·simp only [zu e2] at h2;subst e1;simp only [zo] at h1;simp at h1;subst h1;exact absurd h2 (hf.obj b')
  ·simp only [zu e1] at h1;by_cases e2:b'=Λ.w.heap.size
   ·subst e2;simp only [zo] at h2;simp at h2;subst h2;exact absurd h1 (hf.obj b)
   ·simp only [zu e2] at h2;exact h.inj b b' j h1 h2
 ·simp only at hb⊢;rw [g.size] at hb;rw [zu (by omega)];exact h.new b (by omega)
 ·by_cases e:b=Λ.w.heap.size
  ·subst e;simp only [zo] at hb;rcases hb with hb|⟨n,hb⟩<;>simp at hb;omega
  ·simp only [zu e] at hb;exact h.bnd b j hb
 ·by_cases e:b=Λ.w.heap.size
  ·subst e;simp only [zo] at hb;simp at hb;exact hne hb.symm
  ·simp only [zu e] at hb;exact hj.obj b hb
 ·by_cases e:b=Λ.w.heap.size
  ·subst e;simp only [zo] at hb;simp at hb
  ·simp only [zu e] at hb;exact hj.arr b n hb
theorem zdT {t:TypeId} {x:Operand} {x':Ar} {n:Nat} {vs:List V} (ho:o.op= .box t x) (hx:opA x=some x') (hvs:(x'.u st).parts=some vs):
  zR P o base st {v:= .ptr base 0,ob:=[(base,.cells vs)],n:=n+1}:=by
 intro C Λ a next Q hC hr hle hfree hnext;have hx1:=(hr.opu hx).parts hvs
 have hrun:(execOp a.eval o).run P Λ.w= .ok (.value (.pointer (some ⟨Λ.w.heap.size,0,none⟩))) (Λ.w.alloc (.cells (a.eval x).cells t)):=by
  simp only [execOp,ho];simp [Instr.box,newVar,newRow]
 unfold Oper.wp;rw [hrun];obtain ⟨hb1,hb2,hb3⟩:=hfree base (Nat.le_refl _) (by simp);have g:=yA.alloc Λ.w (.cells (a.eval x).cells t);have hkp:=Kp.new g hr.s.new (.obj base)
 obtain ⟨k1,k2,k3⟩:=qC hr.s g hb1 hb2 rfl (ao:= .cells vs) ⟨Λ.w.heap.size,_,_,by simp [zo],g.top,hx1.1,fun j v c e1 e2=>(hx1.2 j v c e1 e2).mono hkp⟩
 exact hnext _ _ k1 Z k2 (.ptr hb1 (by simp [zo])) (fun k hk _ hlt=>k3 k hk (by simp at hlt;omega))
theorem zaU {t:TypeId} {zs:List V} (ho:o.op= .alloc t) (hz:ZK P t=some zs):zR P o base st {v:= .ptr base 0,ob:=[(base,.cells zs)],n:=1}:=by
 intro C Λ a next Q hC hr hle hfree hnext;obtain ⟨i,z,hi,hz1,hlen,hok⟩:=y4 hz
 have hrun:(execOp a.eval o).run P Λ.w= .ok (.value (.pointer (some ⟨Λ.w.heap.size,0,none⟩))) (Λ.w.alloc (.cells z.cells t)):=by
  simp only [execOp,ho];simp [Instr.alloc,zeroValue,typeInfo,hi,hz1,newVar,newRow]
 unfold Oper.wp;rw [hrun];obtain ⟨hb1,hb2,hb3⟩:=hfree base (Nat.le_refl _) (by simp);have g:=yA.alloc Λ.w (.cells z.cells t);have hrc:=fun Λ':L=>yc (Λ:=Λ') hok
 obtain ⟨k1,k2,k3⟩:=qC hr.s g hb1 hb2 rfl (ao:= .cells zs) ⟨Λ.w.heap.size,_,_,by simp [zo],g.top,(hrc Λ).1,fun j v c e1 e2=>(hrc _).2 j v c e1 e2⟩
 exact hnext _ _ k1 Z k2 (.ptr hb1 (by simp [zo])) (fun k hk _ hlt=>k3 k hk (by simp at hlt;omega))
end
section
variable {P:Program} {o:Oper} {base:Nat} {st:St}
theorem YR {α:Type} {sz:Nat}:∀(xs:List (List α)),(∀(i:Nat) (c:List α),xs[i]?=some c->c.length=sz)->∀(i j:Nat) (c:List α) (x:α),xs[i]?=some c->c[j]?=some x->xs.flatten[i*sz+j]?=some x
 |[],_,i,j,c,x,h,_=>by simp at h
 |d::r,hs,0,j,c,x,h,hj=>by
  simp at h;subst h;have hl:=hs 0 d rfl;have hjl:=(List.getElem?_eq_some_iff.1 hj).1;simp only [List.flatten_cons,Nat.zero_mul,Nat.zero_add];rw [List.getElem?_append_left hjl];exact hj
 |d::r,hs,i+1,j,c,x,h,hj=>by
  have hl:=hs 0 d rfl;have ih:=YR r (fun i c hc=>hs (i+1) c (by simpa using hc)) i j c x (by simpa using h) hj;simp only [List.flatten_cons];rw [List.getElem?_append_right (by rw [hl,Nat.add_mul];omega)]
  have:(i+1)*sz+j - d.length=i*sz+j:=by rw [hl,Nat.add_mul];omega
  rw [this];exact ih
theorem ZG {α:Type} {sz:Nat}:∀(xs:List (List α)),(∀(i:Nat) (c:List α),xs[i]?=some c->c.length=sz)->xs.flatten.length=xs.length*sz
 |[],_=>by simp
 |d::r,hs=>by
  have hl:=hs 0 d rfl;have ih:=ZG r (fun i c hc=>hs (i+1) c (by simpa using hc));simp only [List.flatten_cons,List.length_append,List.length_cons,ih,hl,Nat.add_mul];omega
theorem yM {l:Nat->Lab} {w:World} {b n cap sz:Nat} {arr:Array Value} {e:TypeId} {fz:Nat×Nat} {xs:List (List T)} {vs:List Value} (hb:w.heap[b]?=some (.cells arr e fz)) (hcap:n<=cap) (hn:xs.length=n)
  (hsz:∀(i:Nat) (c:List T),xs[i]?=some c->c.length=sz) (hr:∀o,o<n*sz->Rd l b o) (hv:∀(j:Nat) (v:Value),vs[j]?=some v->arr[j]?=some v) (hvl:vs.length=n*sz)
  (hx:∀(j:Nat) (v:Value) (x:T),vs[j]?=some v->xs.flatten[j]?=some x->zO l w v x):zO l w (.slice (some ⟨b,0,none⟩) n cap) (.lst xs):=by
 subst hn
 have hlt:∀(i j:Nat) (c:List T) (x:T),xs[i]?=some c->c[j]?=some x->i*sz+j<vs.length:=by
  intro i j c x h1 h2;have e1:=YR xs hsz i j c x h1 h2;have:=(List.getElem?_eq_some_iff.1 e1).1;rw [ZG xs hsz] at this;omega
 refine .lst _ cap sz xs b 0 (fun i j=>vs.getD (i*sz+j) undef) hcap hsz (fun _ _ _ _ _ _=>rfl) ?_ ?_ ?_
 ·intro i j c x h1 h2;exact hr _ (by have:=hlt i j c x h1 h2;omega)
 ·intro i j c x h1 h2;have h3:=hlt i j c x h1 h2;rw [cell_of_row w b _ arr e fz hb,Nat.zero_add];rw [hv _ (vs[i*sz+j]) (by simp [h3])];simp [h3]
 ·intro i j c x h1 h2;have h3:=hlt i j c x h1 h2;exact hx (i*sz+j) _ x (by simp [h3]) (YR xs hsz i j c x h1 h2)
theorem zO.cells {l:Nat->Lab} {w:World} {v:Value} {sz:Nat} {xs:List (List T)} (h:zO l w v (.lst xs)) (hsz:∀(i:Nat) (c:List T),xs[i]?=some c->c.length=sz) (h0:0<xs.length) (hs0:0<sz):
  ∃(b off cap:Nat) (vs:List Value),v= .slice (some ⟨b,off,none⟩) xs.length cap/\xs.length<=cap/\vs.length=xs.length*sz/\(∀(j:Nat) (u:Value),vs[j]?=some u->w.cell? ⟨b,off+j,none⟩=some u/\Rd l b (off+j))/\
   (∀(j:Nat) (u:Value) (x:T),vs[j]?=some u->xs.flatten[j]?=some x->zO l w u x):=by
 cases h with
 |lst a cap sz' _ b off vf hcap hsz' ha hr hc hrep=>
  have hc0:xs[0]?=some xs[0]:=by simp [h0]
  have e0:sz'=sz:=by rw [←hsz' 0 _ hc0,←hsz 0 _ hc0]
  subst e0
  have hl0:0<xs[0].length:=by rw [hsz 0 _ hc0];exact hs0
  have ea:=ha 0 0 xs[0] xs[0][0] hc0 (by simp [hl0]);subst ea
  have hdm:∀j,j<xs.length*sz'->j/sz'<xs.length/\j%sz'<sz'/\j/sz'*sz'+j%sz'=j:=by
   intro j hj
   refine ⟨Nat.div_lt_of_lt_mul (by rwa [Nat.mul_comm] at hj),Nat.mod_lt _ hs0,by rw [Nat.mul_comm];exact Nat.div_add_mod j sz'⟩
  have hat:∀j,(hj:j<xs.length*sz')->∃c x,xs[j/sz']?=some c/\c[j%sz']?=some x:=by
   intro j hj;obtain ⟨d1,d2,d3⟩:=hdm j hj
   refine ⟨xs[j/sz'],xs[j/sz'][j%sz']'(by rw [hsz (j/sz') _ (by simp [d1])];exact d2),by simp [d1],by simp⟩
  refine ⟨b,off,cap,(List.range (xs.length*sz')).map fun j=>vf (j/sz') (j%sz'),rfl,hcap,by simp,fun j u hu=>?_,fun j u x hu hx=>?_⟩
  ·have hj:j<xs.length*sz':=by
    have:=(List.getElem?_eq_some_iff.1 hu).1;simpa using this
   rw [List.getElem?_map,List.getElem?_range hj] at hu;simp at hu;subst hu;obtain ⟨c,x,e1,e2⟩:=hat j hj;have e3:=hc _ _ c x e1 e2;have e4:=hr _ _ c x e1 e2;rw [Nat.add_assoc,(hdm j hj).2.2] at e3 e4;exact ⟨e3,e4⟩
  ·have hj:j<xs.length*sz':=by
    have:=(List.getElem?_eq_some_iff.1 hx).1
    rwa [ZG xs hsz] at this
   rw [List.getElem?_map,List.getElem?_range hj] at hu;simp at hu;subst hu;obtain ⟨c,y,e1,e2⟩:=hat j hj;have e3:=YR xs hsz _ _ c y e1 e2;rw [(hdm j hj).2.2,hx] at e3;simp at e3;subst e3;exact hrep _ _ c x e1 e2
theorem z3H {Λ Λ1:L} {s:S} {w':World} {ob:Obj} {k n fr:Nat} (h:Z4 Λ s) (h1:Kp Λ Λ1) (F1:Zb Λ Λ1) (hw:Λ1.w=Λ.w) (hx:Λ1.nxt=Λ.nxt) (hf:Λ1.fro=Zz Λ.fro k n)
  (hlab:∀b,Λ1.lab b=Λ.lab b∨(∃m fr,Λ.lab b= .arr k m/\Λ1.lab b= .fix fr)) (g:yA Λ.w w' ob) (hk:k<Λ.nxt) {Λ':L} (hΛ:Λ'={lab:=zZ Λ1.lab Λ.w.heap.size (.arr k fr),fro:=Λ1.fro,nxt:=Λ.nxt,w:=w',frf:=Λ1.frf}):
  Kp Λ Λ'/\Z4 Λ' {s with sto:=yC s.sto k (.arr n)}/\∀j,y9 Λ j->j≠k->y9 Λ' j:=by
 subst hΛ
 have hnew1:∀b,Λ.w.heap.size<=b->Λ1.lab b= .fix none:=by
  intro b hb
  rcases hlab b with e|⟨m,f,e,_⟩
  ·rw [e];exact h.new b hb
  ·rw [h.new b hb] at e;simp at e
 have hF:Zb Λ {lab:=zZ Λ1.lab Λ.w.heap.size (.arr k fr),fro:=Λ1.fro,nxt:=Λ.nxt,w:=w',frf:=Λ1.frf}:=by
  have h2:=Zb.new (Λ:=Λ1) (w':=w') (o:=ob) (by rw [hw];exact g) (by rw [hw];exact hnew1) (.arr k fr) rfl;have h3:=F1.trans h2 (by rw [hw];exact Nat.le_refl _);rw [hw,hx] at h3;exact h3
 have hkp:Kp Λ {lab:=zZ Λ1.lab Λ.w.heap.size (.arr k fr),fro:=Λ1.fro,nxt:=Λ.nxt,w:=w',frf:=Λ1.frf}:=by
  have h2:=Kp.new (Λ:=Λ1) (w':=w') (o:=ob) (by rw [hw];exact g) (by rw [hw];exact hnew1) (.arr k fr);have h3:=h1.trans h2;rw [hw,hx] at h3;exact h3
 have hobj:∀b j,zZ Λ1.lab Λ.w.heap.size (.arr k fr) b= .obj j->Λ.lab b= .obj j:=by
  intro b j hb;by_cases e:b=Λ.w.heap.size
  ·subst e;rw [zo] at hb;simp at hb
  ·rw [zu e] at hb
   rcases hlab b with e|⟨m,f,_,e⟩
   ·rw [←e];exact hb
   ·rw [e] at hb;simp at hb
 have harr:∀b j m,zZ Λ1.lab Λ.w.heap.size (.arr k fr) b= .arr j m->j=k∨Λ.lab b= .arr j m:=by
  intro b j m hb;by_cases e:b=Λ.w.heap.size
  ·subst e;rw [zo] at hb;simp at hb;exact .inl hb.1.symm
  ·rw [zu e] at hb
   rcases hlab b with e|⟨m,f,_,e⟩
   ·rw [e] at hb;exact .inr hb
   ·rw [e] at hb;simp at hb
 refine ⟨hkp,h.step hkp Z (fun j ob' hj=>?_) (fun b b' j e1 e2=>h.inj b b' j (hobj b j e1) (hobj b' j e2)) (fun b hb=>?_) (fun b j hb=>?_) (fun j hj=>?_) hF,fun j hj hne=>hj.yq hF (fun b hb=>hj.obj b (hobj b j hb)) (fun b m hb=>?_) ?_⟩
 ·simp only at hj;rw [Zh] at hj;split at hj
  ·rename_i e;subst e;simp at hj;subst hj
   exact .inr ⟨hk,by simp only [W5,hf,z1e]⟩
  ·rename_i hne
   refine .inl ⟨hj,fun b hb=>g.old ?_,by simp only [hf];exact W4 (Ne.symm hne)⟩
   rcases Nat.lt_or_ge b Λ.w.heap.size with h'|h'
   ·exact h'
   ·rw [h.new b h'] at hb;simp at hb
 ·simp only at hb⊢;rw [g.size] at hb;rw [zu (by omega)];exact hnew1 b (by omega)
 ·rcases hb with hb|⟨m,hb⟩
  ·exact h.bnd b j (.inl (hobj b j hb))
  ·rcases harr b j m hb with rfl|hb'
   ·exact hk
   ·exact h.bnd b j (.inr ⟨m,hb'⟩)
 ·simp only [hf];rw [W4 (by omega)];exact h.frz j hj
 ·rcases harr b j m hb with rfl|hb'
  ·exact hne Z
  ·exact hj.arr b m hb'
 ·simp only [hf];rw [W4 hne];exact hj.fro
theorem zap {Λ:L} {s:S} {w':World} {b k n fr fr':Nat} (h:Z4 Λ s) (g:Yp Λ.w w' b) (hb:Λ.lab b= .arr k fr) (hfr:fr<=fr') (hc:∀o,o<fr->w'.cell? ⟨b,o,none⟩=Λ.w.cell? ⟨b,o,none⟩) (hn:Λ.fro k<n)
  {Λ':L} (hΛ:Λ'={Λ with lab:=zZ Λ.lab b (.arr k fr'),fro:=Zz Λ.fro k n,w:=w'}):
  Kp Λ Λ'/\Z4 Λ' {s with sto:=yC s.sto k (.arr n)}/\∀j,y9 Λ j->y9 Λ' j:=by
 subst hΛ;have hkp:=Kp.grown g hb hfr hc hn;have hF:=Zb.grown (fr':=fr') (n:=n) g hb;have hk:k<Λ.nxt:=h.bnd b k (.inr ⟨_,hb⟩)
 have hobj:∀c j,zZ Λ.lab b (.arr k fr') c= .obj j->Λ.lab c= .obj j/\c≠b:=by
  intro c j hc;by_cases e:c=b
  ·subst e;rw [zo] at hc;simp at hc
  ·rw [zu e] at hc;exact ⟨hc,e⟩
 have harr:∀c j m,zZ Λ.lab b (.arr k fr') c= .arr j m->∃m',Λ.lab c= .arr j m':=by
  intro c j m hc;by_cases e:c=b
  ·subst e;rw [zo] at hc;simp at hc;rw [←hc.1];exact ⟨_,hb⟩
  ·rw [zu e] at hc;exact ⟨_,hc⟩
 refine ⟨hkp,h.step hkp Z (fun j ob' hj=>?_) (fun c c' j e1 e2=>h.inj c c' j (hobj c j e1).1 (hobj c' j e2).1) (fun c hcc=>?_) (fun c j hc=>?_) (fun j hj=>?_) hF,fun j hj=>hj.yq hF (fun c hc=>hj.obj c (hobj c j hc).1) (fun c m hc=>?_) ?_⟩
 ·simp only at hj;rw [Zh] at hj;split at hj
  ·rename_i e;subst e;simp at hj;subst hj
   exact .inr ⟨hk,by simp only [W5,z1e]⟩
  ·rename_i hne;refine .inl ⟨hj,fun c hcc=>g.old c ?_,W4 (Ne.symm hne)⟩;intro e;rw [e,hb] at hcc;simp at hcc
 ·simp only at hcc⊢;rw [g.size] at hcc
  have:c≠b:=by intro e;rw [e] at hcc;rw [h.new _ hcc] at hb;simp at hb
  rw [zu this];exact h.new c hcc
 ·rcases hc with hc|⟨m,hc⟩
  ·exact h.bnd c j (.inl (hobj c j hc).1)
  ·obtain ⟨m',e⟩:=harr c j m hc;exact h.bnd c j (.inr ⟨m',e⟩)
 ·show Zz Λ.fro k n j=0;rw [W4 (by omega)];exact h.frz j hj
 ·obtain ⟨m',e⟩:=harr c j m hc;exact hj.arr c m' e
 ·have:j≠k:=by rintro rfl;exact hj.arr b fr hb
  show Zz Λ.fro k n j=0;rw [W4 this];exact hj.fro
end
section
variable {P:Program} {o:Oper} {base:Nat} {st:St}
theorem Z0 {t ty:TypeId} {x y:Operand} {args:Array Operand} {ats:Array TypeId} {a:Act} {w w':World} {r:Value} (ho:o.op= .call {callee:= .builtin .append,args:=args,argTypes:=ats}) (hty:o.type=ty)
  (ha:args.toList=[x,y]) (hat:ats.toList=[t,t]) (h:(Builtin.append_ #[t,t] ty #[a.eval x,a.eval y]).run P w= .ok r w'):(execOp a.eval o).run P w= .ok (.value r) w':=by
 have e1:args.map a.eval=#[a.eval x,a.eval y]:=by apply Array.ext';simp [ha]
 have e2:ats=#[t,t]:=by apply Array.ext';simp [hat]
 subst e2;subst hty;simp only [execOp,ho,resolve,Sem.run_bind,Sem.run_pure,Result.andThen_ok,invoke,builtin,e1];simp [h]
theorem yw {t ty e:TypeId} {i:TypeInfo} (ht:P.underlying t=some (.slice e)) (hi:P.info? e=some i) (b:Option Addr) (n cap:Nat) (hn:n<=cap) (a:Option Addr) (c:Nat) (w:World):
  (Builtin.append_ #[t,t] ty #[.slice b n cap,.slice a 0 c]).run P w= .ok (.slice b n cap) w:=by
 cases a with
 |none=>cases b<;>simp [Builtin.append_,run_underlying ht,sizeOf,typeInfo,hi,Builtin.lenOf,hn,Builtin.firstCells,storeCells]
 |some a=>
  have hl:(loadCells a 0).run P w= .ok #[] w:=by
   have:=run_loadCells_list (P:=P) w a [] (by simp);simpa using this
  cases b<;>simp [Builtin.append_,run_underlying ht,sizeOf,typeInfo,hi,Builtin.lenOf,hn,Builtin.firstCells,hl,storeCells]
theorem Yx {t ty e e':TypeId} {i:TypeInfo} (w:World) (ht:P.underlying t=some (.slice e)) (hi:P.info? e=some i)
  (g sLen sCap:Nat) (cur:Array Value) (hg:w.heap[g]?=some (.cells cur e' (0,0)))
  (a:Addr) (m c:Nat) (news:List Value) (hl:news.length=m*i.size) (hnews:∀j u,news[j]?=some u->w.cell? (a.add j)=some u) (h1:∀u∈news,u.oneCell'=true)
  (hroom:sLen+m<=sCap) (hfit:sLen*i.size+news.length<=cur.size):
  (Builtin.append_ #[t,t] ty #[.slice (some ⟨g,0,none⟩) sLen sCap,.slice (some a) m c]).run P w=
   .ok (.slice (some ⟨g,0,none⟩) (sLen+m) sCap) (w.setRow g (cur.toList.take (sLen*i.size)++news++cur.toList.drop (sLen*i.size+news.length)).toArray):=by
 have hf:=run_firstCells_some (P:=P) w i.size m a m c news hl hnews;have hst:=run_storeCells_at P g (sLen*i.size) e' news 0 cur w hg (by simpa using hfit) h1;simp only [Nat.add_zero] at hst;simp [Builtin.append_,run_underlying ht,sizeOf,typeInfo,hi,Builtin.lenOf,hroom,hf,Addr.add_lit,hst]
theorem zO.Wm {l:Nat->Lab} {w:World} {v:Value} {x:T} (h:zO l w v x):v.oneCell'=true:=by cases h<;>rfl
structure z0j (P:Program) (o:Oper) (sz bytes:Nat) (x' y':Ar) where
 x:Operand
 y:Operand
 args:Array Operand
 ats:Array TypeId
 t:TypeId
 e:TypeId
 inf:TypeInfo
 z:Value
 ho:o.op= .call {callee:= .builtin .append,args:=args,argTypes:=ats}
 ha:args.toList=[x,y]
 hat:ats.toList=[t,t]
 ht:P.underlying t=some (.slice e)
 hi:P.info? e=some inf
 hz:inf.zero=some z
 hs:inf.size=sz
 hb:inf.bytes=bytes
 h0:0<sz
 hzs:z.cells.size=sz
 hx:opA x=some x'
 hy:opA y=some y'
theorem ZN {sz:Nat} {xs ys:List (List T)} (hx:∀(i:Nat) (c:List T),xs[i]?=some c->c.length=sz) (hy:∀(i:Nat) (c:List T),ys[i]?=some c->c.length=sz):
  ∀(i:Nat) (c:List T),(xs++ys)[i]?=some c->c.length=sz:=by
 intro i c h;by_cases hi:i<xs.length
 ·rw [List.getElem?_append_left hi] at h;exact hx i c h
 ·rw [List.getElem?_append_right (by omega)] at h;exact hy _ c h
theorem z3i {sz bytes:Nat} {x' y':Ar} (A:z0j P o sz bytes x' y') {C:Ctx} {Λ:L} {a:Act} (hr:Rel C Λ st a) {k:Nat} {ys:List (List T)} (hk:k<Λ.nxt) (hfro:Λ.fro k=0) {ad:Option Addr} (hnil:a.eval A.x= .slice ad 0 0)
  (hy:zO Λ.lab Λ.w (a.eval A.y) (.lst ys)) (hl:∀(i:Nat) (c:List T),ys[i]?=some c->c.length=sz) (hroom:ys.length*bytes<=140737488355328) (h63:ys.length<=9223372036854775807):
  ∃v Λ',(execOp a.eval o).run P Λ.w= .ok (.value v) Λ'.w/\Kp Λ Λ'/\Λ'.nxt=Λ.nxt/\Z4 Λ' {st.s with sto:=yC st.s.sto k (.arr ys.length)}/\zn Λ' v (.own k sz ys)/\∀j,y9 Λ j->j≠k->y9 Λ' j:=by
 by_cases hy0:ys.length=0
 ·have hys:ys=[]:=List.length_eq_zero_iff.1 hy0;subst hys;generalize hv:a.eval A.y=u at hy
  have hrun:(execOp a.eval o).run P Λ.w= .ok (.value (.slice ad 0 0)) Λ.w:=by
   refine Z0 A.ho Z A.ha A.hat ?_;rw [hnil,hv]
   cases hy with
   |lst a' cap _ _ _ _ _ _ _ _ _ _ _=>exact yw A.ht A.hi ad 0 0 (Nat.le_refl _) a' cap Λ.w
  have hkp:=Kp.refl Λ;refine ⟨_,Λ,hrun,hkp,rfl,?_,.own .nil (by simp) hk (by simp) (fun _=> .inl ⟨⟨_,rfl⟩,rfl⟩),fun j hj _=>hj⟩;refine hr.s.step hkp Z (fun j ob hj=>?_) hr.s.inj hr.s.new hr.s.bnd hr.s.frz (Zb.refl _);simp only at hj;rw [Zh] at hj;split at hj
  ·rename_i e;subst e;simp at hj;subst hj;exact .inr ⟨hk,hfro⟩
  ·exact .inl ⟨hj,fun _ _=>rfl,rfl⟩
 ·obtain ⟨b,off,cap,vs,hv,hcap,hvl,hvc,hvr⟩:=hy.cells hl (by omega) A.h0
  have hrun':(Builtin.append_ #[A.t,A.t] o.type #[.slice ad 0 0,.slice (some ⟨b,off,none⟩) ys.length cap]).run P Λ.w=
    .ok (.slice (some ⟨Λ.w.heap.size,0,none⟩) ys.length (grownCap Λ.w ys.length 0 A.e)) (Λ.w.drew.alloc (.cells (vs.toArray++Builtin.zeroCells A.z.cells (grownCap Λ.w ys.length 0 A.e - ys.length)) A.e)):=by
   cases ad with
   |none=>exact run_append_nil (P:=P) Λ.w A.t o.type A.e A.inf A.z A.ht A.hi A.hz ⟨b,off,none⟩ ys.length cap vs (by rw [A.hs];exact hvl) (fun j u hu=>by rw [ZW];exact (hvc j u hu).1) (by omega) (by omega) (by rw [A.hb];omega)
   |some ad=>
    have:=run_append_grow (P:=P) Λ.w A.t o.type A.e A.inf A.z A.ht A.hi A.hz ad 0 0 [] (by simp) (by simp) ⟨b,off,none⟩ ys.length cap vs (by rw [A.hs];exact hvl) (fun j u hu=>by rw [ZW];exact (hvc j u hu).1) (by omega) (by omega) (by rw [Nat.zero_add,nextslicecap_zero (by omega),A.hb];omega)
    simpa only [Nat.zero_add,List.append_toArray,List.nil_append] using this
  have hrun:=Z0 (x:=A.x) (y:=A.y) (a:=a) A.ho rfl A.ha A.hat (by rw [hnil,hv];exact hrun');have g:=yA.Yv Λ.w (.cells (vs.toArray++Builtin.zeroCells A.z.cells (grownCap Λ.w ys.length 0 A.e - ys.length)) A.e)
  have h1:Kp Λ {Λ with fro:=Zz Λ.fro k ys.length}:=Kp.Zz (by omega)
  obtain ⟨k1,k2,k3⟩:=z3H (fr:=ys.length*sz) hr.s h1 Zb.Zz rfl rfl rfl (fun _=> .inl rfl) g hk rfl;have hge:=grownCap_ge Λ.w ys.length 0 A.e;refine ⟨_,_,hrun,k1,rfl,k2,.own ?_ hl hk (by simp [Zz]) (fun _=> .inr ⟨Λ.w.heap.size,_,_,_,rfl,by simp [zZ],g.top,?_,hge⟩),k3⟩
  ·refine yM (sz:=sz) (vs:=vs) g.top hge Z hl (fun o ho=>by simp [Rd,zZ];exact ho) (fun j v hj=>?_) hvl (fun j v x h1 h2=>(hvr j v x h1 h2).mono k1.fr)
   rw [Array.getElem?_append_left (by have:=(List.getElem?_eq_some_iff.1 hj).1;simpa using this)];simpa using hj
  ·simp only [Array.size_append,List.size_toArray,size_zeroCells,A.hzs,hvl];rw [←Nat.add_mul];congr 1;omega
theorem z7O {sz bytes:Nat} {x' y':Ar} {ys:List (List T)} (A:z0j P o sz bytes x' y') (hxv:x'.u st= .zV) (hyv:(y'.u st).zy=some (.lst ys)) (hl:ye sz ys=true) (hroom:ys.length*bytes<=140737488355328) (h63:ys.length<=9223372036854775807):
  zR P o base st {v:= .own base sz ys,ob:=[(base,.arr ys.length)],n:=1}:=by
 intro C Λ a next Q hC hr hle hfree hnext;have hx1:=hr.opu A.hx;rw [hxv] at hx1
 obtain ⟨ad,hnil⟩:∃ad,a.eval A.x= .slice ad 0 0:=by generalize a.eval A.x=u at hx1;cases hx1;exact ⟨_,rfl⟩
 obtain ⟨hb1,hb2,hb3⟩:=hfree base (Nat.le_refl _) (by simp);obtain ⟨v,Λ',h1,h2,h3,h4,h5,h6⟩:=z3i A hr hb1 hb2.fro hnil ((hr.opu A.hy).zy hyv) (W3 hl) hroom h63;unfold Oper.wp;rw [h1];exact hnext v Λ' h2 h3 h4 h5 (fun k hk _ hlt=>h6 k hk (by simp at hlt;omega))
theorem z8E {sz bytes k:Nat} {x' y':Ar} {xs ys:List (List T)} (A:z0j P o sz bytes x' y') (hxv:x'.u st= .own k sz xs) (hk:zi st.s.sto k=some (.arr xs.length)) (hyv:(y'.u st).zy=some (.lst ys)) (hl:ye sz ys=true)
  (hroom:(xs.length+ys.length)*bytes<=140737488355328) (h63:xs.length+ys.length<=9223372036854775807):
  zR P o base st {v:= .own k sz (xs++ys),ob:=[(k,.arr (xs.length+ys.length))],rd:=true}:=by
 intro C Λ a next Q hC hr hle hfree hnext;have hx1:=hr.opu A.hx;rw [hxv] at hx1;obtain ⟨hkn,hfk⟩:=hr.s.sto k _ hk;have hfk:Λ.fro k=xs.length:=hfk;have hy1:=(hr.opu A.hy).zy hyv;have hlY:=W3 hl;unfold Oper.wp;generalize hxe:a.eval A.x=vx at hx1
 cases hx1 with
 |own hrep hsz _ _ how=>
 rcases how hfk.symm with ⟨⟨ad,rfl⟩,hx0⟩|⟨b,cap,arr,e',hvx,hlb,hhb,hac,hnc⟩
 ·have hxs:xs=[]:=List.length_eq_zero_iff.1 hx0;subst hxs;obtain ⟨v,Λ',h1,h2,h3,h4,h5,h6⟩:=z3i A hr hkn hfk hxe hy1 hlY (by simpa using hroom) (by simpa using h63);rw [h1];refine hnext v Λ' h2 h3 (by simpa [S.app,Zj] using h4) (by simpa using h5) (fun j hj hn _=>h6 j hj ?_);rintro rfl;rw [hk] at hn;simp at hn
 ·subst hvx;by_cases hy0:ys.length=0
  ·have hys:ys=[]:=List.length_eq_zero_iff.1 hy0;subst hys
   have hrun:(execOp a.eval o).run P Λ.w= .ok (.value (.slice (some ⟨b,0,none⟩) xs.length cap)) Λ.w:=by
    refine Z0 A.ho Z A.ha A.hat ?_;rw [hxe];generalize a.eval A.y=u at hy1
    cases hy1 with
    |lst a' cap' _ _ _ _ _ _ _ _ _ _ _=>exact yw A.ht A.hi _ _ _ hnc a' cap' Λ.w
   rw [hrun];refine hnext _ Λ (Kp.refl Λ) Z ?_ (by simpa using zn.own hrep hsz hkn (by omega) how) (fun j hj _ _=>hj);refine hr.s.step (Kp.refl Λ) Z (fun j ob hj=>?_) hr.s.inj hr.s.new hr.s.bnd hr.s.frz (Zb.refl _);simp only [S.app,Zj] at hj;rw [Zh] at hj;split at hj
   ·rename_i e;subst e;simp at hj;subst hj;exact .inr ⟨hkn,hfk⟩
   ·exact .inl ⟨hj,fun _ _=>rfl,rfl⟩
  ·obtain ⟨yb,yoff,ycap,vs,hv,hcap,hvl,hvc,hvr⟩:=hy1.cells hlY (by omega) A.h0
   have hone:∀u∈vs,u.oneCell'=true:=by
    intro u hu;obtain ⟨j,hj⟩:=List.mem_iff_getElem?.1 hu;have hjl:=(List.getElem?_eq_some_iff.1 hj).1
    have hfl:j<ys.flatten.length:=by rw [ZG ys hlY];omega
    exact (hvr j u ys.flatten[j] hj (by simp)).Wm
   have hold:∃us:List Value,us.length=xs.length*sz/\(∀(j:Nat) (u:Value),us[j]?=some u->arr[j]?=some u)/\∀(j:Nat) (u:Value) (x:T),us[j]?=some u->xs.flatten[j]?=some x->zO Λ.lab Λ.w u x:=by
    by_cases hx0:xs.length=0
    ·exact ⟨[],by simp [hx0],by simp,by simp⟩
    ·obtain ⟨b',off',cap',us,e1,e2,e3,e4,e5⟩:=hrep.cells hsz (by omega) A.h0;simp at e1;obtain ⟨⟨rfl,rfl⟩,rfl⟩:=e1;refine ⟨us,e3,fun j u hu=>?_,e5⟩;have:=(e4 j u hu).1;rw [cell_of_row Λ.w b _ arr e' _ hhb] at this;simpa using this
   obtain ⟨us,hul,huc,hur⟩:=hold
   have hflat:(xs++ys).flatten=xs.flatten++ys.flatten:=by simp
   have hboth:∀(j:Nat) (u:Value) (x:T),(us++vs)[j]?=some u->(xs++ys).flatten[j]?=some x->zO Λ.lab Λ.w u x:=by
    intro j u x h1 h2;rw [hflat] at h2;have hxl:=ZG xs hsz;by_cases hj:j<us.length
    ·rw [List.getElem?_append_left hj] at h1;rw [List.getElem?_append_left (by omega)] at h2;exact hur j u x h1 h2
    ·rw [List.getElem?_append_right (by omega)] at h1;rw [List.getElem?_append_right (by omega)] at h2;rw [hxl,←hul] at h2;exact hvr _ u x h1 h2
   by_cases hrm:xs.length+ys.length<=cap
   ·have hfit:xs.length*A.inf.size+vs.length<=arr.size:=by
     rw [A.hs,hvl,hac,←Nat.add_mul];exact Nat.mul_le_mul_right _ hrm
    have hrun':=Yx (P:=P) (ty:=o.type) Λ.w A.ht A.hi b xs.length cap arr hhb ⟨yb,yoff,none⟩ ys.length ycap vs (by rw [A.hs];exact hvl) (fun j u hu=>by rw [ZW];exact (hvc j u hu).1) hone hrm hfit
    have hrun:=Z0 (x:=A.x) (y:=A.y) (a:=a) A.ho rfl A.ha A.hat (by rw [hxe,hv];exact hrun');rw [hrun];rw [A.hs] at hfit⊢
    have harrL:∀j,j<xs.length*sz->(arr.toList.take (xs.length*sz)++vs++arr.toList.drop (xs.length*sz+vs.length)).toArray[j]?=arr[j]?:=by
     intro j hj
     have:(arr.toList.take (xs.length*sz)).length=xs.length*sz:=by simp;omega
     simp only [List.getElem?_toArray];rw [List.append_assoc,List.getElem?_append_left (by omega),List.getElem?_take,if_pos hj];simp
    have hsz2:(arr.toList.take (xs.length*sz)++vs++arr.toList.drop (xs.length*sz+vs.length)).toArray.size=cap*sz:=by simp;omega
    have hget2:∀(j:Nat) (v:Value),(us++vs)[j]?=some v->(arr.toList.take (xs.length*sz)++vs++arr.toList.drop (xs.length*sz+vs.length)).toArray[j]?=some v:=by
     intro j v hj;by_cases hjl:j<us.length
     ·rw [List.getElem?_append_left hjl] at hj;rw [harrL j (by omega)];exact huc j v hj
     ·rw [List.getElem?_append_right (by omega)] at hj
      have:(arr.toList.take (xs.length*sz)).length=xs.length*sz:=by simp;omega
      simp only [List.getElem?_toArray];have hjv:=(List.getElem?_eq_some_iff.1 hj).1;rw [List.append_assoc,List.getElem?_append_right (by omega),List.getElem?_append_left (by omega),this,←hul];exact hj
    generalize (arr.toList.take (xs.length*sz)++vs++arr.toList.drop (xs.length*sz+vs.length)).toArray=A2 at*
    obtain ⟨k1,k2,k3⟩:=zap (n:=xs.length+ys.length) (fr':=(xs.length+ys.length)*sz) hr.s (Yp.setRow Λ.w b A2) hlb (Nat.mul_le_mul_right _ (by omega)) (fun o ho=>by
     rw [cell_setRow_same _ _ _ _ _ _ _ hhb,cell_of_row Λ.w b o arr e' _ hhb];exact harrL o ho) (by omega) Z
    refine hnext (.slice (some ⟨b,0,none⟩) (xs.length+ys.length) cap) _ k1 Z k2 (.own ?_ (ZN hsz hlY) hkn (by simp [Zz]) (fun _=> .inr ⟨b,cap,A2,e',by simp,by simp [zZ],setRow_heap _ _ _ _ _ _ hhb,hsz2,by simpa using hrm⟩)) (fun j hj _ _=>k3 j hj)
    ·exact yM (sz:=sz) (vs:=us++vs) (setRow_heap _ _ _ _ _ _ hhb) hrm (by simp) (ZN hsz hlY) (fun o ho=>by simp [Rd,zZ] at ho⊢;exact ho) hget2 (by simp [hul,hvl,Nat.add_mul]) (fun j v x h1 h2=>(hboth j v x h1 h2).mono k1.fr)
   ·have hrun':=run_append_grow (P:=P) Λ.w A.t o.type A.e A.inf A.z A.ht A.hi A.hz ⟨b,0,none⟩ xs.length cap us (by rw [A.hs];exact hul)
     (fun j u hu=>by rw [ZW,cell_of_row Λ.w b _ arr e' _ hhb,Nat.zero_add];exact huc j u hu) ⟨yb,yoff,none⟩ ys.length ycap vs (by rw [A.hs];exact hvl) (fun j u hu=>by rw [ZW];exact (hvc j u hu).1) (by omega) (by omega)
     (by rw [A.hb];exact growslice_fits (by omega) hroom)
    have hrun:=Z0 (x:=A.x) (y:=A.y) (a:=a) A.ho rfl A.ha A.hat (by rw [hxe,hv];exact hrun');rw [hrun];have g:=yA.Yv Λ.w (.cells (us.toArray++vs.toArray++Builtin.zeroCells A.z.cells (grownCap Λ.w (xs.length+ys.length) cap A.e - (xs.length+ys.length))) A.e);have h1:=Kp.left (n:=xs.length+ys.length) hlb (by omega)
    obtain ⟨k1,k2,k3⟩:=z3H (n:=xs.length+ys.length) (fr:=(xs.length+ys.length)*sz) hr.s h1 (Zb.left hlb) rfl rfl rfl (fun c=>by
     by_cases e:c=b
     ·subst e;exact .inr ⟨xs.length*sz,some (xs.length*sz),hlb,by simp [zZ]⟩
     ·exact .inl (by simp [zZ,e])) g hkn Z
    have hge:=grownCap_ge Λ.w (xs.length+ys.length) cap A.e;refine hnext (.slice (some ⟨Λ.w.heap.size,0,none⟩) (xs.length+ys.length) (grownCap Λ.w (xs.length+ys.length) cap A.e)) _ k1 Z k2 (.own ?_ (ZN hsz hlY) hkn (by simp [Zz]) (fun _=> .inr ⟨Λ.w.heap.size,grownCap Λ.w (xs.length+ys.length) cap A.e,_,A.e,by simp,by simp [zZ],g.top,?_,by simpa using hge⟩)) (fun j hj hn _=>k3 j hj ?_)
    ·refine yM (sz:=sz) (vs:=us++vs) g.top hge (by simp) (ZN hsz hlY) (fun o ho=>by simp [Rd,zZ] at ho⊢;exact ho) (fun j v hj=>?_) (by simp [hul,hvl,Nat.add_mul]) (fun j v x h1 h2=>(hboth j v x h1 h2).mono k1.fr)
     have hjl:=(List.getElem?_eq_some_iff.1 hj).1;rw [Array.getElem?_append_left (by simpa using hjl)]
     have:(us.toArray++vs.toArray)[j]?=(us++vs)[j]?:=by simp
     rw [this];exact hj
    ·simp only [Array.size_append,List.size_toArray,size_zeroCells,A.hzs,hvl,hul];rw [←Nat.add_mul,←Nat.add_mul];congr 1;omega
    ·rintro rfl;rw [hk] at hn;simp at hn
end
section
variable {P:Program} {o:Oper} {base:Nat} {st:St}
theorem z6o {sz:Nat}:∀(xs:List (List T)) (i:Nat) (c:List T),(∀(i:Nat) (c:List T),xs[i]?=some c->c.length=sz)->c.length=sz->i<xs.length->
  setAt (xs.flatten.map V.t) (i*sz) (c.map V.t)=((xs.set i c).flatten.map V.t):=by
 intro xs i c hs hc hi;apply List.ext_getElem?;intro p;have hl:=ZG xs hs
 have hs':∀(j:Nat) (d:List T),(xs.set i c)[j]?=some d->d.length=sz:=by
  intro j d hj;by_cases e:i=j
  ·subst e;rw [List.getElem?_set_self hi] at hj;simp at hj;subst hj;exact hc
  ·rw [List.getElem?_set_ne e] at hj;exact hs j d hj
 have hl':=ZG (xs.set i c) hs'
 have hin:i*sz+sz<=xs.length*sz:=by rw [←Nat.succ_mul];exact Nat.mul_le_mul_right _ hi
 rw [qA _ _ _ _ (by simp only [List.length_map];omega)];simp only [List.length_map]
 rcases Nat.eq_zero_or_pos sz with h0|h0
 ·subst h0;have e1:xs.flatten=[]:=List.length_eq_zero_iff.1 (by omega);have e2:(xs.set i c).flatten=[]:=List.length_eq_zero_iff.1 (by omega);rw [if_neg (by omega),e1,e2]
 by_cases hp:p<xs.length*sz
 ·have d1:p/sz<xs.length:=Nat.div_lt_of_lt_mul (by rwa [Nat.mul_comm] at hp);have d2:p%sz<sz:=Nat.mod_lt _ h0
  have d3:p/sz*sz+p%sz=p:=by rw [Nat.mul_comm];exact Nat.div_add_mod p sz
  by_cases hpi:p/sz=i
  ·subst hpi;rw [if_pos (by omega)]
   have e:p - p/sz*sz=p%sz:=by omega
   have hcl:p%sz<c.length:=by omega
   have:=YR (xs.set (p/sz) c) hs' (p/sz) (p%sz) c c[p%sz] (by simp [d1]) (by simp [hcl]);rw [d3] at this;rw [e];rw [List.getElem?_map,List.getElem?_map,this];simp [hcl]
  ·have hno:¬ (i*sz<=p/\p<i*sz+c.length):=by
    rintro ⟨h1,h2⟩;apply hpi;rw [hc] at h2
    have:p/sz=i:=by
     apply Nat.div_eq_of_lt_le
     ·exact h1
     ·rw [Nat.succ_mul];exact h2
    exact this
   rw [if_neg hno]
   have hdl:p%sz<xs[p/sz].length:=by rw [hs (p/sz) _ (by simp [d1])];exact d2
   have a1:=YR xs hs (p/sz) (p%sz) xs[p/sz] (xs[p/sz][p%sz]) (by simp [d1]) (by simp [hdl]);have a2:=YR (xs.set i c) hs' (p/sz) (p%sz) xs[p/sz] (xs[p/sz][p%sz]) (by rw [List.getElem?_set];simp [Ne.symm hpi,d1]) (by simp [hdl]);rw [d3] at a1 a2;rw [List.getElem?_map,List.getElem?_map,a1,a2]
 ·rw [if_neg (by omega)];rw [List.getElem?_eq_none (by simp only [List.length_map];omega),List.getElem?_eq_none (by simp only [List.length_map];rw [hl'];simp;omega)]
theorem z0B {Λ:L} {v:Value} {x:V} {c:List T} (h:zn Λ v x) (hc:x.Z8=some c):Yb Λ v.cells (c.map V.t):=by
 have one:∀{v:Value} {y:T},v.cells=#[v]->zO Λ.lab Λ.w v y->Yb Λ v.cells [V.t y]:=by
  intro v y hv hy;rw [hv];refine ⟨rfl,fun j u d hu hd=>?_⟩
  cases j with
  |zero=>simp at hu hd;subst hu;subst hd;exact .t hy
  |succ j=>simp at hd
 have hone:∀{v:Value} {y:T},zO Λ.lab Λ.w v y->v.cells=#[v]:=by intro v y hy;cases hy<;>rfl
 have gen:∀{y:T},x.zy=some y->c=[y]->Yb Λ v.cells (c.map V.t):=by
  intro y h1 h2;subst h2;have:=h.zy h1;exact one (hone this) this
 cases h with
 |agg hs h=>
  simp only [V.Z8] at hc;rename_i vs cs
  have key:∀(cs:List V) (c:List T),cs.mapM V.zy=some c->cs.length=c.length/\∀(j:Nat) (d:V) (y:T),cs[j]?=some d->c[j]?=some y->d.zy=some y:=by
   intro cs
   induction cs with
   |nil=>intro c h;simp at h;subst h;simp
   |cons d cs ih=>
    intro c h;simp only [List.mapM_cons,Option.bind_eq_bind,Option.pure_def,Option.bind_eq_some_iff] at h;obtain ⟨y,hy,c',hc',h⟩:=h;simp at h;subst h;obtain ⟨i1,i2⟩:=ih c' hc'
    refine ⟨by simp [i1],fun j e z h1 h2=>?_⟩
    cases j with
    |zero=>simp at h1 h2;subst h1;subst h2;exact hy
    |succ j=>exact i2 j e z (by simpa using h1) (by simpa using h2)
  obtain ⟨k1,k2⟩:=key cs c hc
  refine ⟨by simp [Value.cells,hs,k1],fun j u d hu hd=>?_⟩
  rw [List.getElem?_map,Option.map_eq_some_iff] at hd;obtain ⟨y,hy,rfl⟩:=hd
  have hlt:j<cs.length:=by rw [k1];exact (List.getElem?_eq_some_iff.1 hy).1
  have:=h j u cs[j] hu (by simp [hlt]);exact .t (this.zy (k2 j _ y (by simp [hlt]) hy))
 |t h=>simp [V.Z8,V.zy] at hc;exact gen Z hc.symm
 |zV=>simp [V.Z8,V.zy] at hc;exact gen Z hc.symm
 |own h a b c' d=>simp [V.Z8,V.zy] at hc;exact gen Z hc.symm
 |slc a c h=>simp [V.Z8,V.zy] at hc
 |tup _ _=>simp [V.Z8,V.zy] at hc
 |ptr a h=>simp [V.Z8,V.zy] at hc
 |mp a h=>simp [V.Z8,V.zy] at hc
 |fn hs h=>simp [V.Z8,V.zy] at hc
 |gd _ _=>simp [V.Z8,V.zy] at hc
 |top=>simp [V.Z8,V.zy] at hc
 |ub _ _=>simp [V.Z8,V.zy] at hc
 |ui=>simp [V.Z8,V.zy] at hc
 |fpt a h=>simp [V.Z8,V.zy] at hc
 |gpt a b c h=>simp [V.Z8,V.zy] at hc
 |gsl a b c h=>simp [V.Z8,V.zy] at hc
 |fow h a b c' d=>simp [V.Z8,V.zy] at hc;exact gen Z hc.symm
theorem z2i {C:Ctx} {Λ:L} {ac:Act} (h:Rel C Λ st ac) (sz:Nat):∀(parts:List (Nat×Operand)) (ps:List (Nat×Ar)) (arr:Array Value) (zs xs:List (List T)),
  slotsOf parts=some ps->Yb Λ arr (zs.flatten.map V.t)->(∀(i:Nat) (c:List T),zs[i]?=some c->c.length=sz)->ZB st sz zs ps=some xs->
  ∃arr',Instr.fill (fun i=>some (i*sz,sz)) arr (parts.map fun (i,x)=>(i,ac.eval x))=some arr'/\Yb Λ arr' (xs.flatten.map V.t)/\(∀(i:Nat) (c:List T),xs[i]?=some c->c.length=sz)/\xs.length=zs.length
 |[],ps,arr,zs,xs,hps,hr,hs,hf=>by
  simp [slotsOf] at hps;subst hps;simp [ZB] at hf;subst hf;exact ⟨arr,rfl,hr,hs,rfl⟩
 |(i,x)::parts,ps,arr,zs,xs,hps,hr,hs,hf=>by
  simp only [slotsOf] at hps;split at hps
  ·rename_i a l h1 h2;simp at hps;subst hps;simp only [ZB] at hf;split at hf
   ·rename_i c hc;split at hf
    ·rename_i hcond;have hrc:=z0B (h.opu h1) hc;have hfold:=Yb.foldl (i*sz) (ac.eval x).cells.toList (c.map V.t) 0 arr (zs.flatten.map V.t) (by simpa using hrc.1) (fun j a b e1 e2=>hrc.2 j a b (by simpa using e1) e2) hr;rw [Nat.add_zero,z6o zs i c hs hcond.1 hcond.2] at hfold
     have hs':∀(j:Nat) (d:List T),(zs.set i c)[j]?=some d->d.length=sz:=by
      intro j d hj;by_cases e:i=j
      ·subst e;rw [List.getElem?_set_self hcond.2] at hj;simp at hj;subst hj;exact hcond.1
      ·rw [List.getElem?_set_ne e] at hj;exact hs j d hj
     obtain ⟨arr',e1,e2,e3,e4⟩:=z2i h sz parts l _ _ xs h2 hfold hs' hf
     refine ⟨arr',?_,e2,e3,by simpa using e4⟩
     have hsz:(ac.eval x).cells.size=sz:=by rw [hrc.1];simpa using hcond.1
     have hsz2:arr.size=zs.length*sz:=by rw [hr.1,List.length_map,ZG zs hs]
     have hin:i*sz+sz<=zs.length*sz:=by rw [←Nat.succ_mul];exact Nat.mul_le_mul_right _ hcond.2
     simp only [List.map_cons,Instr.fill,hsz]
     have:¬ (i*sz+sz>arr.size):=by omega
     simp only [ne_eq,not_true_eq_false,decide_false,this,Bool.or_self,Bool.false_eq_true,if_false];rw [←e1];congr 1;rw [←Array.foldl_toList,Array.toList_zipIdx]
    ·simp at hf
   ·simp at hf
  ·simp at hps
theorem qt {Λ:L} {zc:Array Value} {cs:List V} (h:Yb Λ zc cs) (n:Nat):Yb Λ ((Array.range (n*zc.size)).map (zc[· %zc.size]!)) (List.replicate n cs).flatten:=by
 have hall:∀(i:Nat) (c:List V),(List.replicate n cs)[i]?=some c->c.length=zc.size:=by
  intro i c hc;have:=zMG hc;rw [List.mem_replicate] at this;rw [this.2,h.1]
 have hlen:=ZG _ hall;simp only [List.length_replicate] at hlen
 refine ⟨by simp [hlen],fun j v c hv hc=>?_⟩
 have hj:j<n*zc.size:=by have:=(List.getElem?_eq_some_iff.1 hc).1;omega
 have h0:0<zc.size:=by
  rcases Nat.eq_zero_or_pos zc.size with h|h;· rw [h] at hj;omega
  ·exact h
 have d1:j/zc.size<n:=Nat.div_lt_of_lt_mul (by rwa [Nat.mul_comm] at hj);have d2:j%zc.size<zc.size:=Nat.mod_lt _ h0
 have d3:j/zc.size*zc.size+j%zc.size=j:=by rw [Nat.mul_comm];exact Nat.div_add_mod j zc.size
 have hcl:j%zc.size<cs.length:=by rw [←h.1];exact d2
 have:=YR _ hall (j/zc.size) (j%zc.size) cs cs[j%zc.size] (by simp [d1]) (by simp [hcl]);rw [d3,hc] at this;simp at this;subst this
 have hv':v=zc[j%zc.size]:=by
  rw [Array.getElem?_map,Array.getElem?_range] at hv;simp [hj] at hv;rw [←hv];simp [d2]
 subst hv';exact h.2 (j%zc.size) _ _ (Array.getElem?_eq_getElem d2) (List.getElem?_eq_getElem hcl)
theorem z1D:∀(cs:List V) (c:List T),cs.mapM V.zy=some c->cs.length=c.length/\∀(j:Nat) (d:V) (y:T),cs[j]?=some d->c[j]?=some y->d.zy=some y:=by
 intro cs
 induction cs with
 |nil=>intro c h;simp at h;subst h;simp
 |cons d cs ih=>
  intro c h;simp only [List.mapM_cons,Option.bind_eq_bind,Option.pure_def,Option.bind_eq_some_iff] at h;obtain ⟨y,hy,c',hc',h⟩:=h;simp at h;subst h;obtain ⟨i1,i2⟩:=ih c' hc'
  refine ⟨by simp [i1],fun j e z h1 h2=>?_⟩
  cases j with
  |zero=>simp at h1 h2;subst h1;subst h2;exact hy
  |succ j=>exact i2 j e z (by simpa using h1) (by simpa using h2)
theorem z2n {Λ:L} {arr:Array Value} {cs:List V} {c:List T} (h:Yb Λ arr cs) (hc:cs.mapM V.zy=some c):Yb Λ arr (c.map V.t):=by
 obtain ⟨k1,k2⟩:=z1D cs c hc
 refine ⟨by simp [h.1,k1],fun j u d hu hd=>?_⟩
 rw [List.getElem?_map,Option.map_eq_some_iff] at hd;obtain ⟨y,hy,rfl⟩:=hd
 have hlt:j<cs.length:=by rw [k1];exact (List.getElem?_eq_some_iff.1 hy).1
 exact .t ((h.2 j u cs[j] hu (by simp [hlt])).zy (k2 j _ y (by simp [hlt]) hy))
theorem WI {t e:TypeId} {i:TypeInfo} {z:Value} {n:Nat} {parts:Array (Nat×Operand)} {a:Act} {w:World} {arr:Array Value} (ho:o.op= .buildSlice t n parts) (ht:P.underlying t=some (.slice e)) (hi:P.info? e=some i) (hz:i.zero=some z) (hzs:z.cells.size=i.size)
  (hle:n*i.size<=16777216) (hf:Instr.fill (fun j=>some (j*i.size,i.size)) ((Array.range (n*z.cells.size)).map (z.cells[· %z.cells.size]!)) (parts.toList.map fun (j,x)=>(j,a.eval x))=some arr):
  (execOp a.eval o).run P w= .ok (.value (.slice (some ⟨w.heap.size,0,none⟩) n n)) (w.alloc (.cells arr e)):=by
 simp only [execOp,ho]
 have hle':¬ (16777216<n*i.size):=by omega
 rw [hzs] at hf;by_cases h0:n*i.size=0
 ·rw [h0] at hf
  have hf':Instr.fill (fun j=>some (j*i.size,i.size)) ((Array.range 0).map ((#[]:Array Value)[· %(#[]:Array Value).size]!)) (parts.toList.map fun (j,x)=>(j,a.eval x))=some arr:=by
   rw [←hf];congr 1;simp [Array.range_zero']
  simp [Instr.buildSlice,run_underlying ht,sizeOf,typeInfo,hi,h0,newRow];have hf2:=hf';simp at hf2;simp [hf2]
 ·simp [Instr.buildSlice,run_underlying ht,sizeOf,typeInfo,zeroValue,hi,hz,h0,hle',newRow];rw [←hzs] at hf;rw [hzs] at hf;simp [hf,hzs]
structure z1S (P:Program) (o:Oper) (sz:Nat) (zs:List (List T)) (ps:List (Nat×Ar)) where
 t:TypeId
 e:TypeId
 n:Nat
 parts:Array (Nat×Operand)
 zv:List V
 z:List T
 ho:o.op= .buildSlice t n parts
 ht:P.underlying t=some (.slice e)
 hs:Zs P e=some sz
 hzv:ZK P e=some zv
 hz:zv.mapM V.zy=some z
 hle:n*sz<=16777216
 hzs:zs=List.replicate n z
 hps:slotsOf parts.toList=some ps
theorem z0S {sz:Nat} {zs xs:List (List T)} {ps:List (Nat×Ar)} (B:z1S P o sz zs ps) {C:Ctx} {Λ:L} {a:Act} (hr:Rel C Λ st a) (hx:ZB st sz zs ps=some xs):
  ∃arr,(execOp a.eval o).run P Λ.w= .ok (.value (.slice (some ⟨Λ.w.heap.size,0,none⟩) xs.length xs.length)) (Λ.w.alloc (.cells arr B.e))/\Yb Λ arr (xs.flatten.map V.t)/\(∀(i:Nat) (c:List T),xs[i]?=some c->c.length=sz):=by
 obtain ⟨i,zval,hi,hz1,hlen,hok⟩:=y4 B.hzv
 have hsz:i.size=sz:=by have:=B.hs;unfold Zs at this;rw [hi] at this;simpa using this
 have hrc:=z2n (yc (Λ:=Λ) hok) B.hz
 have hzl:zval.cells.size=sz:=by rw [(yc (Λ:=Λ) hok).1,hlen];exact hsz
 have hmade:=qt hrc B.n
 have hfl:(List.replicate B.n (B.z.map V.t)).flatten=(zs.flatten.map V.t):=by have e:=B.hzs;generalize B.n=n at*;generalize B.z=z at*;subst e;simp
 rw [hfl] at hmade
 have hzall:∀(i:Nat) (c:List T),zs[i]?=some c->c.length=sz:=by
  intro j c hc;rw [B.hzs] at hc;have:=zMG hc;rw [List.mem_replicate] at this;rw [this.2];have:=hrc.1;simp at this;omega
 obtain ⟨arr,e1,e2,e3,e4⟩:=z2i hr sz _ _ _ _ _ B.hps hmade hzall hx
 have hn:xs.length=B.n:=by have e:=congrArg List.length B.hzs;simp at e;omega
 refine ⟨arr,?_,e2,e3⟩;rw [hn];exact WI B.ho B.ht hi hz1 (by rw [hzl,hsz]) (by rw [hsz];exact B.hle) (by rw [hsz];exact e1)
theorem zcg {sz:Nat} {zs xs:List (List T)} {ps:List (Nat×Ar)} (B:z1S P o sz zs ps) (hx:ZB st sz zs ps=some xs):zR P o base st {v:= .t (.lst xs)}:=by
 intro C Λ a next Q hC hr hle hfree hnext;obtain ⟨arr,h1,h2,h3⟩:=z0S B hr hx;unfold Oper.wp;rw [h1];have g:=yA.alloc Λ.w (.cells arr B.e);have hkp:=Kp.new g hr.s.new (.fix none)
 have hlab:∀b,zZ Λ.lab Λ.w.heap.size (.fix none) b=Λ.lab b:=by
  intro b;by_cases e:b=Λ.w.heap.size
  ·subst e;rw [zo];exact (hr.s.new _ (Nat.le_refl _)).symm
  ·exact zu e
 have hfun:zZ Λ.lab Λ.w.heap.size (.fix none)=Λ.lab:=funext hlab;rw [hfun] at hkp;have hF:=Zb.new g hr.s.new (.fix none) rfl;rw [hfun] at hF
 refine hnext _ {Λ with w:=Λ.w.alloc (.cells arr B.e)} hkp Z ?_ ?_ (fun k hk _ _=>hk.yq hF hk.obj hk.arr hk.fro)
 ·refine hr.s.step hkp Z (fun k ob hk=> .inl ⟨hk,fun b hb=>g.old ?_,rfl⟩) hr.s.inj (fun b hb=>hr.s.new b (by have:=g.size;simp only at hb;omega)) hr.s.bnd hr.s.frz hF
  rcases Nat.lt_or_ge b Λ.w.heap.size with h'|h'
  ·exact h'
  ·rw [hr.s.new b h'] at hb;simp at hb
 ·refine .t (yM (sz:=sz) (vs:=arr.toList) g.top (Nat.le_refl _) Z h3 (fun o _=>by simp [Rd,hr.s.new _ (Nat.le_refl _)]) (fun j v hj=>by simpa using hj) (by rw [Array.length_toList,h2.1,List.length_map,ZG xs h3]) fun j v x e1 e2=>?_)
  exact (h2.2 j v (.t x) (by simpa using e1) (by simp only [List.getElem?_map,e2];rfl)).Zv.mono hkp.fr
theorem z8w {sz:Nat} {zs xs:List (List T)} {ps:List (Nat×Ar)} (B:z1S P o sz zs ps) (hx:ZB st sz zs ps=some xs) (he:xs=[]):zR P o base st {v:= .zV}:=by
 intro C Λ a next Q hC hr hle hfree hnext;obtain ⟨arr,h1,h2,h3⟩:=z0S B hr hx;subst he;unfold Oper.wp;rw [h1];have g:=yA.alloc Λ.w (.cells arr B.e);have hkp:=Kp.new g hr.s.new (.fix none)
 have hlab:∀b,zZ Λ.lab Λ.w.heap.size (.fix none) b=Λ.lab b:=by
  intro b;by_cases e:b=Λ.w.heap.size
  ·subst e;rw [zo];exact (hr.s.new _ (Nat.le_refl _)).symm
  ·exact zu e
 have hfun:zZ Λ.lab Λ.w.heap.size (.fix none)=Λ.lab:=funext hlab;rw [hfun] at hkp;have hF:=Zb.new g hr.s.new (.fix none) rfl;rw [hfun] at hF
 refine hnext _ {Λ with w:=Λ.w.alloc (.cells arr B.e)} hkp Z ?_ ?_ (fun k hk _ _=>hk.yq hF hk.obj hk.arr hk.fro)
 ·refine hr.s.step hkp Z (fun k ob hk=> .inl ⟨hk,fun b hb=>g.old ?_,rfl⟩) hr.s.inj (fun b hb=>hr.s.new b (by have:=g.size;simp only at hb;omega)) hr.s.bnd hr.s.frz hF
  rcases Nat.lt_or_ge b Λ.w.heap.size with h'|h'
  ·exact h'
  ·rw [hr.s.new b h'] at hb;simp at hb
 ·exact .zV
theorem z7V {sz:Nat} {zs xs:List (List T)} {ps:List (Nat×Ar)} (B:z1S P o sz zs ps) (hx:ZB st sz zs ps=some xs):zR P o base st {v:= .own base sz xs,ob:=[(base,.arr xs.length)],n:=1}:=by
 intro C Λ a next Q hC hr hle hfree hnext;obtain ⟨arr,h1,h2,h3⟩:=z0S B hr hx;unfold Oper.wp;rw [h1];obtain ⟨hb1,hb2,hb3⟩:=hfree base (Nat.le_refl _) (by simp);have g:=yA.alloc Λ.w (.cells arr B.e)
 have hk1:Kp Λ {Λ with fro:=Zz Λ.fro base xs.length}:=Kp.Zz (by rw [hb2.fro];omega)
 obtain ⟨k1,k2,k3⟩:=z3H (fr:=xs.length*sz) hr.s hk1 Zb.Zz rfl rfl rfl (fun _=> .inl rfl) g hb1 rfl
 have hal:arr.size=xs.length*sz:=by rw [h2.1,List.length_map,ZG xs h3]
 refine hnext _ _ k1 Z k2 (.own ?_ h3 hb1 (by simp [Zz]) (fun _=> .inr ⟨Λ.w.heap.size,xs.length,arr,B.e,rfl,by simp [zZ],g.top,hal,Nat.le_refl _⟩)) (fun k hk _ hlt=>k3 k hk (by simp at hlt;omega))
 refine yM (sz:=sz) (vs:=arr.toList) g.top (Nat.le_refl _) Z h3 (fun o ho=>by simp [Rd,zZ];exact ho) (fun j v hj=>by simpa using hj) (by rw [Array.length_toList,hal]) fun j v x e1 e2=>?_
 exact (h2.2 j v (.t x) (by simpa using e1) (by simp only [List.getElem?_map,e2];rfl)).Zv.mono k1.fr
theorem zdb {t e:TypeId} {l:Nat} {i:TypeInfo} {zs:List V} {k:IntKind} {m:Int} (ho:o.op= .makeSlice t (.tmp l) (.tmp l)) (ht:P.underlying t=some (.slice e)) (hi:P.info? e=some i) (hz:ZK P e=some zs)
  (hm:(look st.env l).ug= .t (.int k m)) (h0:0<=m) (hb:m*i.bytes<=281474976710656) (h63:m<=9223372036854775807):
  zR P o base st {v:= .slc base 0 m.toNat i.size,ob:=[(base,.cells (List.replicate m.toNat zs).flatten)],n:=1}:=by
 intro C Λ a next Q hC hr hle hfree hnext;obtain ⟨i',z,hi',hz1,hlen,hok⟩:=y4 hz;rw [hi] at hi';simp at hi';subst hi';have hl:=(hr.env l).ug;rw [hm] at hl;have el:a.eval (.tmp l)= .int k m:=hl.Zv.ZS;have hrc:=yc (Λ:=Λ) hok
 have hzl:z.cells.size=i.size:=by rw [hrc.1,hlen]
 have hrun:(execOp a.eval o).run P Λ.w= .ok (.value (.slice (some ⟨Λ.w.heap.size,0,none⟩) m.toNat m.toNat)) (Λ.w.alloc (.cells (madeCells z.cells (m.toNat*i.size)) e)):=by
  simp only [execOp,ho,el];simp [run_make (P:=P) Λ.w t e i z ht hi hz1 k k m m h0 (Int.le_refl _) (by rw [Int.mul_comm];exact hb) h63]
 unfold Oper.wp;rw [hrun];obtain ⟨hb1,hb2,hb3⟩:=hfree base (Nat.le_refl _) (by simp);have g:=yA.alloc Λ.w (.cells (madeCells z.cells (m.toNat*i.size)) e);have hkp:=Kp.new g hr.s.new (.obj base);have hmade:=qt hrc m.toNat;rw [hzl] at hmade
 have hmm:Yb Λ (madeCells z.cells (m.toNat*i.size)) (List.replicate m.toNat zs).flatten:=by
  unfold madeCells;rw [hzl];exact hmade
 obtain ⟨k1,k2,k3⟩:=qC hr.s g hb1 hb2 rfl (ao:= .cells (List.replicate m.toNat zs).flatten) ⟨Λ.w.heap.size,_,_,by simp [zo],g.top,hmm.1,fun j v c e1 e2=>(hmm.2 j v c e1 e2).mono hkp⟩
 exact hnext _ _ k1 Z k2 (.slc hb1 (Nat.le_refl _) (by simp [zo])) (fun k hk _ hlt=>k3 k hk (by simp at hlt;omega))
end
def Tv:T->Value
 | .bool b=> .bool b
 | .int k n=> .int k n
 | .str s=> .string ⟨⟨s⟩⟩
 | .ad a _=> .pointer (some a)
 |_=>undef
def kv (kag:Bool) (cs:List T):Value:=if kag then .agg (cs.map Tv).toArray else match cs with|[x]=>Tv x|_=>undef
theorem zO.plain {l:Nat->Lab} {w:World} {v:Value} {x:T} {s:KSh} (h:zO l w v x) (hk:s.ok x=true):v=Tv x:=by
 cases h<;>first |rfl|(cases s<;>simp [KSh.ok] at hk)
theorem wa:∀{ks:List KSh} {cs:List T},zT ks cs=true->ks.length=cs.length/\∀(j:Nat) (s:KSh) (x:T),ks[j]?=some s->cs[j]?=some x->s.ok x=true
 |[],[],_=>⟨rfl,by simp⟩
 |[],_::_,h=>by simp [zT] at h
 |_::_,[],h=>by simp [zT] at h
 |s::r,x::c,h=>by
  simp only [zT,Bool.and_eq_true] at h;obtain ⟨h1,h2⟩:=wa h.2
  refine ⟨by simp [h1],fun j t y a b=>?_⟩
  cases j with
  |zero=>simp at a b;subst a;subst b;exact h.1
  |succ j=>exact h2 j t y (by simpa using a) (by simpa using b)
theorem w8.plain {l:Nat->Lab} {w:World} {kag:Bool} {v:Value} {cs:List T} {ks:List KSh} (h:w8 l w kag v cs) (hk:zT ks cs=true):v=kv kag cs:=by
 obtain ⟨h1,h2⟩:=wa hk;unfold w8 at h
 cases kag with
 |true=>
  obtain ⟨vs,rfl,hs,hv⟩:=h;simp only [kv,if_true];congr 1;apply Array.ext
  ·simp [hs]
  ·intro j a b
   have hjc:j<cs.length:=by rw [←hs];exact a
   have hjk:j<ks.length:=by omega
   have:=(hv j vs[j] cs[j] (by simp [a]) (by simp [hjc])).plain (h2 j ks[j] cs[j] (by simp [hjk]) (by simp [hjc]));simpa using this
 |false=>
  obtain ⟨x,rfl,hv⟩:=h
  have hkl:ks.length=1:=by simpa using h1
  have:=hv.plain (h2 0 (ks[0]'(by omega)) x (by simp) rfl);simpa [kv] using this
structure z1E (P:Program) (kt:TypeId) (ks:List KSh) (kag:Bool):Prop where
 sh:Yi P kt=some (ks,kag)
section
variable {P:Program}
theorem Wg {t:TypeId} {d:TypeDesc} (hu:P.underlying t=some d) (hd:d= .bool∨(∃k,d= .int k)∨d= .string) {vs:Array Value} {off:Nat} {v:Value} (hv:vs[off]?=some v) (w:World):(part t vs off).run P w= .ok v w:=by
 refine QG hu ?_ hv w;unfold zI;rw [hu]
 rcases hd with rfl|⟨k,rfl⟩|rfl<;>rfl
theorem Qh (d:Nat):∀(fs:List Field) (ks:List KSh) (i:Nat) (cs ds:List T) (xs ys:Array Value) (w:World),Yl P i fs=some ks->zT ks cs=true->zT ks ds=true->
  (∀(j:Nat) (x:T),cs[j]?=some x->xs[i+j]?=some (Tv x))->(∀(j:Nat) (x:T),ds[j]?=some x->ys[i+j]?=some (Tv x))->(Op.eqFields (d+1) xs ys fs).run P w= .ok (ZL cs ds) w
 |[],ks,i,cs,ds,xs,ys,w,hf,hc,hd,_,_=>by
  simp [Yl] at hf;subst hf
  cases cs<;>simp [zT] at hc
  cases ds<;>simp [zT] at hd
  simp [Op.eqFields,ZL]
 |f::r,ks,i,cs,ds,xs,ys,w,hf,hc,hd,hx,hy=>by
  simp only [Yl] at hf;split at hf
  ·rename_i hfo;obtain ⟨ho,hn⟩:=hfo
   have main:∀(s:KSh) (l:List KSh),Yl P (i+1) r=some l->ks=s::l->
     (∀(x y:T),s.ok x=true->s.ok y=true->(∀w,(part f.type xs f.offset).run P w= .ok (Tv x) w->(part f.type ys f.offset).run P w= .ok (Tv y) w->True)/\∀w,(Op.equalIn (d+1) f.type (Tv x) (Tv y)).run P w= .ok (x.eqb y) w)->
     (∀(vs:Array Value) (v:Value) (w:World),vs[f.offset]?=some v->(part f.type vs f.offset).run P w= .ok v w)->
     (Op.eqFields (d+1) xs ys (f::r)).run P w= .ok (ZL cs ds) w:=by
    intro s l hl hks heq hpart;subst hks
    cases cs with
    |nil=>simp [zT] at hc
    |cons x cs=>
     cases ds with
     |nil=>simp [zT] at hd
     |cons y ds=>
      simp only [zT,Bool.and_eq_true] at hc hd;have hx0:=hx 0 x rfl;have hy0:=hy 0 y rfl;simp only [Nat.add_zero] at hx0 hy0;have e1:=hpart xs (Tv x) w (by rw [ho];exact hx0);have e2:=hpart ys (Tv y) w (by rw [ho];exact hy0);have e3:=(heq x y hc.1 hd.1).2 w
      have ih:=Qh d r l (i+1) cs ds xs ys w hl hc.2 hd.2 (fun j z hj=>by have:=hx (j+1) z (by simpa using hj);rw [←this];congr 1;omega) (fun j z hj=>by have:=hy (j+1) z (by simpa using hj);rw [←this];congr 1;omega)
      simp only [Op.eqFields,hn,ne_eq,not_false_eq_true,if_true,Sem.run_bind,e1,e2,e3,Result.andThen_ok,ZL]
      cases x.eqb y with
      |true=>simpa using ih
      |false=>simp
   split at hf
   ·rename_i l hu hl;simp at hf
    exact main .bool l hl hf.symm (fun x y hxo hyo=>⟨fun _ _ _=>trivial,fun w=>by
     cases x<;>simp [KSh.ok] at hxo
     cases y<;>simp [KSh.ok] at hyo
     simp only [Tv,T.eqb]
     exact run_equalIn_bool w d f.type _ _ hu⟩) (fun vs v w hv=>Wg hu (.inl Z) hv w)
   ·rename_i k l hu hl;simp at hf
    exact main (.int k) l hl hf.symm (fun x y hxo hyo=>⟨fun _ _ _=>trivial,fun w=>by
     cases x<;>simp [KSh.ok] at hxo
     cases y<;>simp [KSh.ok] at hyo
     subst hxo;subst hyo;simp only [Tv,T.eqb]
     exact run_equalIn_int w d f.type _ _ _ _ hu⟩) (fun vs v w hv=>Wg hu (.inr (.inl ⟨k,rfl⟩)) hv w)
   ·rename_i l hu hl;simp at hf
    exact main .str l hl hf.symm (fun x y hxo hyo=>⟨fun _ _ _=>trivial,fun w=>by
     cases x<;>simp [KSh.ok] at hxo
     cases y<;>simp [KSh.ok] at hyo
     simp only [Tv,T.eqb]
     rw [run_equalIn_string w d f.type _ _ hu,toList_mk,toList_mk]⟩) (fun vs v w hv=>Wg hu (.inr (.inr rfl)) hv w)
   ·cases hf
  ·cases hf
theorem zcc (cs:List T) (j:Nat) (x:T) (h:cs[j]?=some x):((cs.map Tv).toArray)[0+j]?=some (Tv x):=by
 simp [h]
theorem QC {kt:TypeId} {ks:List KSh} (hk:z1E P kt ks true) {cs ds:List T} (hc:zT ks cs=true) (hd:zT ks ds=true) (d:Nat) (w:World):(Op.equalIn (d+2) kt (kv true cs) (kv true ds)).run P w= .ok (ZL cs ds) w:=by
 have h:=hk.sh;unfold Yi at h
 split at h<;>try (simp at h;done)
 rename_i fs hu;split at h
 ·rename_i hst;simp only [Option.map_eq_some_iff,Prod.mk.injEq,and_true] at h;obtain ⟨l,hl,rfl⟩:=h
  have hfo:P.fieldsOf kt=fs:=by simp [Program.fieldsOf,hu]
  have ht:P.underlying kt=some (.struct (P.fieldsOf kt)):=by rw [hfo];exact hu
  simp only [kv,if_true];rw [run_equalIn_struct w (d+1) kt _ _ ht hst.1,hfo];exact Qh d fs.toList l 0 cs ds _ _ w hl hc hd (zcc cs) (zcc ds)
 ·cases h
theorem WZ {kt:TypeId} {k:Value} {w:World} {cs:List T}:∀(l:List MapEntry) (es:List (List T×V)) (i:Nat),l.length=es.length->
  (∀(j:Nat) (e:MapEntry) (x:List T×V),l[j]?=some e->es[j]?=some x->(Op.equal kt k e.key).run P w= .ok (ZL cs x.1) w)->
  (Instr.findAsking kt k l i).run P w= .ok (match yf cs es with|some j=>(l[j]?).map fun e=>(i+j,e.val)|none=>none) w
 |[],[],i,_,_=>by simp [Instr.findAsking,yf]
 |[],_::_,i,h,_=>by simp at h
 |_::_,[],i,h,_=>by simp at h
 |e::l,x::es,i,h,hq=>by
  have h0:=hq 0 e x rfl rfl;have ih:=WZ (w:=w) l es (i+1) (by simpa using h) (fun j e x a b=>hq (j+1) e x (by simpa using a) (by simpa using b));simp only [Instr.findAsking,Sem.run_bind,h0,Result.andThen_ok,yf]
  cases hc:ZL cs x.1 with
  |true=>simp
  |false=>
   simp only [Bool.false_eq_true,if_false,ih]
   cases yf cs es with
   |none=>simp
   |some j=>simp [Nat.add_assoc,Nat.add_comm 1 j]
theorem z0k {k:Value} {kd:TypeDesc} {cs:List T}:∀(l:List MapEntry) (es:List (List T×V)) (i:Nat),l.length=es.length->
  (∀(j:Nat) (e:MapEntry) (x:List T×V),l[j]?=some e->es[j]?=some x->Instr.sameNow kd k e.key=some (ZL cs x.1))->
  Instr.findNow kd k l i=some (match yf cs es with|some j=>(l[j]?).map fun e=>(i+j,e.val)|none=>none)
 |[],[],i,_,_=>by simp [Instr.findNow,yf]
 |[],_::_,i,h,_=>by simp at h
 |_::_,[],i,h,_=>by simp at h
 |e::l,x::es,i,h,hq=>by
  have h0:=hq 0 e x rfl rfl;have ih:=z0k l es (i+1) (by simpa using h) (fun j e x a b=>hq (j+1) e x (by simpa using a) (by simpa using b));simp only [Instr.findNow,h0,yf]
  cases hc:ZL cs x.1 with
  |true=>simp
  |false=>
   simp only [Bool.false_eq_true,if_false,ih]
   cases yf cs es with
   |none=>simp
   |some j=>simp [Nat.add_assoc,Nat.add_comm 1 j]
theorem z9t (a b:List UInt8):((⟨⟨a⟩⟩:ByteArray)==⟨⟨b⟩⟩)=(a==b):=by
 rw [beq_toListBytes,toList_mk,toList_mk]
theorem qN {kt:TypeId} {s:KSh} (hk:z1E P kt [s] false) {x y:T} (hx:s.ok x=true) (hy:s.ok y=true):∃d,P.underlying kt=some d/\Instr.sameNow d (Tv x) (Tv y)=some (x.eqb y)/\MapKept.IsKey d (Tv x):=by
 have h:=hk.sh;unfold Yi at h
 split at h<;>try (simp at h;done)
 ·rename_i hu;simp at h;subst h
  cases x<;>simp [KSh.ok] at hx
  cases y<;>simp [KSh.ok] at hy
  exact ⟨_,hu,rfl,by simp [MapKept.IsKey,Tv]⟩
 ·rename_i k hu;simp at h;subst h
  cases x<;>simp [KSh.ok] at hx
  cases y<;>simp [KSh.ok] at hy
  subst hx;subst hy
  exact ⟨_,hu,by simp [Instr.sameNow,Tv,T.eqb],by simp [MapKept.IsKey,Tv]⟩
 ·rename_i hu;simp at h;subst h
  cases x<;>simp [KSh.ok] at hx
  cases y<;>simp [KSh.ok] at hy
  exact ⟨_,hu,by simp [Instr.sameNow,Tv,T.eqb,z9t],by simp [MapKept.IsKey,Tv]⟩
theorem QI {Λ:L} {u:Value} {x:V} {ks:List KSh} {kag:Bool} {cs:List T} (h:zn Λ u x) (hk:wL ks kag x=some cs):w8 Λ.lab Λ.w kag u cs/\zT ks cs=true:=by
 unfold wL at hk;split at hk
 ·rename_i c hc;split at hk
  ·rename_i hb;simp only [Bool.and_eq_true,beq_iff_eq] at hb;simp at hk;subst hk;refine ⟨?_,hb.1⟩;have hrc:=z0B h hc;obtain ⟨h1,h2⟩:=wa hb.1;unfold w8
   cases h with
   |agg hs hv=>
    have:kag=true:=by simpa [V.isAgg] using hb.2.symm
    subst this
    refine ⟨_,rfl,by simpa [Value.cells] using hrc.1,fun j u y hj hy=>?_⟩
    have:=hrc.2 j u (.t y) (by simpa [Value.cells] using hj) (by simp [hy]);exact this.Zv
   |t hx=>
    have:kag=false:=by simpa [V.isAgg] using hb.2.symm
    subst this;simp [V.Z8,V.zy] at hc;subst hc;exact ⟨_,rfl,hx⟩
   |zV=>
    simp [V.Z8,V.zy] at hc;subst hc
    cases ks with
    |nil=>simp [zT] at hb
    |cons s r=>cases s<;>simp [zT,KSh.ok] at hb
   |own a b c d e=>
    simp [V.Z8,V.zy] at hc;subst hc
    cases ks with
    |nil=>simp [zT] at hb
    |cons s r=>cases s<;>simp [zT,KSh.ok] at hb
   |fow a b c d e=>
    simp [V.Z8,V.zy] at hc;subst hc
    cases ks with
    |nil=>simp [zT] at hb
    |cons s r=>cases s<;>simp [zT,KSh.ok] at hb
   |fpt _ _=>simp [V.Z8,V.zy] at hc
   |gpt _ _ _ _=>simp [V.Z8,V.zy] at hc
   |gsl _ _ _ _=>simp [V.Z8,V.zy] at hc
   |slc _ _ _=>simp [V.Z8,V.zy] at hc
   |tup _ _=>simp [V.Z8,V.zy] at hc
   |ptr _ _=>simp [V.Z8,V.zy] at hc
   |mp _ _=>simp [V.Z8,V.zy] at hc
   |fn _ _=>simp [V.Z8,V.zy] at hc
   |gd _ _=>simp [V.Z8,V.zy] at hc
   |top=>simp [V.Z8,V.zy] at hc
   |ub _ _=>simp [V.Z8,V.zy] at hc
   |ui=>simp [V.Z8,V.zy] at hc
  ·cases hk
 ·cases hk
theorem Yz {Λ:L} {u:Value} {x:V} {ks:List KSh} {kag:Bool} {cs:List T} (h:zn Λ u x) (hk:wL ks kag x=some cs):u=kv kag cs/\zT ks cs=true:=by
 obtain ⟨h1,h2⟩:=QI h hk;exact ⟨h1.plain h2,h2⟩
theorem z4l {kt:TypeId} {ks:List KSh} (hk:z1E P kt ks false):∃s,ks=[s]:=by
 have h:=hk.sh;unfold Yi at h;split at h
 ·simp at h;exact ⟨_,h.symm⟩
 ·simp at h;exact ⟨_,h.symm⟩
 ·simp at h;exact ⟨_,h.symm⟩
 ·split at h<;>simp at h
 ·cases h
theorem Yw {s:KSh} {cs:List T} (h:zT [s] cs=true):∃x,cs=[x]/\s.ok x=true:=by
 match cs,h with
 |[x],h=>exact ⟨x,rfl,by simpa [zT] using h⟩
 |_::_::_,h=>simp [zT] at h
theorem wT {kt:TypeId} {ks:List KSh} {kag:Bool} (hK:z1E P kt ks kag) {cs:List T} (hc:zT ks cs=true) {ents:Array MapEntry} {es:List (List T×V)} (hsz:ents.size=es.length)
  (hkeys:∀(i:Nat) (e:MapEntry) (x:List T×V),ents[i]?=some e->es[i]?=some x->e.key=kv kag x.1) (hok:yj ks es=true) (w:World):
  (Instr.findKey kt (kv kag cs) ents.toList).run P w= .ok (match yf cs es with|some j=>(ents[j]?).map fun e=>(j,e.val)|none=>none) w:=by
 have hko:∀(i:Nat) (x:List T×V),es[i]?=some x->zT ks x.1=true:=by
  intro i x hx;unfold yj at hok;rw [List.all_eq_true] at hok;exact hok x (zMG hx)
 have hlen:ents.toList.length=es.length:=by simpa using hsz
 have hat:∀(j:Nat),ents.toList[j]?=ents[j]?:=fun j=>by simp
 cases kag with
 |false=>
  obtain ⟨s,rfl⟩:=z4l hK;obtain ⟨x,rfl,hx⟩:=Yw hc;obtain ⟨d,hd,_,_⟩:=qN hK hx hx
  have:=z0k (k:=kv false [x]) (kd:=d) (cs:=[x]) ents.toList es 0 hlen (fun j e y a b=>by
   obtain ⟨z,hz,hzo⟩:=Yw (hko j y b);obtain ⟨d',hd',h1,_⟩:=qN hK hx hzo;rw [hd] at hd';simp at hd';subst hd';have he:=hkeys j e y (by rw [←hat];exact a) b;rw [he,hz]
   simp only [kv,Bool.false_eq_true,if_false,h1,ZL,Bool.and_true])
  rw [MapKept.run_findKey hd this]
  cases yf [x] es with
  |none=>rfl
  |some j=>simp
 |true=>
  have hst:∃fs,P.underlying kt=some (.struct fs):=by
   have h:=hK.sh;unfold Yi at h
   split at h<;>simp at h
   exact ⟨_,by assumption⟩
  obtain ⟨fs,hfs⟩:=hst
  have hfk:(Instr.findKey kt (kv true cs) ents.toList).run P w=(Instr.findAsking kt (kv true cs) ents.toList).run P w:=by
   cases hl:ents.toList with
   |nil=>simp [Instr.findKey,run_underlying hfs,Instr.findNow,Instr.findAsking]
   |cons e r=>simp [Instr.findKey,run_underlying hfs,Instr.findNow,Instr.sameNow]
  rw [hfk,WZ (cs:=cs) ents.toList es 0 hlen (fun j e y a b=>by
   have he:=hkeys j e y (by rw [←hat];exact a) b;rw [he]
   exact QC hK hc (hko j y b) 9998 w)]
  cases yf cs es with
  |none=>rfl
  |some j=>simp
theorem z0v:∀(fs:List Field) (i:Nat) (ks:List KSh),Yl P i fs=some ks->∀f∈fs,f.name≠ "_"/\∃(j:Nat) (s:KSh) (d:TypeDesc),ks[j]?=some s/\f.offset=i+j/\P.underlying f.type=some d/\(d= .bool∨(∃k,d= .int k)∨d= .string)
 |[],_,_,_,f,hf=>by simp at hf
 |g::r,i,ks,h,f,hf=>by
  simp only [Yl] at h;split at h
  ·rename_i hgo
   have main:∀(s:KSh) (l:List KSh) (d:TypeDesc),Yl P (i+1) r=some l->ks=s::l->P.underlying g.type=some d->(d= .bool∨(∃k,d= .int k)∨d= .string)->f.name≠ "_"/\∃(j:Nat) (s:KSh) (d:TypeDesc),ks[j]?=some s/\f.offset=i+j/\P.underlying f.type=some d/\(d= .bool∨(∃k,d= .int k)∨d= .string):=by
    intro s l d hl hks hu hd;subst hks
    rcases List.mem_cons.1 hf with e|e
    ·subst e;exact ⟨hgo.2,0,s,d,rfl,hgo.1,hu,hd⟩
    ·obtain ⟨h1,j,s',d',h2,h3,h4⟩:=z0v r (i+1) l hl f e
     exact ⟨h1,j+1,s',d',by simpa using h2,by omega,h4⟩
   split at h
   ·rename_i hu hl;simp at h;exact main _ _ _ hl h.symm hu (.inl Z)
   ·rename_i hu hl;simp at h;exact main _ _ _ hl h.symm hu (.inr (.inl ⟨_,rfl⟩))
   ·rename_i hu hl;simp at h;exact main _ _ _ hl h.symm hu (.inr (.inr Z))
   ·cases h
  ·cases h
theorem Yf {t:TypeId} {d:TypeDesc} (hu:P.underlying t=some d) (hd:d= .bool∨(∃k,d= .int k)∨d= .string) (em:Bool) (n:Nat) (v:Value) (w:World):(Instr.checkKey em (n+1) t v).run P w= .ok () w:=by
 rcases hd with rfl|⟨k,rfl⟩|rfl<;>simp [Instr.checkKey,run_underlying hu]
theorem yK {kt:TypeId} {ks:List KSh} {kag:Bool} (hK:z1E P kt ks kag) {cs:List T} (hc:zT ks cs=true) (em:Bool) (w:World):(Instr.checkKey em 10000 kt (kv kag cs)).run P w= .ok () w:=by
 have h:=hK.sh;unfold Yi at h;split at h
 ·rename_i hu;exact Yf hu (.inl Z) em 9999 _ w
 ·rename_i hu;exact Yf hu (.inr (.inl ⟨_,rfl⟩)) em 9999 _ w
 ·rename_i hu;exact Yf hu (.inr (.inr Z)) em 9999 _ w
 ·rename_i fs hu;split at h
  ·simp only [Option.map_eq_some_iff,Prod.mk.injEq] at h;obtain ⟨l,hl,rfl,rfl⟩:=h;have each:=z0v fs.toList 0 l hl;obtain ⟨hlen,_⟩:=wa hc;show (Instr.checkKey em (9998+1+1) kt (kv true cs)).run P w= .ok () w;rw [Instr.checkKey];simp only [Sem.run_bind,run_underlying hu,Result.andThen_ok,kv,if_true];rw [←Array.forIn_toList];generalize fs.toList=L at each
   induction L with
   |nil=>simp
   |cons f L ih=>
    obtain ⟨hn,j,s,d,h1,h2,h3,h4⟩:=each f (by simp)
    have hlt:j<cs.length:=by rw [←hlen];exact (List.getElem?_eq_some_iff.1 h1).1
    have p1:(part f.type (cs.map Tv).toArray f.offset).run P w= .ok (Tv cs[j]) w:=Wg h3 h4 (by rw [h2];simp [hlt]) w;have p2:=Yf h3 h4 em 9998 (Tv cs[j]) w;simp only [List.forIn_cons,Sem.run_bind,hn,ne_eq,not_false_eq_true,if_true,Result.andThen_ok,p1,p2,Sem.run_pure];exact ih fun g hg=>each g (by simp [hg])
  ·cases h
 ·cases h
theorem WV (x:T) (n:Nat):(∃s:KSh,s.ok x=true)->Instr.sameBits n (Tv x) (Tv x)=true:=by
 rintro ⟨s,hs⟩
 cases x<;>cases s<;>simp [KSh.ok] at hs<;>cases n<;>simp [Tv,Instr.sameBits,z9t]
theorem z2t {kt:TypeId} {ks:List KSh} {kag:Bool} (hK:z1E P kt ks kag) {cs:List T} (hc:zT ks cs=true) (w:World):(Instr.keyThatStays (kv kag cs) (kv kag cs)).run P w= .ok (kv kag cs) w:=by
 have hs:Instr.sameBits 10000 (kv kag cs) (kv kag cs)=true:=by
  obtain ⟨h1,h2⟩:=wa hc
  cases kag with
  |true=>
   simp only [kv,if_true];rw [Instr.sameBits];simp only [List.size_toArray,List.length_map,BEq.rfl,Bool.true_and];rw [List.all_eq_true];intro p hp
   have hz:∀(l:List Value) (p:Value×Value),p∈l.zip l->p.1=p.2/\p.1∈l:=by
    intro l
    induction l with
    |nil=>intro p h;simp at h
    |cons a l ih=>
     intro p h;simp only [List.zip_cons_cons,List.mem_cons] at h
     rcases h with rfl|h
     ·simp
     ·obtain ⟨a1,a2⟩:=ih p h;exact ⟨a1,List.mem_cons_of_mem _ a2⟩
   obtain ⟨e1,e2⟩:=hz _ p hp;simp only [List.mem_map] at e2;obtain ⟨x,hx,e3⟩:=e2;obtain ⟨j,hj⟩:=List.mem_iff_getElem?.1 hx
   have hlt:j<ks.length:=by rw [h1];exact (List.getElem?_eq_some_iff.1 hj).1
   obtain ⟨a,b⟩:=p;simp only at e1 e3⊢;rw [←e1,←e3];exact WV x 9999 ⟨ks[j],h2 j ks[j] x (by simp [hlt]) hj⟩
  |false=>
   obtain ⟨s,rfl⟩:=z4l hK;obtain ⟨x,rfl,hx⟩:=Yw hc;simp only [kv,Bool.false_eq_true,if_false];exact WV x 10000 ⟨s,hx⟩
 simp [Instr.keyThatStays,hs]
end
theorem zcW {s:KSh} {x y:T} (hx:s.ok x=true) (hy:s.ok y=true) (h:x.eqb y=true):Tv x=Tv y:=by
 cases x<;>cases s<;>simp [KSh.ok] at hx<;>cases y<;>simp [KSh.ok] at hy<;>simp [T.eqb] at h<;>simp_all [Tv]
theorem z2u:∀{ks:List KSh} {cs ds:List T},zT ks cs=true->zT ks ds=true->ZL cs ds=true->cs.map Tv=ds.map Tv
 |[],[],[],_,_,_=>rfl
 |[],_::_,_,h,_,_=>by simp [zT] at h
 |[],_,_::_,_,h,_=>by simp [zT] at h
 |_::_,[],_,h,_,_=>by simp [zT] at h
 |_::_,_::_,[],_,h,_=>by simp [zT] at h
 |s::r,x::c,y::d,h1,h2,h3=>by
  simp only [zT,ZL,Bool.and_eq_true] at h1 h2 h3;simp only [List.map_cons];rw [zcW h1.1 h2.1 h3.1,z2u h1.2 h2.2 h3.2]
theorem Qn {ks:List KSh} {kag:Bool} {cs ds:List T} (h1:zT ks cs=true) (h2:zT ks ds=true) (h3:ZL cs ds=true):kv kag cs=kv kag ds:=by
 have e:=z2u h1 h2 h3;unfold kv
 cases kag with
 |true=>simp only [if_true];rw [e]
 |false=>
  match cs,ds,e with
  |[],[],_=>rfl
  |[],_::_,e=>cases e
  |_::_,[],e=>cases e
  |[x],[y],e=>simpa using e
  |[_],_::_::_,e=>simp at e
  |_::_::_,[_],e=>simp at e
  |_::_::_,_::_::_,_=>rfl
theorem wY:∀{k:List T} {es:List (List T×V)} {i:Nat},yf k es=some i->∃e,es[i]?=some e/\ZL k e.1=true/\z19 k es=some e.2/\(∀v,z26 k v es=es.set i (k,v))/\z0D k es=es.eraseIdx i
 |k,[],i,h=>by simp [yf] at h
 |k,e::r,i,h=>by
  simp only [yf] at h;split at h
  ·rename_i hk;simp at h;subst h
   exact ⟨e,rfl,hk,by simp [z19,hk],fun v=>by simp [z26,hk],by simp [z0D,hk]⟩
  ·rename_i hk;simp only [Option.map_eq_some_iff] at h;obtain ⟨j,hj,rfl⟩:=h;obtain ⟨e',h1,h2,h3,h4,h5⟩:=wY hj
   exact ⟨e',by simpa using h1,h2,by simp [z19,hk,h3],fun v=>by simp [z26,hk,h4],by simp [z0D,hk,h5]⟩
theorem Wb:∀{k:List T} {es:List (List T×V)},yf k es=none->z19 k es=none/\(∀v,z26 k v es=es++[(k,v)])/\z0D k es=es
 |k,[],_=>⟨rfl,fun _=>rfl,rfl⟩
 |k,e::r,h=>by
  simp only [yf] at h;split at h
  ·cases h
  ·rename_i hk
   have hr:yf k r=none:=by simpa using h
   obtain ⟨h1,h2,h3⟩:=Wb hr
   exact ⟨by simp [z19,hk,h1],fun v=>by simp [z26,hk,h2],by simp [z0D,hk,h3]⟩
section
variable {P:Program} {o:Oper} {gc:Bool} {base:Nat} {st:St}
theorem z2S {f:FuncId} {cnt:Option Bool} (h:z0p P f=some cnt):∃fn,P.funcs[f]?=some fn/\fn.body.isNone=true/\fn.origin= ""/\fn.name=(match cnt with|some true=> "internal/bytealg.CountString"|some false=> "internal/bytealg.IndexByteString"|none=> "internal/bytealg.abigen_runtime_cmpstring"):=by
 unfold z0p at h;split at h
 ·rename_i fn hf;split at h
  ·rename_i h1;split at h
   ·rename_i h2;simp at h;subst h
    exact ⟨fn,hf,h1.1,h1.2,by simpa using h2⟩
   ·split at h
    ·rename_i h2;simp at h;subst h
     exact ⟨fn,hf,h1.1,h1.2,by simpa using h2⟩
    ·split at h
     ·rename_i h2;simp at h;subst h
      exact ⟨fn,hf,h1.1,h1.2,by simpa using h2⟩
     ·simp at h
  ·simp at h
 ·simp at h
theorem QL:(Extern.allNextRows.lookup "":Option Extern.NextRow)=none:=by kernel_rfl
theorem z7X:(Extern.allNextRows.lookup "internal/bytealg.CountString":Option Extern.NextRow)=none:=by kernel_rfl
theorem z8G:(Extern.allNextRows.lookup "internal/bytealg.abigen_runtime_cmpstring":Option Extern.NextRow)=none:=by kernel_rfl
theorem z8f:(Extern.allNextRows.lookup "internal/bytealg.IndexByteString":Option Extern.NextRow)=none:=by kernel_rfl
theorem z6p {fn:Func} (hn:(Extern.allNextRows.lookup fn.name:Option Extern.NextRow)=none) (ho:(Extern.allNextRows.lookup fn.origin:Option Extern.NextRow)=none):Extern.findNext fn=none:=by
 show ((Extern.allNextRows.lookup fn.name).map (· fn.params fn.resultTypes) <|>(Extern.allNextRows.lookup fn.origin).map (· fn.params fn.resultTypes))=none;rw [hn,ho];rfl
theorem zbk {f:FuncId} {cnt:Bool} (h:z0p P f=some (some cnt)) (s:List UInt8) (c:Int) (w:World):
  (callFunc f #[.string ⟨⟨s⟩⟩,.int .u8 c]).run P w= .ok (.value (.int .i64 (if cnt then (Go.Lib.countByte s c.toNat.toUInt8:Int) else Go.Lib.indexByte s c.toNat.toUInt8))) w:=by
 obtain ⟨fn,hf,hb,ho,hn⟩:=z2S h
 cases cnt with
 |true=>
  simp only at hn
  have he:Extern.find fn=some Extern.BytealgCount.count:=by
   unfold Extern.find;rw [hn];rfl
  rw [run_callFunc_extern hf (by rw [hn];rfl) hb (z6p (by rw [hn];exact z7X) (by rw [ho];exact QL)) he];rw [Go.Lib.run_countString];rfl
 |false=>
  simp only at hn
  have he:Extern.find fn=some Extern.BytealgIndexByte.indexByte:=by
   unfold Extern.find;rw [hn];rfl
  rw [run_callFunc_extern hf (by rw [hn];rfl) hb (z6p (by rw [hn];exact z8f) (by rw [ho];exact QL)) he];rw [Go.Lib.run_indexByteString];rfl
theorem zdM {f:FuncId} {cnt:Bool} {args:Array Operand} {ats:Array TypeId} {x y:Operand} {x' y':Ar} {v:V} {ps:List Bool} (hop:o.op= .call {callee:= .value (.func f),args:=args,argTypes:=ats}) (ha:args.toList=[x,y])
  (hf:z0p P f=some (some cnt)) (hx:opA x=some x') (hy:opA y=some y') (he:Zl gc st (.xtr cnt x' y')=some (v,ps)) (hp:∀q∈ps,q):zC P o gc st v:=by
 intro C Λ ac _ hg h;simp only [Zl] at he;split at he
 ·rename_i s p1 c p2 h1 h2;simp only [Option.some.injEq,Prod.mk.injEq] at he;obtain ⟨rfl,rfl⟩:=he;have hx1:=zf h hx h1 (fun q hq=>hp q (by simp [hq])) hg;have hy1:=zf h hy h2 (fun q hq=>hp q (by simp [hq])) hg;have e1:=hx1.Zv.YY;have e2:=hy1.Zv.ZS
  have hm:args.toList.map ac.eval=[.string ⟨⟨s⟩⟩,.int .u8 c]:=by simp [ha,e1,e2]
  have hm2:args.map ac.eval=#[.string ⟨⟨s⟩⟩,.int .u8 c]:=by
   apply Array.ext';simpa using hm
  refine ⟨_,?_,.t (.int _ _)⟩;simp only [execOp,hop,resolve,Act.eval,Deferred.ofValue,Sem.run_bind,Sem.run_pure,Result.andThen_ok,invoke,hm2];exact zbk hf s c Λ.w
 ·cases he
theorem zb0 {f:FuncId} (h:z0p P f=some none) (s r:List UInt8) (w:World):
  (callFunc f #[.string ⟨⟨s⟩⟩,.string ⟨⟨r⟩⟩]).run P w= .ok (.value (.int .i64 (Go.Lib.compareBytes s r))) w:=by
 obtain ⟨fn,hf,hb,ho,hn⟩:=z2S h;simp only at hn
 have he:Extern.find fn=some Extern.BytealgCompare.compare:=by
  unfold Extern.find;rw [hn];rfl
 rw [run_callFunc_extern hf (by rw [hn];rfl) hb (z6p (by rw [hn];exact z8G) (by rw [ho];exact QL)) he];rw [Go.Lib.run_compareString];rfl
theorem zdP {f:FuncId} {args:Array Operand} {ats:Array TypeId} {x y:Operand} {x' y':Ar} {v:V} {ps:List Bool} (hop:o.op= .call {callee:= .value (.func f),args:=args,argTypes:=ats}) (ha:args.toList=[x,y])
  (hf:z0p P f=some none) (hx:opA x=some x') (hy:opA y=some y') (he:Zl gc st (.xcm x' y')=some (v,ps)) (hp:∀q∈ps,q):zC P o gc st v:=by
 intro C Λ ac _ hg h;simp only [Zl] at he;split at he
 ·rename_i s p1 c p2 h1 h2;simp only [Option.some.injEq,Prod.mk.injEq] at he;obtain ⟨rfl,rfl⟩:=he;have hx1:=zf h hx h1 (fun q hq=>hp q (by simp [hq])) hg;have hy1:=zf h hy h2 (fun q hq=>hp q (by simp [hq])) hg;have e1:=hx1.Zv.YY;have e2:=hy1.Zv.YY
  have hm:args.toList.map ac.eval=[.string ⟨⟨s⟩⟩,.string ⟨⟨c⟩⟩]:=by simp [ha,e1,e2]
  have hm2:args.map ac.eval=#[.string ⟨⟨s⟩⟩,.string ⟨⟨c⟩⟩]:=by
   apply Array.ext';simpa using hm
  refine ⟨_,?_,.t (.int _ _)⟩;simp only [execOp,hop,resolve,Act.eval,Deferred.ofValue,Sem.run_bind,Sem.run_pure,Result.andThen_ok,invoke,hm2];exact zb0 hf s c Λ.w
 ·cases he
theorem qh {t:TypeId} {zv:V} (h:wv P t=some zv) (w:World):∃z,(zeroValue t).run P w= .ok z w/\∀Λ,zn Λ z zv:=by
 unfold wv at h
 cases hz:ZK P t with
 |none=>rw [hz] at h;simp at h
 |some zs=>
  obtain ⟨i,z,hi,hz1,hlen,hok⟩:=y4 hz
  have hrun:(zeroValue t).run P w= .ok z w:=by simp [zeroValue,typeInfo,hi,hz1]
  have hb:(P.info? t).bind (·.zero)=some z:=by simp [hi,hz1]
  rw [hz,hb] at h;refine ⟨z,hrun,fun Λ=>?_⟩;have hrc:=yc (Λ:=Λ) hok
  have one:∀(y:V),zs=[y]->z.cells=#[z]->zn Λ z y:=by
   intro y hy hc;exact hrc.2 0 z y (by rw [hc];rfl) (by rw [hy];rfl)
  split at h
  ·rename_i e1 e2;simp at e1 e2 h;subst e1;subst e2;subst h;exact .agg (by simpa [Value.cells] using hrc.1) fun j v c a b=>hrc.2 j v c (by simpa [Value.cells] using a) b
  all_goals first
   |(rename_i e1 e2
     simp at e1 e2 h;obtain rfl:=h;subst e2
     exact one _ e1 Z)
   |(simp at h)
theorem Z4.Yy {Λ:L} {s:S} (h:Z4 Λ s) {k:Nat} {kag:Bool} {es:List (List T×V)} {sx:Option (Nat×List Nat)} (hk:zi s.sto k=some (.map kag es sx)) {b:Nat} (hb:Λ.lab b= .obj k):
  ∃(ents:Array MapEntry) (clock:Nat),Λ.w.heap[b]?=some (.map ents clock)/\YI Λ kag ents clock es sx:=by
 obtain ⟨b',ents,clock,h1,h2,h3⟩:=(h.sto k _ hk).2;obtain rfl:=h.inj b b' k hb h1;exact ⟨ents,clock,h2,h3⟩
theorem YI.keyed {Λ:L} {kag:Bool} {ents:Array MapEntry} {clock:Nat} {es:List (List T×V)} {sx:Option (Nat×List Nat)} (h:YI Λ kag ents clock es sx) {ks:List KSh} (hok:yj ks es=true):
  ∀(i:Nat) (e:MapEntry) (x:List T×V),ents[i]?=some e->es[i]?=some x->e.key=kv kag x.1:=by
 intro i e x a b;unfold yj at hok;rw [List.all_eq_true] at hok;exact (h.at_ i e x a b).1.plain (hok x (zMG b))
theorem YI.val {Λ:L} {kag:Bool} {ents:Array MapEntry} {clock:Nat} {es:List (List T×V)} {sx:Option (Nat×List Nat)} (h:YI Λ kag ents clock es sx) {i:Nat} {x:List T×V} (hx:es[i]?=some x):∃e,ents[i]?=some e/\zn Λ e.val x.2:=by
 have hlt:i<ents.size:=by rw [h.size];exact (List.getElem?_eq_some_iff.1 hx).1
 exact ⟨ents[i],by simp [hlt],(h.at_ i _ x (by simp [hlt]) hx).2⟩
theorem Qv {Λ:L} {v:Value} {x:V} (h:zn Λ v x) (ok b:Bool):zn Λ (if ok then .tuple #[v,.bool b] else v) (okV ok x b):=by
 cases ok with
 |false=>exact h
 |true=>
  refine .tup Z fun j u c hu hc=>?_
  match j,hu,hc with
  |0,hu,hc=>simp at hu hc;subst hu;subst hc;exact h
  |1,hu,hc=>simp at hu hc;subst hu;subst hc;exact .t (.bool b)
theorem zam {t kt et:TypeId} {x k:Operand} {ok:Bool} {ks:List KSh} {kag:Bool} {zv:V} {x' k':Ar} {v:V} {ps:List Bool} (hop:o.op= .lookup t x k ok) (hu:P.underlying t=some (.map kt et)) (hK:Yi P kt=some (ks,kag)) (hz:wv P et=some zv)
  (hx:opA x=some x') (hk:opA k=some k') (he:Zl gc st (.lookup ks kag zv ok x' k')=some (v,ps)) (hp:∀q∈ps,q):zC P o gc st v:=by
 intro C Λ a hC hg hr;simp only [Zl] at he;generalize h1:rd gc st x'=rx at he;generalize h2:rd gc st k'=rk at he;obtain ⟨vx,p1⟩:=rx;obtain ⟨vk,p2⟩:=rk;simp only at he;split at he
 ·cases he
 ·rename_i cs hkc;obtain ⟨z,hz1,hz2⟩:=qh hz Λ.w;have KT:z1E P kt ks kag:=⟨hK⟩;split at he
  ·rename_i q;split at he
   ·rename_i kag' es sx hes
    have hxv:zn Λ (a.eval x) (.mp q):=zf hr hx h1 (fun q hq=>hp q (by split at he<;>(simp at he;obtain ⟨_,rfl⟩:=he;simp [hq]))) hg
    have hkv:zn Λ (a.eval k) vk:=zf hr hk h2 (fun q hq=>hp q (by split at he<;>(simp at he;obtain ⟨_,rfl⟩:=he;simp [hq]))) hg
    have hkag:kag'=kag:=by
     have:=hp (kag'==kag) (by split at he<;>(simp at he;obtain ⟨_,rfl⟩:=he;simp))
     simpa using this
    have hkeys:yj ks es=true:=hp (yj ks es) (by split at he<;>(simp at he;obtain ⟨_,rfl⟩:=he;simp))
    subst hkag;obtain ⟨ek,hko⟩:=Yz hkv hkc;generalize hex:a.eval x=u at hxv
    cases hxv with
    |@mp b _ hql hb=>
     obtain ⟨ents,clock,hh,hM⟩:=hr.s.Yy hes hb;have hf:=wT KT hko hM.size (hM.keyed hkeys) hkeys Λ.w
     have hrun1:∀(i:Nat) (y:Value),(Instr.findKey kt (kv kag' cs) ents.toList).run P Λ.w= .ok (some (i,y)) Λ.w->(execOp a.eval o).run P Λ.w= .ok (.value (if ok then .tuple #[y,.bool true] else y)) Λ.w:=by
      intro i y hf';simp only [execOp,hop,hex,ek];simp only [Instr.lookup,Sem.run_bind,run_underlying hu,MapKept.run_getObj_map hh,Result.andThen_ok,Sem.run_pure,yK KT hko,hf']
     have hrun0:(Instr.findKey kt (kv kag' cs) ents.toList).run P Λ.w= .ok none Λ.w->(execOp a.eval o).run P Λ.w= .ok (.value (if ok then .tuple #[z,.bool false] else z)) Λ.w:=by
      intro hf';simp only [execOp,hop,hex,ek];simp only [Instr.lookup,Sem.run_bind,run_underlying hu,MapKept.run_getObj_map hh,Result.andThen_ok,Sem.run_pure,yK KT hko,hf',hz1]
     split at he
     ·rename_i v' hg';simp at he;obtain ⟨rfl,_⟩:=he
      cases hm:yf cs es with
      |none=>rw [(Wb hm).1] at hg';cases hg'
      |some i=>
       obtain ⟨e,h3,h4,h5,_,_⟩:=wY hm;rw [hg'] at h5;simp at h5;subst h5;obtain ⟨en,h6,h7⟩:=hM.val h3;exact ⟨_,hrun1 i en.val (by rw [hf,hm];simp [h6]),Qv h7 ok true⟩
     ·rename_i hg';simp at he;obtain ⟨rfl,_⟩:=he
      cases hm:yf cs es with
      |some i=>obtain ⟨e,_,_,h5,_,_⟩:=wY hm;rw [hg'] at h5;cases h5
      |none=>
       exact ⟨_,hrun0 (by rw [hf,hm]),Qv (hz2 Λ) ok false⟩
   ·cases he
  ·simp at he;obtain ⟨rfl,rfl⟩:=he;have hxv:zn Λ (a.eval x) (.t .qG):=zf hr hx h1 (fun q hq=>hp q (by simp [hq])) hg;have hkv:zn Λ (a.eval k) vk:=zf hr hk h2 (fun q hq=>hp q (by simp [hq])) hg;obtain ⟨ek,hko⟩:=Yz hkv hkc;generalize hex:a.eval x=u at hxv
   have hu':u= .map none:=by cases hxv with|t h=>cases h;rfl
   subst hu';have hf:=wT (ents:=#[]) (es:=[]) KT hko rfl (by simp) (by simp [yj]) Λ.w;refine ⟨_,?_,Qv (hz2 Λ) ok false⟩;simp only [execOp,hop,hex,ek];simp only [Instr.lookup,Sem.run_bind,run_underlying hu,Result.andThen_ok,Sem.run_pure,yK KT hko];simp only [yf] at hf;simp only [hf,Sem.run_bind,Result.andThen_ok,hz1,Sem.run_pure]
  ·cases he
theorem z92 {t e ty:TypeId} {x y:Operand} {neg:Bool} {x':Ar} {v:V} {ps:List Bool} (hop:o.op= .binOp (if neg then .neq else .eql) t x y ty) (hy:y= .const (.slice none 0 0)) (hu:P.underlying t=some (.slice e)) (hx:opA x=some x')
  (he:Zl gc st (.eqn neg x')=some (v,ps)) (hp:∀q∈ps,q):zC P o gc st v:=by
 intro C Λ a hC hg hr;have hc:∀v,a.eval (.const v)=v:=fun _=>rfl
 have run:∀(ad:Option Addr) (n c:Nat),a.eval x= .slice ad n c->(execOp a.eval o).run P Λ.w= .ok (.value (.bool (if neg then !ad.isNone else ad.isNone))) Λ.w:=by
  intro ad n c hex
  have hq:(Op.equal t (.slice ad n c) (.slice none 0 0)).run P Λ.w= .ok ad.isNone Λ.w:=Zy _ _ Λ.w _ (fun n=>by cases ad<;>simp [Op.equalIn,run_underlying hu])
  subst hy
  cases neg<;>simp [execOp,hop,hex,hc,eqGuard,binOp,hq]
 simp only [Zl] at he;generalize h1:rd gc st x'=rx at he;obtain ⟨vx,p1⟩:=rx
 have lst:∀(xs:List (List T)),zO Λ.lab Λ.w (a.eval x) (.lst xs)->∃ad n c,a.eval x= .slice ad n c/\(ad.isNone=true->∀c∈xs,c=[]):=by
  intro xs h;generalize a.eval x=u at h
  cases h with
  |lst ad cap sz xs b o vf h1 h2 h3 h4 h5 h6=>
   refine ⟨ad,xs.length,cap,rfl,fun hn c hc=>?_⟩
   cases ad with
   |some _=>simp at hn
   |none=>
    cases c with
    |nil=>rfl
    |cons z s=>
     obtain ⟨i,hi⟩:=List.mem_iff_getElem?.1 hc;exact absurd (h3 i 0 (z::s) z hi Z) (by simp)
 have fin:∀(xs:List (List T)),zO Λ.lab Λ.w (a.eval x) (.lst xs)->∃v',(execOp a.eval o).run P Λ.w= .ok (.value v') Λ.w/\zn Λ v' (if neg then .ub True (∀c∈xs,c=[]) else .ub (∀c∈xs,c=[]) True):=by
  intro xs h;obtain ⟨ad,n,c,e1,e2⟩:=lst xs h;refine ⟨_,run ad n c e1,?_⟩
  cases neg with
  |false=>simp only [Bool.false_eq_true,if_false];exact .ub e2 (fun _=>trivial)
  |true=>simp only [if_true];exact .ub (fun _=>trivial) (fun h=>e2 (by simpa using h))
 split at he
 ·rename_i p h;simp only [Prod.mk.injEq] at h;obtain ⟨rfl,rfl⟩:=h;simp at he;obtain ⟨rfl,rfl⟩:=he;have hxv:=zf hr hx h1 hp hg;generalize hex:a.eval x=u at hxv
  cases hxv with
  |zV=>exact ⟨_,run _ 0 0 hex,.ub (fun _=>trivial) (fun _=>trivial)⟩
 ·rename_i p h;simp only [Prod.mk.injEq] at h;obtain ⟨rfl,rfl⟩:=h;simp at he;obtain ⟨rfl,rfl⟩:=he;have hxv:=zf hr hx h1 hp hg;generalize hex:a.eval x=u at hxv
  cases hxv with
  |slc _ _ _=>exact ⟨_,run _ _ _ hex,by cases neg<;>exact .t (.bool _)⟩
 ·rename_i xs p h;simp only [Prod.mk.injEq] at h;obtain ⟨rfl,rfl⟩:=h;simp at he;obtain ⟨rfl,rfl⟩:=he;have hxv:=zf hr hx h1 hp hg
  have:zO Λ.lab Λ.w (a.eval x) (.lst xs):=by
   generalize a.eval x=u at hxv
   cases hxv with
   |own h _ _ _ _=>exact h
  exact fin xs this
 ·rename_i xs p h;simp only [Prod.mk.injEq] at h;obtain ⟨rfl,rfl⟩:=h;simp at he;obtain ⟨rfl,rfl⟩:=he;exact fin xs (zf hr hx h1 hp hg).Zv
 ·cases he
theorem zaj:∀{xs:List (List T)} {ns:List Int},u8s xs=some ns->xs.length=ns.length/\∀(i:Nat) (n:Int),ns[i]?=some n->xs[i]?=some [.int .u8 n]
 |[],ns,h=>by simp [u8s] at h;subst h;simp
 |c::r,ns,h=>by
  unfold u8s at h;split at h
  ·rename_i h2;cases h2
  ·rename_i n r2 h2;simp only [List.cons.injEq] at h2;obtain ⟨rfl,rfl⟩:=h2;simp only [Option.map_eq_some_iff] at h;obtain ⟨ms,hm,rfl⟩:=h;obtain ⟨k1,k2⟩:=zaj hm
   refine ⟨by simp [k1],fun i x hx=>?_⟩
   cases i with
   |zero=>simp at hx;subst hx;rfl
   |succ i=>exact k2 i x (by simpa using hx)
  ·cases h
theorem zd8 {src dst e:TypeId} {x:Operand} {x':Ar} {v:V} {ps:List Bool} (hop:o.op= .convert src dst x) (hs:P.underlying src=some (.slice e)) (hd:P.underlying dst=some .string) (hu:P.underlying e=some (.int .u8)) (hx:opA x=some x')
  (he:Zl gc st (.z9Z x')=some (v,ps)) (hp:∀q∈ps,q):zC P o gc st v:=by
 intro C Λ a hC hg hr;simp only [Zl] at he;generalize h1:rd gc st x'=rx at he;obtain ⟨vx,p1⟩:=rx
 have fin:∀(xs:List (List T)),zO Λ.lab Λ.w (a.eval x) (.lst xs)->u8S xs=some v->∃v',(execOp a.eval o).run P Λ.w= .ok (.value v') Λ.w/\zn Λ v' v:=by
  intro xs h hu8;unfold u8S at hu8;split at hu8
  ·rename_i n r hns;simp only [Option.some.injEq] at hu8;subst hu8;obtain ⟨k1,k2⟩:=zaj hns;generalize hex:a.eval x=u at h
   cases h with
   |lst ad cap sz xs b o2 vf hcap hsz ha hrd hc hh=>
    have h0:=k2 0 n rfl;obtain rfl:=ha 0 0 _ _ h0 rfl;have hz:=hsz 0 _ h0;simp only [List.length_singleton] at hz;subst hz
    have hcell:∀i,i<xs.length->Λ.w.cell? ⟨b,o2+i,none⟩=some (.int .u8 ((n::r).getD i 0)):=by
     intro i hi
     have hi2:i<(n::r).length:=by rw [←k1];exact hi
     have e1:=k2 i (n::r)[i] (List.getElem?_eq_getElem hi2);have e2:=hc i 0 _ _ e1 rfl;have e3:=hh i 0 _ _ e1 rfl
     have e4:vf i 0= .int .u8 (n::r)[i]:=by generalize vf i 0=z at e3;cases e3;rfl
     rw [e4] at e2;simp only [Nat.mul_one,Nat.add_zero] at e2;rw [e2,List.getD_eq_getElem?_getD,List.getElem?_eq_getElem hi2];rfl
    refine ⟨.string (strOfNums (n::r)),?_,?_⟩
    ·simp only [execOp,hop,hex,Sem.run_bind];rw [run_convert_bytes_arg Λ.w src e hs hu b o2 xs.length cap (n::r) k1.symm hcell dst hd];rfl
    ·exact .t (.str _)
  ·cases hu8
 split at he
 ·rename_i xs p h;simp only [Prod.mk.injEq] at h;obtain ⟨rfl,rfl⟩:=h;simp only [Option.map_eq_some_iff,Prod.mk.injEq] at he;obtain ⟨v',h2,rfl,rfl⟩:=he;exact fin xs (zf hr hx h1 hp hg).Zv h2
 ·rename_i xs p h;simp only [Prod.mk.injEq] at h;obtain ⟨rfl,rfl⟩:=h;simp only [Option.map_eq_some_iff,Prod.mk.injEq] at he;obtain ⟨v',h2,rfl,rfl⟩:=he;have hxv:=zf hr hx h1 hp hg
  have:zO Λ.lab Λ.w (a.eval x) (.lst xs):=by
   generalize a.eval x=u at hxv
   cases hxv with
   |own h _ _ _ _=>exact h
  exact fin xs this h2
 ·cases he
theorem zal {t ty:TypeId} {x y:Operand} {neg:Bool} {ks:List KSh} {x' y':Ar} {v:V} {ps:List Bool} (hop:o.op= .binOp (if neg then .neq else .eql) t x y ty) (hK:Yi P t=some (ks,true)) (hx:opA x=some x') (hy:opA y=some y')
  (he:Zl gc st (.z7P neg ks x' y')=some (v,ps)) (hp:∀q∈ps,q):zC P o gc st v:=by
 intro C Λ a hC hg hr;simp only [Zl] at he;generalize h1:rd gc st x'=rx at he;generalize h2:rd gc st y'=ry at he;obtain ⟨vx,p1⟩:=rx;obtain ⟨vy,p2⟩:=ry;simp only at he;split at he
 ·rename_i cs ds hc hd;simp at he;obtain ⟨rfl,rfl⟩:=he;have hxv:zn Λ (a.eval x) vx:=zf hr hx h1 (fun q hq=>hp q (by simp [hq])) hg;have hyv:zn Λ (a.eval y) vy:=zf hr hy h2 (fun q hq=>hp q (by simp [hq])) hg;obtain ⟨e1,k1⟩:=Yz hxv hc;obtain ⟨e2,k2⟩:=Yz hyv hd;have KT:z1E P t ks true:=⟨hK⟩;have hq:=QC KT k1 k2 9998 Λ.w
  have hgt:P.eqGuardType P.depth t=false:=by
   have h:=hK;unfold Yi at h
   split at h<;>try (simp at h;done)
   split at h
   ·rename_i h';exact h'.2
   ·cases h
  simp only [kv,if_true] at e1 e2 hq;refine ⟨.bool (if neg then !(ZL cs ds) else ZL cs ds),?_,.t (.bool _)⟩
  cases neg with
  |false=>
   have hb:=run_eql_struct (P:=P) Λ.w t (cs.map Tv).toArray (ds.map Tv).toArray;rw [hq] at hb;simp only [Bool.false_eq_true,if_false] at hop⊢;simp only [execOp,hop,e1,e2];have hgu:=run_eqGuard_agg (P:=P) Λ.w .eql t x y (cs.map Tv).toArray (ds.map Tv).toArray hgt;simp [hgu,hb]
  |true=>
   have hb:=run_neq_struct (P:=P) Λ.w t (cs.map Tv).toArray (ds.map Tv).toArray;rw [hq] at hb;simp only [if_true] at hop⊢;simp only [execOp,hop,e1,e2];have hgu:=run_eqGuard_agg (P:=P) Λ.w .neq t x y (cs.map Tv).toArray (ds.map Tv).toArray hgt;simp [hgu,hb]
 ·cases he
def ym (w:World) (b:Nat) (ents:Array MapEntry) (clock:Nat):World:={w with heap:=w.heap.setIfInBounds b (.map ents clock)}
theorem Wf {w:World} {b:Nat} {ents:Array MapEntry} {clock:Nat}:Yp w (ym w b ents clock) b:=
 ⟨rfl,rfl,rfl,by simp [ym],fun c hc=>by simp [ym,Ne.symm hc]⟩
theorem z8l {w:World} {b:Nat} {ents:Array MapEntry} {clock:Nat} {ob:Obj} (h:w.heap[b]?=some ob):(ym w b ents clock).heap[b]?=some (.map ents clock):=(MapKept.heap_set h).1
theorem yz {Λ:L} {s:S} {q b:Nat} {kag:Bool} {es':List (List T×V)} {sx':Option (Nat×List Nat)} {ents ents':Array MapEntry} {clock clock':Nat} (h:Z4 Λ s) (hq:q<Λ.nxt) (hb:Λ.lab b= .obj q) (hh:Λ.w.heap[b]?=some (.map ents clock))
  (hM:YI Λ kag ents' clock' es' sx') {v:V} {rd:Bool}:
  Kp Λ {Λ with w:=ym Λ.w b ents' clock'}/\Z4 {Λ with w:=ym Λ.w b ents' clock'} (s.app {v:=v,ob:=[(q,.map kag es' sx')],rd:=rd})/\∀k,y9 Λ k->y9 {Λ with w:=ym Λ.w b ents' clock'} k:=by
 have hkp:Kp Λ {Λ with w:=ym Λ.w b ents' clock'}:=Kp.wrote Wf hb
 have hF:Zb Λ {Λ with w:=ym Λ.w b ents' clock'}:=Zb.wrote Wf hb
 refine ⟨hkp,?_,fun k h=>h.yq hF h.obj h.arr h.fro⟩;refine h.step hkp Z (fun j ob hj=>?_) h.inj (fun c hc=>h.new c (by simpa [ym] using hc)) h.bnd h.frz hF;simp only [S.app,Zj] at hj;rw [Zh] at hj;split at hj
 ·rename_i e;subst e;simp at hj;subst hj;exact .inr ⟨hq,b,ents',clock',hb,z8l hh,hM.yq (fun _ _ h=>h.mono hkp.fr) (fun _ _ _ _ h=>h.mono hkp)⟩
 ·rename_i hne;refine .inl ⟨hj,fun c hc=>?_,rfl⟩
  have:c≠b:=by rintro rfl;rw [hb] at hc;simp at hc;exact hne hc
  exact Wf.old c this
theorem YI.set {Λ:L} {kag:Bool} {ents:Array MapEntry} {clock:Nat} {es:List (List T×V)} {sx:Option (Nat×List Nat)} (h:YI Λ kag ents clock es sx) {i:Nat} {k:Value} {cs:List T} {u:Value} {v:V} (hk:w8 Λ.lab Λ.w kag k cs) (hv:zn Λ u v):
  YI Λ kag (ents.modify i fun e=>{e with key:=k,val:=u}) clock (es.set i (cs,v)) sx:=by
 have hget:∀(j:Nat) (e:MapEntry),(ents.modify i fun e=>{e with key:=k,val:=u})[j]?=some e->∃e0,ents[j]?=some e0/\e.born=e0.born/\(i≠j->e=e0)/\(i=j->e.key=k/\e.val=u):=by
  intro j e he;rw [Array.getElem?_modify] at he;split at he
  ·rename_i hij
   cases h0:ents[j]? with
   |none=>rw [h0] at he;simp at he
   |some e0=>rw [h0] at he;simp at he;subst he;exact ⟨e0,rfl,rfl,fun h=>absurd hij h,fun _=>⟨rfl,rfl⟩⟩
  ·rename_i hij;exact ⟨e,he,rfl,fun _=>rfl,fun h=>absurd h hij⟩
 refine ⟨by simp [h.size],fun j e x a b=>?_,fun j e a=>?_,fun j j' e f a b hb=>?_,fun c bs hs=>?_⟩
 ·obtain ⟨e0,h0,_,h2,h3⟩:=hget j e a;rw [List.getElem?_set] at b;split at b
  ·rename_i hij;split at b
   ·simp at b;subst b;obtain ⟨h4,h5⟩:=h3 hij
    exact ⟨by rw [h4];exact hk,by rw [h5];exact hv⟩
   ·cases b
  ·rename_i hij;rw [h2 hij];exact h.at_ j e0 x h0 b
 ·obtain ⟨e0,h0,h1,_,_⟩:=hget j e a;rw [h1];exact h.born j e0 h0
 ·obtain ⟨e0,h0,h1,_,_⟩:=hget j e a;obtain ⟨f0,g0,g1,_,_⟩:=hget j' f b;exact h.apart j j' e0 f0 h0 g0 (by rw [←h1,←g1];exact hb)
 ·obtain ⟨e1,e2⟩:=h.known c bs hs;refine ⟨e1,?_⟩;rw [←e2];apply List.ext_getElem?;intro j;simp only [List.getElem?_map]
  have:(ents.modify i fun e=>{e with key:=k,val:=u}).toList[j]?=(ents.modify i fun e=>{e with key:=k,val:=u})[j]?:=Array.getElem?_toList
  rw [this,Array.getElem?_modify]
  have h2:ents.toList[j]?=ents[j]?:=by simp
  rw [h2];split
  ·cases ents[j]?<;>rfl
  ·rfl
theorem YI.push {Λ:L} {kag:Bool} {ents:Array MapEntry} {clock:Nat} {es:List (List T×V)} {sx:Option (Nat×List Nat)} (h:YI Λ kag ents clock es sx) {k:Value} {cs:List T} {u:Value} {v:V} (hk:w8 Λ.lab Λ.w kag k cs) (hv:zn Λ u v) {sx':Option (Nat×List Nat)}
  (hs:∀c bs,sx'=some (c,bs)->∃c0 bs0,sx=some (c0,bs0)/\c=c0+1/\bs=bs0++[c0]):
  YI Λ kag (ents.push {key:=k,val:=u,born:=clock}) (clock+1) (es++[(cs,v)]) sx':=by
 have hget:∀(j:Nat) (e:MapEntry),(ents.push {key:=k,val:=u,born:=clock})[j]?=some e->(ents[j]?=some e/\j<ents.size)∨(j=ents.size/\e={key:=k,val:=u,born:=clock}):=by
  intro j e he;rw [Array.getElem?_push] at he;split at he
  ·rename_i hj;simp at he;exact .inr ⟨hj,he.symm⟩
  ·rename_i hj;exact .inl ⟨he,(Array.getElem?_eq_some_iff.1 he).1⟩
 refine ⟨by simp [h.size],fun j e x a b=>?_,fun j e a=>?_,fun j j' e f a b hb=>?_,fun c bs hc=>?_⟩
 ·rcases hget j e a with ⟨h1,h2⟩|⟨h1,rfl⟩
  ·rw [List.getElem?_append_left (by rw [←h.size];exact h2)] at b;exact h.at_ j e x h1 b
  ·subst h1;rw [List.getElem?_append_right (by rw [h.size];exact Nat.le_refl _),h.size] at b;simp at b;subst b;exact ⟨hk,hv⟩
 ·rcases hget j e a with ⟨h1,h2⟩|⟨h1,rfl⟩
  ·have:=h.born j e h1;omega
  ·simp
 ·rcases hget j e a with ⟨h1,h2⟩|⟨h1,rfl⟩
  ·rcases hget j' f b with ⟨g1,g2⟩|⟨g1,rfl⟩
   ·exact h.apart j j' e f h1 g1 hb
   ·have:=h.born j e h1;simp at hb;omega
  ·rcases hget j' f b with ⟨g1,g2⟩|⟨g1,rfl⟩
   ·have:=h.born j' f g1;simp at hb;omega
   ·omega
 ·obtain ⟨c0,bs0,h0,rfl,rfl⟩:=hs c bs hc;obtain ⟨e1,e2⟩:=h.known c0 bs0 h0
  exact ⟨by rw [e1],by rw [←e2,←e1];simp⟩
theorem YI.forget {Λ:L} {kag:Bool} {ents:Array MapEntry} {clock:Nat} {es:List (List T×V)} {sx:Option (Nat×List Nat)} (h:YI Λ kag ents clock es sx):YI Λ kag ents clock es none:=
 ⟨h.size,h.at_,h.born,h.apart,fun _ _ h=>by cases h⟩
theorem map_eraseIdx {α β:Type} (f:α->β):∀(l:List α) (i:Nat),(l.eraseIdx i).map f=(l.map f).eraseIdx i
 |[],i=>by simp
 |x::r,0=>by simp
 |x::r,i+1=>by simp [map_eraseIdx f r i]
theorem YI.erase {Λ:L} {kag:Bool} {ents:Array MapEntry} {clock:Nat} {es:List (List T×V)} {sx:Option (Nat×List Nat)} (h:YI Λ kag ents clock es sx) (i:Nat):YI Λ kag (ents.eraseIdxIfInBounds i) clock (es.eraseIdx i) (z5k (some i) sx):=by
 have hl:(ents.eraseIdxIfInBounds i).toList=ents.toList.eraseIdx i:=by
  unfold Array.eraseIdxIfInBounds;split
  ·simp
  ·rename_i hi;rw [List.eraseIdx_of_length_le (by simpa using hi)]
 have hat:∀j:Nat,(ents.eraseIdxIfInBounds i)[j]?=(ents.toList.eraseIdx i)[j]?:=fun j=>by rw [←hl];exact Array.getElem?_toList.symm
 have hidx:∀(α:Type) (l:List α) (j:Nat),(l.eraseIdx i)[j]?=l[if j<i then j else j+1]?:=fun α l j=>by rw [List.getElem?_eraseIdx];split<;>rfl
 have hent:∀(j:Nat) (e:MapEntry),(ents.eraseIdxIfInBounds i)[j]?=some e->ents[if j<i then j else j+1]?=some e:=by
  intro j e he;rw [hat,hidx] at he;simpa using he
 refine ⟨?_,fun j e x a b=>?_,fun j e a=>h.born _ e (hent j e a),fun j j' e f a b hb=>?_,fun c bs hc=>by
  cases sx with
  |none=>cases hc
  |some y=>
   obtain ⟨c',bs'⟩:=y;obtain ⟨h1,h2⟩:=h.known c' bs' rfl;simp only [z5k,Option.some.injEq,Prod.mk.injEq] at hc;obtain ⟨rfl,rfl⟩:=hc
   exact ⟨h1,by rw [hl,←h2,map_eraseIdx]⟩⟩
 ·have h1:(ents.eraseIdxIfInBounds i).size=(ents.toList.eraseIdx i).length:=by rw [←hl];exact Array.length_toList.symm
  rw [h1,List.length_eraseIdx,List.length_eraseIdx];have:=h.size;simp [this]
 ·rw [hidx] at b;exact h.at_ _ e x (hent j e a) b
 ·have:=h.apart _ _ e f (hent j e a) (hent j' f b) hb
  split at this<;>split at this<;>omega
theorem zcF {t kt et:TypeId} {x k v:Operand} {ks:List KSh} {kag:Bool} {x' k' v':Ar} {q:Nat} {cs:List T} {es:List (List T×V)} {sx:Option (Nat×List Nat)} (hop:o.op= .mapUpdate t x k v) (hu:P.underlying t=some (.map kt et)) (hK:Yi P kt=some (ks,kag))
  (hx:opA x=some x') (hk:opA k=some k') (hv:opA v=some v') (hxv:x'.u st= .mp q) (hkc:wL ks kag (k'.u st)=some cs) (hes:zi st.s.sto q=some (.map kag es sx)) (hok:yj ks es=true):
  zR P o base st {v:= .top,ob:=[(q,.map kag (z26 cs (v'.u st) es) none)],rd:=true}:=by
 intro C Λ a next Q hC hr _ _ hnext;have hx1:=hr.opu hx;have hv1:=hr.opu hv;obtain ⟨ek,hko⟩:=Yz (hr.opu hk) hkc;have KT:z1E P kt ks kag:=⟨hK⟩;rw [hxv] at hx1;generalize hex:a.eval x=u at hx1
 cases hx1 with
 |@mp b _ hql hb=>
  obtain ⟨ents,clock,hh,hM⟩:=hr.s.Yy hes hb;have hf:=wT KT hko hM.size (hM.keyed hok) hok Λ.w;have hka:w8 Λ.lab Λ.w kag (kv kag cs) cs:=ek▸(QI (hr.opu hk) hkc).1
  cases hm:yf cs es with
  |some i=>
   obtain ⟨e,h1,h2,h3,h4,_⟩:=wY hm;obtain ⟨en,h5,h6⟩:=hM.val h1
   have hek:en.key=kv kag cs:=by
    have:=hM.keyed hok i en e h5 h1
    have hko':zT ks e.1=true:=by unfold yj at hok;rw [List.all_eq_true] at hok;exact hok e (zMG h1)
    rw [this,Qn hko hko' h2]
   have hrun:(execOp a.eval o).run P Λ.w= .ok .skip (ym Λ.w b (ents.modify i fun e=>{e with key:=kv kag cs,val:=a.eval v}) clock):=by
    rw [hm] at hf;simp only [h5,Option.map] at hf;simp only [execOp,hop,hex,ek];simp only [Instr.mapUpdate,Sem.run_bind,run_underlying hu,MapKept.run_getObj_map hh,Result.andThen_ok,yK KT hko,hf,h5,Option.map,Option.getD,hek,z2t KT hko,MapKept.run_setObj_map _ hh];rfl
   unfold Oper.wp;rw [hrun];simp only [h4] at hnext;obtain ⟨g1,g2,g3⟩:=yz (v:= .top) (rd:=true) hr.s hql hb hh ((hM.set (i:=i) hka hv1).forget);exact hnext undef _ g1 Z g2 .top (fun k h _ _=>g3 k h)
  |none=>
   obtain ⟨_,h4,_⟩:=Wb hm
   have hrun:(execOp a.eval o).run P Λ.w= .ok .skip (ym Λ.w b (ents.push {key:=kv kag cs,val:=a.eval v,born:=clock}) (clock+1)):=by
    rw [hm] at hf;simp only [execOp,hop,hex,ek];simp only [Instr.mapUpdate,Sem.run_bind,run_underlying hu,MapKept.run_getObj_map hh,Result.andThen_ok,yK KT hko,hf,MapKept.run_setObj_map _ hh];rfl
   unfold Oper.wp;rw [hrun];simp only [h4] at hnext
   obtain ⟨g1,g2,g3⟩:=yz (v:= .top) (rd:=true) hr.s hql hb hh (hM.push (sx':=none) hka hv1 (fun _ _ h=>by cases h))
   exact hnext undef _ g1 Z g2 .top (fun k h _ _=>g3 k h)
theorem zdd {ty kt et:TypeId} {x k:Operand} {args:Array Operand} {ats:Array TypeId} {ks:List KSh} {kag:Bool} {x' k':Ar} {q:Nat} {cs:List T} {es:List (List T×V)} {sx:Option (Nat×List Nat)} (hop:o.op= .call {callee:= .builtin .delete,args:=args,argTypes:=ats}) (ha:args.toList=[x,k]) (hat:ats[0]?=some ty)
  (hu:P.underlying ty=some (.map kt et)) (hK:Yi P kt=some (ks,kag)) (hx:opA x=some x') (hk:opA k=some k') (hxv:x'.u st= .mp q) (hkc:wL ks kag (k'.u st)=some cs) (hes:zi st.s.sto q=some (.map kag es sx)) (hok:yj ks es=true):
  zR P o base st {v:= .top,ob:=[(q,.map kag (z0D cs es) (z5k (yf cs es) sx))],rd:=true}:=by
 intro C Λ a next Q hC hr _ _ hnext;have hx1:=hr.opu hx;obtain ⟨ek,hko⟩:=Yz (hr.opu hk) hkc;have KT:z1E P kt ks kag:=⟨hK⟩
 have haa:args=#[x,k]:=by apply Array.ext';simpa using ha
 subst haa;rw [hxv] at hx1;generalize hex:a.eval x=u at hx1
 cases hx1 with
 |@mp b _ hql hb=>
  obtain ⟨ents,clock,hh,hM⟩:=hr.s.Yy hes hb;have hf:=wT KT hko hM.size (hM.keyed hok) hok Λ.w
  cases hm:yf cs es with
  |some i=>
   obtain ⟨e,h1,_,_,_,h4⟩:=wY hm;obtain ⟨en,h5,h6⟩:=hM.val h1
   have hrun:(execOp a.eval o).run P Λ.w= .ok (.value (.tuple #[])) (ym Λ.w b (ents.eraseIdxIfInBounds i) clock):=by
    rw [hm] at hf;simp only [h5,Option.map] at hf;simp only [execOp,hop,resolve,invoke,builtin,List.map_toArray,List.map_cons,List.map_nil,hex,ek];simp [Builtin.delete_,hat,run_underlying hu,MapKept.run_getObj_map hh,yK KT hko,hf,MapKept.run_setObj_map _ hh];rfl
   unfold Oper.wp;rw [hrun];simp only [h4,hm] at hnext;obtain ⟨g1,g2,g3⟩:=yz (v:= .top) (rd:=true) hr.s hql hb hh (hM.erase i);exact hnext _ _ g1 Z g2 .top (fun k h _ _=>g3 k h)
  |none=>
   obtain ⟨_,_,h4⟩:=Wb hm
   have hrun:(execOp a.eval o).run P Λ.w= .ok (.value (.tuple #[])) (ym Λ.w b ents clock):=by
    rw [hm] at hf;simp only [execOp,hop,resolve,invoke,builtin,List.map_toArray,List.map_cons,List.map_nil,hex,ek];simp [Builtin.delete_,hat,run_underlying hu,MapKept.run_getObj_map hh,yK KT hko,hf,MapKept.run_setObj_map _ hh];rfl
   unfold Oper.wp;rw [hrun]
   simp only [h4,hm,show z5k none sx=sx from by cases sx<;>rfl] at hnext
   obtain ⟨g1,g2,g3⟩:=yz (v:= .top) (rd:=true) hr.s hql hb hh hM;exact hnext _ _ g1 Z g2 .top (fun k h _ _=>g3 k h)
theorem YI.empty {Λ:L} {kag:Bool} {clock:Nat} {sx:Option (Nat×List Nat)} (h:∀c bs,sx=some (c,bs)->clock=c/\bs=[]):YI Λ kag #[] clock [] sx:=
 ⟨rfl,by simp,by simp,by simp,fun c bs hs=>by obtain ⟨h1,h2⟩:=h c bs hs;exact ⟨h1,h2.symm⟩⟩
theorem zcO {ty kt et:TypeId} {x:Operand} {args:Array Operand} {ats:Array TypeId} {kag:Bool} {x':Ar} {q:Nat} {es:List (List T×V)} {sx:Option (Nat×List Nat)} (hop:o.op= .call {callee:= .builtin .clear,args:=args,argTypes:=ats}) (ha:args.toList=[x]) (hat:ats[0]?=some ty)
  (hu:P.underlying ty=some (.map kt et)) (hx:opA x=some x') (hxv:x'.u st= .mp q) (hes:zi st.s.sto q=some (.map kag es sx)):
  zR P o base st {v:= .top,ob:=[(q,.map kag [] none)],rd:=true}:=by
 intro C Λ a next Q hC hr _ _ hnext;have hx1:=hr.opu hx
 have haa:args=#[x]:=by apply Array.ext';simpa using ha
 subst haa;rw [hxv] at hx1;generalize hex:a.eval x=u at hx1
 cases hx1 with
 |@mp b _ hql hb=>
  obtain ⟨ents,clock,hh,hM⟩:=hr.s.Yy hes hb
  have hrun:(execOp a.eval o).run P Λ.w= .ok (.value (.tuple #[])) (ym Λ.w b #[] clock):=by
   simp only [execOp,hop,resolve,invoke,builtin,List.map_toArray,List.map_cons,List.map_nil,hex];simp [Builtin.clear_,hat,run_underlying hu,MapKept.run_getObj_map hh,MapKept.run_setObj_map _ hh];rfl
  unfold Oper.wp;rw [hrun]
  obtain ⟨g1,g2,g3⟩:=yz (v:= .top) (rd:=true) hr.s hql hb hh (YI.empty (kag:=kag) (clock:=clock) (sx:=none) (fun _ _ h=>by cases h))
  exact hnext _ _ g1 Z g2 .top (fun k h _ _=>g3 k h)
theorem zc7 {t:TypeId} {kag:Bool} (hop:o.op= .makeMap t none):zR P o base st {v:= .mp base,ob:=[(base,.map kag [] (some (0,[])))],n:=1}:=by
 intro C Λ a next Q hC hr hle hfree hnext
 have hrun:(execOp a.eval o).run P Λ.w= .ok (.value (.map (some Λ.w.heap.size))) (Λ.w.alloc (.map #[] 0)):=by
  simp only [execOp,hop];simp [Instr.makeMap]
 unfold Oper.wp;rw [hrun];obtain ⟨hb1,hb2,hb3⟩:=hfree base (Nat.le_refl _) (by simp);have g:=yA.alloc Λ.w (.map #[] 0);have hkp:=Kp.new g hr.s.new (.obj base)
 obtain ⟨k1,k2,k3⟩:=qC hr.s g hb1 hb2 rfl (ao:= .map kag [] (some (0,[]))) ⟨Λ.w.heap.size,_,_,by simp [zo],g.top,YI.empty (fun c bs h=>by simp at h;exact ⟨h.1,h.2⟩)⟩
 exact hnext _ _ k1 Z k2 (.mp hb1 (by simp [zo])) (fun k hk _ hlt=>k3 k hk (by simp at hlt;omega))
theorem za1 {ty kt et:TypeId} {x:Operand} {args:Array Operand} {ats:Array TypeId} {x':Ar} {n:Nat} (hop:o.op= .call {callee:= .builtin .len,args:=args,argTypes:=ats}) (ha:args[0]?=some x) (hat:ats[0]?=some ty)
  (hu:P.underlying ty=some (.map kt et)) (hx:opA x=some x') (hxv:(x'.u st= .t .qG/\n=0)∨∃q kag es sx,x'.u st= .mp q/\zi st.s.sto q=some (.map kag es sx)/\n=es.length):
  zR P o base st {v:= .t (.int .i64 n),rd:=true}:=by
 intro C Λ a next Q hC hr _ _ hnext;have hx1:=hr.opu hx
 have hrun:(execOp a.eval o).run P Λ.w= .ok (.value (.int .i64 n)) Λ.w:=by
  rcases hxv with ⟨h1,rfl⟩|⟨q,kag,es,sx,h1,h2,rfl⟩
  ·rw [h1] at hx1
   have:a.eval x= .map none:=by generalize a.eval x=u at hx1;cases hx1 with|t h=>cases h;rfl
   have hax:(args.map a.eval)[0]?=some (.map none):=by simp [ha,this]
   simp only [execOp,hop,resolve,Sem.run_bind,Sem.run_pure,Result.andThen_ok,invoke,builtin];simp [Builtin.len_,hat,hax,run_underlying hu,goInt]
  ·rw [h1] at hx1;generalize hex:a.eval x=u at hx1
   cases hx1 with
   |@mp b _ hql hb=>
    obtain ⟨ents,clock,hh,hM⟩:=hr.s.Yy h2 hb
    have hax:(args.map a.eval)[0]?=some (.map (some b)):=by simp [ha,hex]
    simp only [execOp,hop,resolve,Sem.run_bind,Sem.run_pure,Result.andThen_ok,invoke,builtin];simp [Builtin.len_,hat,hax,run_underlying hu,goInt,MapKept.run_getObj_map hh,hM.size]
 unfold Oper.wp;rw [hrun];exact hnext _ Λ (Kp.refl _) Z hr.s (.t (.int _ _)) (fun _ h _ _=>h)
theorem zar {t kt et:TypeId} {x k:Operand} {ks:List KSh} {kag:Bool} {zv:V} {x' k':Ar} {q c:Nat} {bs:List Nat} {cs:List T} {es:List (List T×V)} (hop:o.op= .mapEntry t x k) (hu:P.underlying t=some (.map kt et)) (hK:Yi P kt=some (ks,kag)) (hz:wv P et=some zv)
  (hx:opA x=some x') (hk:opA k=some k') (hxv:x'.u st= .mp q) (hkc:wL ks kag (k'.u st)=some cs) (hes:zi st.s.sto q=some (.map kag es (some (c,bs)))) (hok:yj ks es=true):
  (∀i e b,yf cs es=some i->es[i]?=some e->bs[i]?=some b->zR P o base st {v:= .tup [e.2,.t (.int .i64 b)],ob:=[(q,.map kag es (some (c,bs)))],rd:=true})/\
  (yf cs es=none->zR P o base st {v:= .tup [zv,.t (.int .i64 c)],ob:=[(q,.map kag (es++[(cs,zv)]) (some (c+1,bs++[c])))],rd:=true}):=by
 have KT:z1E P kt ks kag:=⟨hK⟩;refine ⟨fun i e bb hm he hbb=>?_,fun hm=>?_⟩
 ·intro C Λ a next Q hC hr _ _ hnext;have hx1:=hr.opu hx;obtain ⟨ek,hko⟩:=Yz (hr.opu hk) hkc;rw [hxv] at hx1;generalize hex:a.eval x=u at hx1
  cases hx1 with
  |@mp b _ hql hb=>
   obtain ⟨ents,clock,hh,hM⟩:=hr.s.Yy hes hb;have hf:=wT KT hko hM.size (hM.keyed hok) hok Λ.w;have hka:w8 Λ.lab Λ.w kag (kv kag cs) cs:=ek▸(QI (hr.opu hk) hkc).1;obtain ⟨e',h1,h2,h3,h4,_⟩:=wY hm;rw [he] at h1;simp at h1;subst h1;obtain ⟨en,h5,h6⟩:=hM.val he
   have hek:en.key=kv kag cs:=by
    have:=hM.keyed hok i en e h5 he
    have hko':zT ks e.1=true:=by unfold yj at hok;rw [List.all_eq_true] at hok;exact hok e (zMG he)
    rw [this,Qn hko hko' h2]
   have hbn:en.born=bb:=by
    obtain ⟨_,e2⟩:=hM.known c bs rfl;rw [←e2,List.getElem?_map] at hbb;have:ents.toList[i]?=ents[i]?:=Array.getElem?_toList;rw [this,h5] at hbb;simpa using hbb
   have hka:w8 Λ.lab Λ.w kag (kv kag cs) e.1:=hek▸(hM.at_ i en e h5 he).1
   have hrun:(execOp a.eval o).run P Λ.w= .ok (.value (.tuple #[en.val,.int .i64 bb])) (ym Λ.w b (ents.modify i fun e=>{e with key:=kv kag cs}) clock):=by
    rw [hm] at hf;simp only [h5,Option.map] at hf;simp only [execOp,hop,hex,ek];simp only [Instr.mapEntry,Sem.run_bind,run_underlying hu,MapKept.run_getObj_map hh,Result.andThen_ok,yK KT hko,hf,h5,Option.map,Option.getD,hek,z2t KT hko,MapKept.run_setObj_map _ hh,hbn];rfl
   have hmod:(ents.modify i fun e=>{e with key:=kv kag cs})=ents.modify i fun e=>{e with key:=kv kag cs,val:=en.val}:=by
    apply Array.ext';apply List.ext_getElem?;intro j;rw [Array.getElem?_toList,Array.getElem?_toList,Array.getElem?_modify,Array.getElem?_modify];split
    ·rename_i hij;subst hij;rw [h5];simp
    ·rfl
   have hM2:=hM.set (i:=i) hka h6
   have hes2:es.set i (e.1,e.2)=es:=by
    apply List.ext_getElem?;intro j;rw [List.getElem?_set];split
    ·rename_i hij;subst hij;rw [he];simp;exact (List.getElem?_eq_some_iff.1 he).1
    ·rfl
   rw [hes2,←hmod] at hM2;unfold Oper.wp;rw [hrun];obtain ⟨g1,g2,g3⟩:=yz (v:= .tup [e.2,.t (.int .i64 bb)]) (rd:=true) hr.s hql hb hh hM2;refine hnext _ _ g1 Z g2 (.tup Z fun j u d hu hd=>?_) (fun k h _ _=>g3 k h)
   match j,hu,hd with
   |0,hu,hd=>simp at hu hd;subst hu;subst hd;exact h6.mono g1
   |1,hu,hd=>simp at hu hd;subst hu;subst hd;exact .t (.int _ _)
 ·intro C Λ a next Q hC hr _ _ hnext;have hx1:=hr.opu hx;obtain ⟨ek,hko⟩:=Yz (hr.opu hk) hkc;rw [hxv] at hx1;generalize hex:a.eval x=u at hx1
  cases hx1 with
  |@mp b _ hql hb=>
   obtain ⟨ents,clock,hh,hM⟩:=hr.s.Yy hes hb;have hf:=wT KT hko hM.size (hM.keyed hok) hok Λ.w;have hka:w8 Λ.lab Λ.w kag (kv kag cs) cs:=ek▸(QI (hr.opu hk) hkc).1;obtain ⟨z,hz1,hz2⟩:=qh hz Λ.w;have hcl:clock=c:=(hM.known c bs rfl).1;subst hcl
   have hrun:(execOp a.eval o).run P Λ.w= .ok (.value (.tuple #[z,.int .i64 clock])) (ym Λ.w b (ents.push {key:=kv kag cs,val:=z,born:=clock}) (clock+1)):=by
    rw [hm] at hf;simp only [execOp,hop,hex,ek];simp only [Instr.mapEntry,Sem.run_bind,run_underlying hu,MapKept.run_getObj_map hh,Result.andThen_ok,yK KT hko,hf,hz1,MapKept.run_setObj_map _ hh];rfl
   unfold Oper.wp;rw [hrun]
   obtain ⟨g1,g2,g3⟩:=yz (v:= .tup [zv,.t (.int .i64 clock)]) (rd:=true) hr.s hql hb hh (hM.push (sx':=some (clock+1,bs++[clock])) hka (hz2 Λ) (fun c' bs' h=>by simp at h;exact ⟨clock,bs,rfl,h.1.symm,h.2.symm⟩))
   refine hnext _ _ g1 Z g2 (.tup Z fun j u d hu hd=>?_) (fun k h _ _=>g3 k h)
   match j,hu,hd with
   |0,hu,hd=>simp at hu hd;subst hu;subst hd;exact (hz2 Λ).mono g1
   |1,hu,hd=>simp at hu hd;subst hu;subst hd;exact .t (.int _ _)
theorem z3t {α:Type} (xs:Array α) (p:α->Bool):xs.findIdx? p=xs.toList.findIdx? p:=by
 obtain ⟨l⟩:=xs;simp
theorem zdm {t:TypeId} {x s v:Operand} {x' s' v':Ar} {q c i:Nat} {bs:List Nat} {z:Int} {kd:IntKind} {kag:Bool} {es:List (List T×V)} (hop:o.op= .entryStore t x s v) (hx:opA x=some x') (hs:opA s=some s') (hv:opA v=some v') (hxv:x'.u st= .mp q) (hsv:s'.u st= .t (.int kd z))
  (hes:zi st.s.sto q=some (.map kag es (some (c,bs)))) (hi:bs.findIdx? (fun b:Nat=>decide (((b:Nat):Int)=z))=some i):
  zR P o base st {v:= .top,ob:=[(q,.map kag (es.modify i fun e=>(e.1,v'.u st)) (some (c,bs)))],rd:=true}:=by
 intro C Λ a next Q hC hr _ _ hnext;have hx1:=hr.opu hx;have hs1:=hr.opu hs;have hv1:=hr.opu hv;rw [hsv] at hs1;have es1:=hs1.Zv.ZS;rw [hxv] at hx1;generalize hex:a.eval x=u at hx1
 cases hx1 with
 |@mp b _ hql hb=>
  obtain ⟨ents,clock,hh,hM⟩:=hr.s.Yy hes hb;obtain ⟨e1,e2⟩:=hM.known c bs rfl
  have hfi:ents.findIdx? (fun e=>(e.born:Int)==z)=some i:=by
   rw [z3t,←hi,←e2,List.findIdx?_map];congr 1
  have hlt:i<ents.size:=by
   have:=(Array.findIdx?_eq_some_iff_findIdx_eq.1 hfi).1;exact this
  have hen:ents[i]?=some ents[i]:=by simp [hlt]
  have hle:i<es.length:=by rw [←hM.size];exact hlt
  have hee:es[i]?=some es[i]:=by simp [hle]
  have hka:=(hM.at_ i _ _ hen hee).1
  have hrun:(execOp a.eval o).run P Λ.w= .ok .skip (ym Λ.w b (ents.modify i fun e=>{e with val:=a.eval v}) clock):=by
   simp only [execOp,hop,hex,es1]
   have hz:(asInt (.int kd z)).run P Λ.w= .ok z Λ.w:=by simp [asInt,asIntOf]
   simp only [Instr.entryStore,Sem.run_bind,MapKept.run_getObj_map hh,Result.andThen_ok,hz,hfi,MapKept.run_setObj_map _ hh,Sem.run_pure];rfl
  have hmod:(ents.modify i fun e=>{e with val:=a.eval v})=ents.modify i fun e=>{e with key:=ents[i].key,val:=a.eval v}:=by
   apply Array.ext';apply List.ext_getElem?;intro j;rw [Array.getElem?_toList,Array.getElem?_toList,Array.getElem?_modify,Array.getElem?_modify];split
   ·rename_i hij;subst hij;rw [hen];simp
   ·rfl
  have hes2:(es.modify i fun e=>(e.1,v'.u st))=es.set i (es[i].1,v'.u st):=by
   apply List.ext_getElem?;intro j;rw [List.getElem?_modify,List.getElem?_set];split
   ·rename_i hij;subst hij;rw [hee];simp
   ·simp
  have hM2:=hM.set (i:=i) hka hv1;rw [←hmod,←hes2] at hM2;unfold Oper.wp;rw [hrun];obtain ⟨g1,g2,g3⟩:=yz (v:= .top) (rd:=true) hr.s hql hb hh hM2;exact hnext undef _ g1 Z g2 .top (fun k h _ _=>g3 k h)
end
theorem z1k {z:Nat} {e:List T×V}:∀{es:List (List T×V)} {bs:List Nat},z33 z es bs=some e->∃i:Nat,es[i]?=some e/\bs[i]?=some z
 |[],bs,h=>by simp [z33] at h
 |x::r,[],h=>by simp [z33] at h
 |x::r,b::bs,h=>by
  simp only [z33] at h;split at h
  ·rename_i hb;simp at h;subst h;exact ⟨0,rfl,by simp [hb]⟩
  ·obtain ⟨i,h1,h2⟩:=z1k h
   exact ⟨i+1,by simpa using h1,by simpa using h2⟩
theorem w8.za7 {Λ:L} {kag:Bool} {v:Value} {cs:List T} (h:w8 Λ.lab Λ.w kag v cs):zn Λ v (za7 kag cs):=by
 unfold w8 at h;unfold Go.GB.za7
 cases kag with
 |true=>
  obtain ⟨vs,rfl,hs,hv⟩:=h;simp only [if_true];refine .agg (by simpa using hs) fun j u c a b=>?_;rw [List.getElem?_map,Option.map_eq_some_iff] at b;obtain ⟨x,b1,rfl⟩:=b;exact .t (hv j u x a b1)
 |false=>
  obtain ⟨x,rfl,hv⟩:=h;exact .t hv
theorem z3G {l:List Nat} {z:Nat} (h:l.getLast?=some z):∃a:Array Nat,l.toArray=a.push z:=by
 have hne:l≠[]:=by intro e;subst e;simp at h
 refine ⟨l.dropLast.toArray,?_⟩
 have h2:l.getLast hne=z:=by rw [List.getLast?_eq_some_getLast hne] at h;simpa using h
 rw [List.push_toArray,←h2,List.dropLast_concat_getLast hne]
section
variable {P:Program} {o:Oper} {st:St} {base:Nat}
theorem zco {gc:Bool} {x:Operand} {x':Ar} {v:V} {ps:List Bool} (hop:o.op= .entry x) (hx:opA x=some x') (he:Zl gc st (.z6j x')=some (v,ps)) (hp:∀q∈ps,q):zC P o gc st v:=by
 intro C Λ a hC hg hr;simp only [Zl] at he;generalize h1:rd gc st x'=rx at he;obtain ⟨vx,p1⟩:=rx;split at he
 ·rename_i k p hk;simp only [Prod.mk.injEq] at hk;obtain ⟨rfl,rfl⟩:=hk;split at he
  ·rename_i q s seen c hit;split at he
   ·rename_i kag es c' bs z hes hz;split at he
    ·rename_i e hent;simp only [Option.some.injEq,Prod.mk.injEq] at he;obtain ⟨rfl,rfl⟩:=he;have hxv:zn Λ (a.eval x) (.ptr k 0):=zf hr hx h1 (fun q hq=>hp q (by simp [hq])) hg
     have hcc:c'=c:=by have:=hp (decide (c'=c)) (by simp);simpa using this
     have hnd:bs.Nodup:=by have:=hp (decide bs.Nodup) (by simp);simpa using this
     subst hcc;obtain ⟨b,bm,e1,e2,e3,e4⟩:=(hr.s.sto k _ hit).2;obtain ⟨ents,clock,hh,hM⟩:=hr.s.Yy hes e3;obtain ⟨k1,k2⟩:=hM.known c' bs rfl;obtain ⟨i,g1,g2⟩:=z1k hent;obtain ⟨seen',hs'⟩:=z3G hz
     have hil:i<ents.size:=by rw [hM.size];exact (List.getElem?_eq_some_iff.1 g1).1
     have hen:ents[i]?=some ents[i]:=by simp [hil]
     have hborn:ents[i].born=z:=by
      rw [←k2,List.getElem?_map] at g2;have:ents.toList[i]?=ents[i]?:=Array.getElem?_toList;rw [this,hen] at g2;simpa using g2
     have hmem:ents[i]∈ents.toList:=by simp
     rw [hs',←hborn,←k1] at e2;have hrun:=run_entry_at (P:=P) Λ.w b bm s seen' ents clock ents[i] e2 hh hmem (by rw [k2];exact hnd);generalize hex:a.eval x=u at hxv
     cases hxv with
     |@ptr b' _ _ hkl hb'=>
      obtain rfl:=hr.s.inj b' b k hb' e1;refine ⟨.tuple #[ents[i].key,ents[i].val],?_,?_⟩
      ·simp only [execOp,hop,hex];simp only [Sem.run_bind,hrun,Result.andThen_ok,Sem.run_pure]
      ·obtain ⟨q1,q2⟩:=hM.at_ i _ _ hen g1;refine .tup Z fun j u c hj hc=>?_
       match j,hj,hc with
       |0,hj,hc=>simp at hj hc;subst hj;subst hc;exact q1.za7
       |1,hj,hc=>simp at hj hc;subst hj;subst hc;exact q2
    ·cases he
   ·cases he
  ·cases he
 ·cases he
theorem z8Y {t kt et:TypeId} {x:Operand} {x':Ar} {q c:Nat} {bs:List Nat} {kag:Bool} {es:List (List T×V)} (hop:o.op= .range t x) (hu:P.underlying t=some (.map kt et)) (hx:opA x=some x') (hxv:x'.u st= .mp q)
  (hes:zi st.s.sto q=some (.map kag es (some (c,bs)))):zR P o base st {v:= .ptr base 0,ob:=[(base,.iter q c [] c)],n:=1,rd:=true}:=by
 intro C Λ a next Q hC hr hle hfree hnext;have hx1:=hr.opu hx;rw [hxv] at hx1;generalize hex:a.eval x=u at hx1
 cases hx1 with
 |@mp b _ hql hb=>
  obtain ⟨ents,clock,hh,hM⟩:=hr.s.Yy hes hb;obtain ⟨rfl,_⟩:=hM.known c bs rfl
  have hrun:(execOp a.eval o).run P Λ.w= .ok (.value (.pointer (some ⟨Λ.w.heap.size,0,none⟩))) (Λ.w.alloc (.mapIter (some b) clock #[] clock)):=by
   simp only [execOp,hop,hex];simp only [Sem.run_bind,run_range_map Λ.w t kt et b ents clock hu hh,Result.andThen_ok,Sem.run_pure]
  unfold Oper.wp;rw [hrun];obtain ⟨hb1,hb2,hb3⟩:=hfree base (Nat.le_refl _) (by simp);have g:=yA.alloc Λ.w (.mapIter (some b) clock #[] clock);have hne:b≠Λ.w.heap.size:=Nat.ne_of_lt (z0U hh)
  obtain ⟨k1,k2,k3⟩:=qC hr.s g hb1 hb2 rfl (ao:= .iter q clock [] clock) ⟨Λ.w.heap.size,b,by simp [zo],g.top,by simp only;rw [zu hne];exact hb,hql⟩
  exact hnext _ _ k1 Z k2 (.ptr hb1 (by simp [zo])) (fun k hk _ hlt=>k3 k hk (by rcases hlt with h|h<;>simp at h<;>omega))
end
section
variable {P:Program} {ops:Array Oper} {o:Oper} {base:Nat} {st:St}
theorem Qj:∀{a b:List KSh} {cs:List T},zT (a++b) cs=true->zT a (cs.take a.length)=true/\zT b (cs.drop a.length)=true
 |[],b,cs,h=>by simpa [zT] using h
 |s::a,b,[],h=>by simp [zT] at h
 |s::a,b,x::cs,h=>by
  simp only [List.cons_append,zT,Bool.and_eq_true] at h;obtain ⟨h1,h2⟩:=Qj h.2
  exact ⟨by simp [zT,h.1,h1],by simpa using h2⟩
def QV (P:Program) (n:Nat) (t:TypeId) (v:Value):Prop:=∀w:World,(Op.equalIn n t v v).run P w= .ok true w/\∀em,(Instr.checkKey em n t v).run P w= .ok () w
theorem z4A {t:TypeId} (hu:P.underlying t=some .bool) (n:Nat) (b:Bool):QV P (n+1) t (.bool b):=fun w=>by
 refine ⟨?_,fun em=>by simp [Instr.checkKey,run_underlying hu]⟩
 rw [run_equalIn_bool w n t b b hu];simp
theorem z6k {t:TypeId} {k:IntKind} (hu:P.underlying t=some (.int k)) (n:Nat) (z:Int):QV P (n+1) t (.int k z):=fun w=>by
 refine ⟨?_,fun em=>by simp [Instr.checkKey,run_underlying hu]⟩
 rw [run_equalIn_int w n t _ _ _ _ hu];simp
theorem z62 {t:TypeId} (hu:P.underlying t=some .string) (n:Nat) (s:ByteArray):QV P (n+1) t (.string s):=fun w=>by
 refine ⟨?_,fun em=>by simp [Instr.checkKey,run_underlying hu]⟩
 rw [run_equalIn_string w n t _ _ hu];simp
theorem z6q {t e:TypeId} (hu:P.underlying t=some (.pointer e)) (he:(P.info? e).isSome=true) (n:Nat) (a:Addr):QV P (n+1) t (.pointer (some a)):=fun w=>by
 obtain ⟨j,hj⟩:=Option.isSome_iff_exists.1 he
 refine ⟨?_,fun em=>by simp [Instr.checkKey,run_underlying hu]⟩
 simp [Op.equalIn,run_underlying hu,sizeOf,typeInfo,hj,run_sameAddr_same]
theorem zcb {f:Field} {l:List KSh} {cs:List T} {i:Nat} (hi:f.offset=i) (hp:zI P f.type=false/\l.length=1/\(∃d,P.underlying f.type=some d)∨zI P f.type=true/\Zs P f.type=some l.length) (hl:zT l ((cs.drop i).take l.length)=true) (w:World):
  (part f.type (cs.map Tv).toArray f.offset).run P w= .ok (kv (zI P f.type) ((cs.drop i).take l.length)) w:=by
 obtain ⟨hlen,_⟩:=wa hl;subst hi
 rcases hp with ⟨h1,h2,d,h3⟩|⟨h1,h2⟩
 ·rw [h2] at hlen⊢;obtain ⟨x,hx⟩:=List.length_eq_one_iff.1 hlen.symm
  have hcx:cs[f.offset]?=some x:=by
   have:((cs.drop f.offset).take 1)[0]?=some x:=by rw [hx];rfl
   simpa using this
  rw [QG h3 h1 (v:=Tv x) (by simp [hcx]) w,h1,hx];rfl
 ·rw [z1h h2 h1 w,h1];simp only [kv,if_true];congr 2;apply Array.ext';simp [List.map_take,List.map_drop]
theorem z2I {g:TypeId->Option (List KSh)} {n:Nat} (hg:∀t l cs,g t=some l->zT l cs=true->(∃d,P.underlying t=some d)/\QV P n t (kv (zI P t) cs)):∀(fs:List Field) (i:Nat) (l:List KSh) (cs:List T),z3g P g i fs=some l->zT l (cs.drop i)=true->
  ∀w:World,(Op.eqFields n (cs.map Tv).toArray (cs.map Tv).toArray fs).run P w= .ok true w/\∀f∈fs,f.name≠ "_"/\∃v,(part f.type (cs.map Tv).toArray f.offset).run P w= .ok v w/\∀em,(Instr.checkKey em n f.type v).run P w= .ok () w
 |[],i,l,cs,h,hk,w=>by simp [Op.eqFields]
 |f::r,i,l,cs,h,hk,w=>by
  simp only [z3g] at h;split at h
  ·rename_i hfo;split at h
   ·rename_i a ha;split at h
    ·rename_i hp;simp only [Option.map_eq_some_iff] at h;obtain ⟨b,hb,rfl⟩:=h;obtain ⟨k1,k2⟩:=Qj hk;rw [List.drop_drop] at k2;obtain ⟨hd,hD⟩:=hg _ _ _ ha k1;have hpart:=zcb (P:=P) hfo.1 (hp.elim (fun q=> .inl ⟨q.1,q.2,hd⟩) .inr) k1 w;obtain ⟨q1,q2⟩:=z2I hg r (i+a.length) b cs hb k2 w;refine ⟨?_,fun f' hf'=>?_⟩
     ·simp only [Op.eqFields,hfo.2,ne_eq,not_false_eq_true,if_true,Sem.run_bind,hpart,Result.andThen_ok,(hD w).1];simpa using q1
     ·rcases List.mem_cons.1 hf' with rfl|hf'
      ·exact ⟨hfo.2,_,hpart,fun em=>(hD w).2 em⟩
      ·exact q2 f' hf'
    ·cases h
   ·cases h
  ·cases h
theorem z3j:∀(d n:Nat) (t:TypeId) (ks:List KSh) (cs:List T),wM P d t=some ks->d<=n->zT ks cs=true->(∃d,P.underlying t=some d)/\QV P n t (kv (zI P t) cs)
 |0,n,t,ks,cs,h,_,_=>by simp [wM] at h
 |d+1,0,t,ks,cs,h,hn,_=>by omega
 |d+1,n+1,t,ks,cs,h,hn,hk=>by
  simp only [wM] at h;split at h
  ·rename_i hu;simp at h;subst h;obtain ⟨x,rfl,hx⟩:=Yw hk
   have ha:zI P t=false:=by simp [zI,hu]
   cases x<;>simp [KSh.ok] at hx
   refine ⟨⟨_,hu⟩,?_⟩;rw [ha];exact z4A hu n _
  ·rename_i k hu;simp at h;subst h;obtain ⟨x,rfl,hx⟩:=Yw hk
   have ha:zI P t=false:=by simp [zI,hu]
   cases x<;>simp [KSh.ok] at hx
   subst hx;refine ⟨⟨_,hu⟩,?_⟩;rw [ha];exact z6k hu n _
  ·rename_i hu;simp at h;subst h;obtain ⟨x,rfl,hx⟩:=Yw hk
   have ha:zI P t=false:=by simp [zI,hu]
   cases x<;>simp [KSh.ok] at hx
   refine ⟨⟨_,hu⟩,?_⟩;rw [ha];exact z62 hu n _
  ·rename_i e hu;split at h
   ·rename_i he;simp at h;subst h;obtain ⟨x,rfl,hx⟩:=Yw hk
    have ha:zI P t=false:=by simp [zI,hu]
    cases x<;>simp [KSh.ok] at hx
    refine ⟨⟨_,hu⟩,?_⟩;rw [ha];exact z6q hu he n _
   ·cases h
  ·rename_i fs hu;split at h
   ·rename_i hst
    have ha:zI P t=true:=by simp [zI,hu]
    refine ⟨⟨_,hu⟩,fun w=>?_⟩;have hF:=z2I (P:=P) (n:=n) (fun t' l' cs' h1 h2=>z3j d n t' l' cs' h1 (by omega) h2) fs.toList 0 ks cs h (by simpa using hk) w
    have hfo:P.fieldsOf t=fs:=by simp [Program.fieldsOf,hu]
    have ht:P.underlying t=some (.struct (P.fieldsOf t)):=by rw [hfo];exact hu
    rw [ha];simp only [kv,if_true];refine ⟨?_,fun em=>?_⟩
    ·rw [run_equalIn_struct w n t _ _ ht hst,hfo];exact hF.1
    ·rw [Instr.checkKey];simp only [Sem.run_bind,run_underlying hu,Result.andThen_ok];rw [←Array.forIn_toList];have each:=hF.2;generalize fs.toList=L at each
     induction L with
     |nil=>simp
     |cons f L ih=>
      obtain ⟨h1,v,h2,h3⟩:=each f (by simp);simp only [List.forIn_cons,Sem.run_bind,h1,ne_eq,not_false_eq_true,if_true,Result.andThen_ok,h2,h3 em,Sem.run_pure];exact ih fun f' hf'=>each f' (by simp [hf'])
   ·cases h
  ·cases h
 termination_by d n=>(d,n)
theorem qp {kt:TypeId} {ks:List KSh} (ha:zI P kt=true) (hK:wM P 8 kt=some ks) {cs:List T} (hc:zT ks cs=true) {ents:Array MapEntry} (h:ents=#[]∨∃e,ents[0]?=some e/\e.key=kv true cs) (w:World):
  (Instr.findKey kt (kv true cs) ents.toList).run P w= .ok ((ents[0]?).map fun e=>(0,e.val)) w:=by
 obtain ⟨⟨dd,hd⟩,hD⟩:=z3j 8 10000 kt ks cs hK (by omega) hc
 have hdd:(∃fs,dd= .struct fs)∨∃n e,dd= .array n e:=by
  unfold zI at ha;rw [hd] at ha;cases dd<;>simp at ha
  ·exact .inr ⟨_,_,rfl⟩
  ·exact .inl ⟨_,rfl⟩
 have hfk:∀l,(Instr.findKey kt (kv true cs) l).run P w=(Instr.findAsking kt (kv true cs) l).run P w:=by
  intro l
  rcases hdd with ⟨fs,rfl⟩|⟨n,e,rfl⟩
  all_goals
   cases l with
   |nil=>simp [Instr.findKey,run_underlying hd,Instr.findNow,Instr.findAsking]
   |cons e r=>simp [Instr.findKey,run_underlying hd,Instr.findNow,Instr.sameNow]
 rw [hfk]
 rcases h with rfl|⟨e,he,hk⟩
 ·simp [Instr.findAsking]
 ·have:∃r,ents.toList=e::r:=by
   rw [←Array.getElem?_toList] at he
   cases hl:ents.toList with
   |nil=>rw [hl] at he;simp at he
   |cons x r=>rw [hl] at he;simp at he;subst he;exact ⟨r,rfl⟩
  obtain ⟨r,hr⟩:=this;have hq:=(hD w).1;rw [ha] at hq;rw [hr,he];simp [Instr.findAsking,hk,Op.equal,Op.maxDepth,hq]
theorem Wo {kt:TypeId} {ks:List KSh} (ha:zI P kt=true) (hK:wM P 8 kt=some ks) {cs:List T} (hc:zT ks cs=true) (em:Bool) (w:World):(Instr.checkKey em 10000 kt (kv true cs)).run P w= .ok () w:=by
 have:=(((z3j 8 10000 kt ks cs hK (by omega) hc).2) w).2 em
 rwa [ha] at this
theorem z5U {ks:List KSh} {cs:List T} (hc:zT ks cs=true) (w:World):(Instr.keyThatStays (kv true cs) (kv true cs)).run P w= .ok (kv true cs) w:=by
 have hs:Instr.sameBits 10000 (kv true cs) (kv true cs)=true:=by
  obtain ⟨h1,h2⟩:=wa hc;simp only [kv,if_true];rw [Instr.sameBits];simp only [List.size_toArray,List.length_map,BEq.rfl,Bool.true_and];rw [List.all_eq_true];intro p hp
  have hz:∀(l:List Value) (p:Value×Value),p∈l.zip l->p.1=p.2/\p.1∈l:=by
   intro l
   induction l with
   |nil=>intro p h;simp at h
   |cons a l ih=>
    intro p h;simp only [List.zip_cons_cons,List.mem_cons] at h
    rcases h with rfl|h
    ·simp
    ·obtain ⟨a1,a2⟩:=ih p h;exact ⟨a1,List.mem_cons_of_mem _ a2⟩
  obtain ⟨e1,e2⟩:=hz _ p hp;simp only [List.mem_map] at e2;obtain ⟨x,hx,e3⟩:=e2;obtain ⟨j,hj⟩:=List.mem_iff_getElem?.1 hx
  have hlt:j<ks.length:=by rw [h1];exact (List.getElem?_eq_some_iff.1 hj).1
  obtain ⟨a,b⟩:=p;simp only at e1 e3⊢;rw [←e1,←e3];exact WV x 9999 ⟨ks[j],h2 j ks[j] x (by simp [hlt]) hj⟩
 simp [Instr.keyThatStays,hs]
theorem z7h {t kt et:TypeId} {x k:Operand} {ks:List KSh} {zv:V} {x' k':Ar} {q:Nat} {cs:List T} {es:List (List T×V)} {sx:Option (Nat×List Nat)} (hop:o.op= .lookup t x k true) (hu:P.underlying t=some (.map kt et)) (ha:zI P kt=true) (hK:wM P 8 kt=some ks) (hz:wv P et=some zv)
  (hx:opA x=some x') (hk:opA k=some k') (hxv:x'.u st= .mp q) (hkc:wL ks true (k'.u st)=some cs) (hes:zi st.s.sto q=some (.map true es sx)):
  (∀v,z5B ks cs es=some (some v)->zR P o base st {v:= .tup [v,.t (.bool true)],rd:=true})/\(z5B ks cs es=some none->zR P o base st {v:= .tup [zv,.t (.bool false)],rd:=true}):=by
 refine ⟨fun v hg=>?_,fun hg=>?_⟩
 all_goals
  intro C Λ a next Q hC hr _ _ hnext;have hx1:=hr.opu hx;obtain ⟨ek,hko⟩:=Yz (hr.opu hk) hkc;rw [hxv] at hx1;generalize hex:a.eval x=u at hx1
 ·cases hx1 with
  |@mp b _ hql hb=>
   obtain ⟨ents,clock,hh,hM⟩:=hr.s.Yy hes hb
   cases es with
   |nil=>simp [z5B] at hg
   |cons e r=>
    simp only [z5B] at hg;split at hg
    ·rename_i hc;simp only [Option.some.injEq] at hg;subst hg;simp only [Bool.and_eq_true] at hc;obtain ⟨en,g1,g2⟩:=hM.val (i:=0) (x:=e) rfl
     have hek:en.key=kv true cs:=by
      rw [(hM.at_ 0 en e g1 rfl).1.plain hc.1,Qn hko hc.1 hc.2]
     have hf:=qp ha hK hko (.inr ⟨en,g1,hek⟩) Λ.w
     have hrun:(execOp a.eval o).run P Λ.w= .ok (.value (.tuple #[en.val,.bool true])) Λ.w:=by
      simp only [execOp,hop,hex,ek];simp only [Instr.lookup,Sem.run_bind,run_underlying hu,MapKept.run_getObj_map hh,Result.andThen_ok,Sem.run_pure,Wo ha hK hko,hf,g1,Option.map,if_true]
     unfold Oper.wp;rw [hrun];exact hnext _ Λ (Kp.refl Λ) Z hr.s (Qv g2 true true) (fun k h _ _=>h)
    ·cases hg
 ·cases hx1 with
  |@mp b _ hql hb=>
   obtain ⟨ents,clock,hh,hM⟩:=hr.s.Yy hes hb
   cases es with
   |cons e r=>
    simp only [z5B] at hg
    split at hg<;>cases hg
   |nil=>
    obtain ⟨z,hz1,hz2⟩:=qh hz Λ.w
    have h0:ents=#[]:=by have:=hM.size;simpa using this
    subst h0;have hf:=qp ha hK hko (.inl rfl) Λ.w
    have hrun:(execOp a.eval o).run P Λ.w= .ok (.value (.tuple #[z,.bool false])) Λ.w:=by
     simp only [execOp,hop,hex,ek];have e0:(#[]:Array MapEntry)[0]?=none:=rfl;simp only [Instr.lookup,Sem.run_bind,run_underlying hu,MapKept.run_getObj_map hh,Result.andThen_ok,Sem.run_pure,Wo ha hK hko,hf,e0,Option.map,if_true,hz1]
    unfold Oper.wp;rw [hrun];exact hnext _ Λ (Kp.refl Λ) Z hr.s (Qv (hz2 Λ) true false) (fun k h _ _=>h)
theorem zd1 {t kt et:TypeId} {x k v:Operand} {ks:List KSh} {x' k' v':Ar} {q:Nat} {cs:List T} {es fs:List (List T×V)} {sx:Option (Nat×List Nat)} (hop:o.op= .mapUpdate t x k v) (hu:P.underlying t=some (.map kt et)) (ha:zI P kt=true) (hK:wM P 8 kt=some ks)
  (hx:opA x=some x') (hk:opA k=some k') (hv:opA v=some v') (hxv:x'.u st= .mp q) (hkc:wL ks true (k'.u st)=some cs) (hes:zi st.s.sto q=some (.map true es sx)) (hfs:z6y ks cs (v'.u st) es=some fs):
  zR P o base st {v:= .top,ob:=[(q,.map true fs none)],rd:=true}:=by
 intro C Λ a next Q hC hr _ _ hnext;have hx1:=hr.opu hx;have hv1:=hr.opu hv;obtain ⟨ek,hko⟩:=Yz (hr.opu hk) hkc;have hka:w8 Λ.lab Λ.w true (kv true cs) cs:=ek▸(QI (hr.opu hk) hkc).1;rw [hxv] at hx1;generalize hex:a.eval x=u at hx1
 cases hx1 with
 |@mp b _ hql hb=>
  obtain ⟨ents,clock,hh,hM⟩:=hr.s.Yy hes hb
  cases es with
  |nil=>
   simp only [z6y,Option.some.injEq] at hfs;subst hfs
   have h0:ents=#[]:=by have:=hM.size;simpa using this
   subst h0;have hf:=qp ha hK hko (.inl rfl) Λ.w;have e0:(#[]:Array MapEntry)[0]?=none:=rfl
   have hrun:(execOp a.eval o).run P Λ.w= .ok .skip (ym Λ.w b (Array.push #[] {key:=kv true cs,val:=a.eval v,born:=clock}) (clock+1)):=by
    simp only [execOp,hop,hex,ek];simp only [Instr.mapUpdate,Sem.run_bind,run_underlying hu,MapKept.run_getObj_map hh,Result.andThen_ok,Wo ha hK hko,hf,e0,Option.map,MapKept.run_setObj_map _ hh];rfl
   unfold Oper.wp;rw [hrun]
   obtain ⟨g1,g2,g3⟩:=yz (v:= .top) (rd:=true) hr.s hql hb hh (hM.push (sx':=none) hka hv1 (fun _ _ h=>by cases h))
   exact hnext undef _ g1 Z g2 .top (fun k h _ _=>g3 k h)
  |cons e r=>
   simp only [z6y] at hfs;split at hfs
   ·rename_i hc;simp only [Option.some.injEq] at hfs;subst hfs;simp only [Bool.and_eq_true] at hc;obtain ⟨en,g1,g2⟩:=hM.val (i:=0) (x:=e) rfl
    have hek:en.key=kv true cs:=by
     rw [(hM.at_ 0 en e g1 rfl).1.plain hc.1,Qn hko hc.1 hc.2]
    have hf:=qp ha hK hko (.inr ⟨en,g1,hek⟩) Λ.w
    have hrun:(execOp a.eval o).run P Λ.w= .ok .skip (ym Λ.w b (ents.modify 0 fun e=>{e with key:=kv true cs,val:=a.eval v}) clock):=by
     simp only [execOp,hop,hex,ek];simp only [Instr.mapUpdate,Sem.run_bind,run_underlying hu,MapKept.run_getObj_map hh,Result.andThen_ok,Wo ha hK hko,hf,g1,Option.map,Option.getD,hek,z5U hko,MapKept.run_setObj_map _ hh];rfl
    unfold Oper.wp;rw [hrun];obtain ⟨k1,k2,k3⟩:=yz (v:= .top) (rd:=true) hr.s hql hb hh ((hM.set (i:=0) hka hv1).forget);exact hnext undef _ k1 Z k2 .top (fun k h _ _=>k3 k h)
   ·cases hfs
end
def Lab.ofK (k:Nat):Lab->Prop
 | .fob j _=>j=k
 | .far j _ _=>j=k
 |_=>False
structure Zq (Λ Λ':L) (k:Nat):Prop where
 os:Λ'.w.os=Λ.w.os
 tape:Λ'.w.tape=Λ.w.tape
 output:Λ'.w.output=Λ.w.output
 size:Λ.w.heap.size<=Λ'.w.heap.size
 nxt:Λ'.nxt=Λ.nxt
 fro:Λ'.fro=Λ.fro
 lab:∀b,Λ'.lab b=Λ.lab b∨((Λ'.lab b).ofK k/\((Λ.lab b).ofK k∨Λ.w.heap.size<=b))
 heap:∀b,b<Λ.w.heap.size->¬ (Λ.lab b).ofK k->Λ'.w.heap[b]?=Λ.w.heap[b]?
 fob:∀b i,Λ.lab b= .fob k i->Λ'.lab b= .fob k i/\∀N,Zk Λ.w b=some N->Zk Λ'.w b=some N
 far:∀b i n,b<Λ.w.heap.size->Λ.lab b= .far k i n->Λ'.frf k i=Λ.frf k i->Λ'.lab b= .far k i n/\Λ'.w.heap[b]?=Λ.w.heap[b]?
 rd:∀b i n,b<Λ.w.heap.size->Λ.lab b= .far k i n->∀o,o<n->Rd Λ'.lab b o/\Λ'.w.cell? ⟨b,o,none⟩=Λ.w.cell? ⟨b,o,none⟩
 zbl:∀j i,j≠k->Λ'.frf j i=Λ.frf j i
 zei:∀i,Λ.frf k i<=Λ'.frf k i
 z41:∀b i,Λ'.frf k 0=Λ.frf k 0->Λ'.lab b= .fob k i->Λ.lab b= .fob k i
 inj:∀b b' i,Λ'.lab b= .fob k i->Λ'.lab b'= .fob k i->b=b'
 new:∀b,Λ'.w.heap.size<=b->Λ'.lab b= .fix none
theorem Zq.old {Λ Λ':L} {k:Nat} (F:Zq Λ Λ' k) {s:S} (h:Z4 Λ s) {b:Nat} {x:Lab} (hl:Λ.lab b=x) (hx:x≠ .fix none) (hk:¬ x.ofK k):Λ'.lab b=x/\Λ'.w.heap[b]?=Λ.w.heap[b]?:=by
 have hlt:b<Λ.w.heap.size:=by
  rcases Nat.lt_or_ge b Λ.w.heap.size with h'|h'
  ·exact h'
  ·rw [h.new b h'] at hl;exact absurd hl.symm hx
 refine ⟨?_,F.heap b hlt (by rw [hl];exact hk)⟩
 rcases F.lab b with e|⟨_,e|e⟩
 ·rw [e];exact hl
 ·rw [hl] at e;exact absurd e hk
 ·omega
theorem Zq.back {Λ Λ':L} {k:Nat} (F:Zq Λ Λ' k) {b:Nat} {x:Lab} (hl:Λ'.lab b=x) (hk:¬ x.ofK k):Λ.lab b=x:=by
 rcases F.lab b with e|⟨e,_⟩
 ·rw [←e];exact hl
 ·rw [hl] at e;exact absurd e hk
theorem Zq.kp {Λ Λ':L} {k:Nat} (F:Zq Λ Λ' k) {s:S} (h:Z4 Λ s):Kp Λ Λ':=by
 have hfix:∀b,b<Λ.w.heap.size->∀fr,Λ.lab b= .fix fr->Λ'.lab b= .fix fr/\Λ'.w.heap[b]?=Λ.w.heap[b]?:=by
  intro b hb fr hl;refine ⟨?_,F.heap b hb (by rw [hl];exact id)⟩
  rcases F.lab b with e|⟨_,e|e⟩
  ·rw [e];exact hl
  ·rw [hl] at e;exact absurd e id
  ·omega
 have hlt:∀{b:Nat} {x:Lab},Λ.lab b=x->x≠ .fix none->b<Λ.w.heap.size:=by
  intro b x hl hx
  rcases Nat.lt_or_ge b Λ.w.heap.size with h'|h'
  ·exact h'
  ·rw [h.new b h'] at hl;exact absurd hl.symm hx
 refine ⟨⟨F.os,F.tape,F.output,F.size,hfix,fun b hb j fr hl o ho=>?_,fun b hb j i fr hl o ho=>?_⟩,by rw [F.nxt];exact Nat.le_refl _,fun b j _ hl=>(F.old h hl (by simp) id).1,fun b j n _ _ hl _=>F.old h hl (by simp) id,
  fun j _=>by rw [F.fro];exact Nat.le_refl _,fun b j i _ hl=>?_,fun b j i n _ hb hl hf=>?_,fun j i _=>?_,fun b j i _ _ hf hl=>?_⟩
 ·obtain ⟨e1,e2⟩:=F.old h hl (by simp) id
  exact ⟨by simp [Rd,e1,ho],cell?_heap e2⟩
 ·by_cases e:j=k
  ·subst e;exact F.rd b i fr hb hl o ho
  ·obtain ⟨e1,e2⟩:=F.old h hl (by simp) e
   exact ⟨by simp [Rd,e1,ho],cell?_heap e2⟩
 ·by_cases e:j=k
  ·subst e;exact F.fob b i hl
  ·obtain ⟨e1,e2⟩:=F.old h hl (by simp) e
   exact ⟨e1,fun N hN=>by unfold Zk at hN⊢;rw [e2];exact hN⟩
 ·by_cases e:j=k
  ·subst e;exact F.far b i n hb hl hf
  ·exact F.old h hl (by simp) e
 ·by_cases e:j=k
  ·subst e;exact F.zei i
  ·rw [F.zbl j i e];exact Nat.le_refl _
 ·by_cases e:j=k
  ·subst e;exact F.z41 b i hf hl
  ·exact F.back hl e
theorem Zq.Q7 {Λ Λ':L} {k:Nat} (F:Zq Λ Λ' k) {s:S} (h:Z4 Λ s) (hk:k<Λ.nxt) {o:z3} (ho:W5 Λ' k o):Z4 Λ' {s with sto:=yC s.sto k o}:=by
 have hkp:=F.kp h
 refine ⟨fun j ob hj=>?_,fun b b' j h1 h2=>h.inj b b' j (F.back h1 id) (F.back h2 id),F.new,fun b j hb=>?_,fun j hj=>by rw [F.fro];exact h.frz j (by rw [←F.nxt];exact hj),fun b b' j i h1 h2=>?_,fun b j hb=>?_,fun j i hj=>?_⟩
 ·simp only at hj;rw [Zh] at hj;split at hj
  ·rename_i e;subst e;simp at hj;subst hj;exact ⟨by rw [F.nxt];exact hk,ho⟩
  ·rename_i hne;obtain ⟨a1,a2⟩:=h.sto j ob hj;have hne':¬ j=k:=fun e=>hne e.symm
   exact ⟨by rw [F.nxt];exact a1,a2.mono hkp a1 (fun b hb=>(F.old h hb (by simp) id).2) (by rw [F.fro]) (fun b i hb=>(F.old h hb (by simp) hne').2) (fun b i hb=>F.back hb hne') (fun i=>F.zbl j i hne')⟩
 ·rw [F.nxt]
  rcases hb with hb|⟨n,hb⟩
  ·exact h.bnd b j (.inl (F.back hb id))
  ·exact h.bnd b j (.inr ⟨n,F.back hb id⟩)
 ·by_cases e:j=k
  ·subst e;exact F.inj b b' i h1 h2
  ·exact h.YO b b' j i (F.back h1 e) (F.back h2 e)
 ·rw [F.nxt];by_cases e:j=k
  ·subst e;exact hk
  ·rcases hb with ⟨i,hb⟩|⟨i,n,hb⟩
   ·exact h.YM b j (.inl ⟨i,F.back hb e⟩)
   ·exact h.YM b j (.inr ⟨i,n,F.back hb e⟩)
 ·rw [F.nxt] at hj;rw [F.zbl j i (by omega)];exact h.z0H j i hj
theorem Zq.free {Λ Λ':L} {k:Nat} (F:Zq Λ Λ' k) {j:Nat} (h:y9 Λ j) (hj:j≠k):y9 Λ' j:=
 ⟨fun b hb=>h.obj b (F.back hb id),fun b n hb=>h.arr b n (F.back hb id),by rw [F.fro];exact h.fro,fun b i hb=>h.fob b i (F.back hb hj),fun b i n hb=>h.far b i n (F.back hb hj),fun i=>by rw [F.zbl j i hj];exact h.frf i⟩
theorem Zq.write {Λ:L} {w':World} {b k i:Nat} {s:S} (h:Z4 Λ s) (g:Yp Λ.w w' b) (hb:Λ.lab b= .fob k i) (hN:∀N,Zk Λ.w b=some N->Zk w' b=some N):Zq Λ {Λ with w:=w'} k:=by
 have hne:∀{c:Nat} {x:Lab},Λ.lab c=x->(∀j,x≠ .fob k j)->c≠b:=fun h hx e=>hx i (by rw [←h,e,hb])
 refine ⟨g.os,g.tape,g.output,by rw [g.size];exact Nat.le_refl _,rfl,rfl,fun _=> .inl rfl,fun c _ hc=>g.old c (fun e=>hc (by rw [e,hb];rfl)),fun c j hl=>⟨hl,fun N hn=>?_⟩,fun c j n _ hl _=>⟨hl,g.old c (hne hl (by simp))⟩,
  fun c j n _ hl o ho=>⟨by simp [Rd,hl,ho],cell?_heap (g.old c (hne hl (by simp)))⟩,fun _ _ _=>rfl,fun _=>Nat.le_refl _,fun _ _ _ h=>h,fun b b' j h1 h2=>h.YO b b' k j h1 h2,fun c hc=>h.new c (by rw [←g.size];exact hc)⟩
 by_cases e:c=b
 ·subst e;exact hN N hn
 ·unfold Zk at hn⊢;rw [g.old c e];exact hn
def Zp (f:Nat->Nat->Nat) (k i n:Nat):Nat->Nat->Nat:=fun k' i'=>if k'=k/\i'=i then n else f k' i'
theorem yH {f:Nat->Nat->Nat} {k i n:Nat}:Zp f k i n k i=n:=by simp [Zp]
theorem yP {f:Nat->Nat->Nat} {k i n k' i':Nat} (h:¬ (k'=k/\i'=i)):Zp f k i n k' i'=f k' i':=by simp [Zp,h]
theorem Zq.zde {Λ:L} {k i n:Nat} {s:S} (h:Z4 Λ s) (hn:Λ.frf k i<n):Zq Λ {Λ with frf:=Zp Λ.frf k i n} k:=by
 refine ⟨rfl,rfl,rfl,Nat.le_refl _,rfl,rfl,fun _=> .inl Z,fun _ _ _=>rfl,fun _ _ hl=>⟨hl,fun _ h=>h⟩,fun _ _ _ _ hl _=>⟨hl,rfl⟩,fun c j m _ hl o ho=>⟨by simp [Rd,hl,ho],rfl⟩,fun j i' hj=>yP (by omega),fun i'=>?_,fun _ _ _ h=>h,fun b b' j h1 h2=>h.YO b b' k j h1 h2,h.new⟩
 by_cases e:i'=i
 ·subst e;show Λ.frf k i'<=Zp Λ.frf k i' n k i';rw [yH];omega
 ·show Λ.frf k i'<=Zp Λ.frf k i n k i';rw [yP (by simp [e])];exact Nat.le_refl _
theorem Zq.grow {Λ:L} {w':World} {o:Obj} {k i n:Nat} {s:S} (h:Z4 Λ s) (g:yA Λ.w w' o) (hi:∀b,Λ.lab b≠ .fob k i) (hn:Λ.frf k 0<n):
  Zq Λ {Λ with lab:=zZ Λ.lab Λ.w.heap.size (.fob k i),w:=w',frf:=Zp Λ.frf k 0 n} k:=by
 have hne:∀{b:Nat},b<Λ.w.heap.size->zZ Λ.lab Λ.w.heap.size (.fob k i) b=Λ.lab b:=fun h=>zu (by omega)
 have hlt:∀{b:Nat} {x:Lab},Λ.lab b=x->x≠ .fix none->b<Λ.w.heap.size:=by
  intro b x hl hx
  rcases Nat.lt_or_ge b Λ.w.heap.size with h'|h'
  ·exact h'
  ·rw [h.new b h'] at hl;exact absurd hl.symm hx
 refine ⟨g.os,g.tape,g.output,by rw [g.size];omega,rfl,rfl,fun b=>?_,fun b hb _=>g.old hb,fun b j hl=>?_,fun b j m hb hl _=>⟨by simp only [hne hb];exact hl,g.old hb⟩,fun b j m hb hl o ho=>⟨by simp [Rd,hne hb,hl,ho],cell?_heap (g.old hb)⟩,
  fun j i' hj=>yP (by omega),fun i'=>?_,fun b j hf=>?_,fun b b' j h1 h2=>?_,fun b hb=>?_⟩
 ·by_cases e:b=Λ.w.heap.size
  ·subst e;refine .inr ⟨by simp [zo,Lab.ofK],.inr (Nat.le_refl _)⟩
  ·exact .inl (zu e)
 ·have hb:=hlt hl (by simp)
  exact ⟨by simp only [hne hb];exact hl,fun N hN=>by unfold Zk at hN⊢;rw [g.old hb];exact hN⟩
 ·by_cases e:i'=0
  ·subst e;show Λ.frf k 0<=Zp Λ.frf k 0 n k 0;rw [yH];omega
  ·show Λ.frf k i'<=Zp Λ.frf k 0 n k i';rw [yP (by simp [e])];exact Nat.le_refl _
 ·exfalso;have:Zp Λ.frf k 0 n k 0=Λ.frf k 0:=hf;rw [yH] at this;omega
 ·simp only at h1 h2;by_cases e1:b=Λ.w.heap.size
  ·by_cases e2:b'=Λ.w.heap.size
   ·omega
   ·rw [zu e2] at h2;subst e1;rw [zo] at h1;simp at h1;subst h1;exact absurd h2 (hi b')
  ·rw [zu e1] at h1;by_cases e2:b'=Λ.w.heap.size
   ·subst e2;rw [zo] at h2;simp at h2;subst h2;exact absurd h1 (hi b)
   ·rw [zu e2] at h2;exact h.YO b b' k j h1 h2
 ·simp only at hb⊢;rw [g.size] at hb;rw [zu (by omega)];exact h.new b (by omega)
section
variable {P:Program} {o:Oper} {base:Nat} {st:St}
theorem z3J {Λ:L} {arr:Array Value} {cs vs:List V} {us:List Value} {off:Nat} (hul:us.length=vs.length) (hlc:off+vs.length<=cs.length) (hca:cs.length<=arr.size)
  (h4:∀(j:Nat) (v:Value) (c:V),arr[j]?=some v->cs[j]?=some c->zn Λ v c) (hy:∀(j:Nat) (v:Value) (c:V),us[j]?=some v->vs[j]?=some c->zn Λ v c):
  ∀(j:Nat) (u:Value) (c:V),(arr.toList.take off++us++arr.toList.drop (off+us.length)).toArray[j]?=some u->(setAt cs off vs)[j]?=some c->zn Λ u c:=by
 intro j u c hu hc;rw [qA _ _ _ _ hlc] at hc
 have hu':(arr.toList.take off++us++arr.toList.drop (off+us.length))[j]?=some u:=by simpa using hu
 have hlt:(arr.toList.take off).length=off:=by simp;omega
 split at hc
 ·rename_i hj;rw [List.append_assoc,List.getElem?_append_right (by omega),hlt,List.getElem?_append_left (by omega)] at hu';exact hy _ u c hu' hc
 ·rename_i hj;refine h4 j u c ?_ hc;by_cases hj1:j<off
  ·rw [List.append_assoc,List.getElem?_append_left (by omega),List.getElem?_take,if_pos hj1] at hu';simpa using hu'
  ·rw [List.getElem?_append_right (by simp;omega),List.getElem?_drop] at hu'
   have:off+us.length+(j - (arr.toList.take off++us).length)=j:=by simp;omega
   rw [this] at hu';simpa using hu'
theorem z36 {t:TypeId} {x y:Operand} {y':Ar} {n off b:Nat} {vs:List V} {a:Act} {C:Ctx} {Λ:L} {arr:Array Value} {e:TypeId} (hr:Rel C Λ st a) (ho:o.op= .store t x y) (hn:Zs P t=some n) (hy:opA y=some y')
  (hv:a.eval x= .pointer (some ⟨b,off,none⟩)) (hvs:(y'.u st).parts=some vs) (hl:vs.length=n) (hok:vs.all V.ZJ=true) (h2:Λ.w.heap[b]?=some (.cells arr e (0,0))) (hsz:off+n<=arr.size):
  ∃us:List Value,us.length=vs.length/\(∀(j:Nat) (v:Value) (c:V),us[j]?=some v->vs[j]?=some c->zn Λ v c)/\
   (execOp a.eval o).run P Λ.w= .ok .skip (Λ.w.setRow b (arr.toList.take off++us++arr.toList.drop (off+us.length)).toArray):=by
 have hy1:=(hr.opu hy).parts hvs
 have hone:∀u∈(a.eval y).cells.toList,u.oneCell'=true:=by
  intro u hu;obtain ⟨j,hj⟩:=List.mem_iff_getElem?.1 hu
  have hj':(a.eval y).cells[j]?=some u:=by simpa using hj
  have hlt:j<vs.length:=by rw [←hy1.1];exact (Array.getElem?_eq_some_iff.1 hj').1
  have:=hy1.2 j u vs[j] hj' (by simp [hlt]);exact this.Wm (by rw [List.all_eq_true] at hok;exact hok _ (List.getElem_mem hlt))
 have hs:(a.eval y).cells.size=n:=by rw [hy1.1];exact hl
 refine ⟨(a.eval y).cells.toList,by simpa using hy1.1,fun j v c e1 e2=>hy1.2 j v c (by simpa using e1) e2,?_⟩
 have hst:=run_storeCells_at P b off e (a.eval y).cells.toList 0 arr Λ.w h2 (by simp [hs];omega) hone;simp only [Nat.add_zero] at hst;simp only [execOp,ho,hv];simp [Instr.storeAt,Instr.sureAddr,storeVar,yv hn,hs,hst]
theorem Ym {w:World} {b:Nat} {arr A:Array Value} {e:TypeId} (h:w.heap[b]?=some (.cells arr e (0,0))) (hs:A.size=arr.size):∀N,Zk w b=some N->Zk (w.setRow b A) b=some N:=by
 intro N hN;unfold Zk at hN⊢;rw [setRow_heap _ _ _ _ _ _ h];rw [h] at hN;simp at hN⊢;omega
theorem zdw {t:TypeId} {x y:Operand} {x' y':Ar} {n k ver off w:Nat} {cs vs:List V} (ho:o.op= .store t x y) (hn:Zs P t=some n) (hx:opA x=some x') (hy:opA y=some y')
  (hxv:x'.u st= .gpt k ver off) (hk:zi st.s.sto k=some (.gro w cs)) (hw:ver=w) (hvs:(y'.u st).parts=some vs) (hl:vs.length=n) (hle:off+n<=cs.length) (hok:vs.all V.ZJ=true):
  zR P o base st {v:= .top,ob:=[(k,.gro w (setAt cs off vs))],rd:=true}:=by
 intro C Λ a next Q hC hr _ _ hnext;have hx1:=hr.opu hx;rw [hxv] at hx1;generalize hv:a.eval x=v at hx1
 cases hx1 with
 |gpt _ hkn _ g3=>
  have hwv:=(hr.s.sto k _ hk).2.1;obtain ⟨b,rfl,g4⟩:=g3 (hw.trans hwv.symm);obtain ⟨arr,e,h2,h3,h4⟩:=hr.s.QM hk g4;obtain ⟨us,e1,e2,hrun⟩:=z36 hr ho hn hy hv hvs hl hok h2 (by omega);unfold Oper.wp;rw [hrun];obtain ⟨i,hb,hb'⟩:=g4;have hrow:=z3J (Λ:=Λ) (off:=off) e1 (by omega) h3 h4 e2
  have hA:(arr.toList.take off++us++arr.toList.drop (off+us.length)).toArray.size=arr.size:=by simp;omega
  generalize (arr.toList.take off++us++arr.toList.drop (off+us.length)).toArray=A at hrow hA⊢;have F:=Zq.write hr.s (Yp.setRow Λ.w b A) hb (Ym h2 hA);have hkp:=F.kp hr.s;refine hnext undef _ hkp Z (F.Q7 hr.s hkn ⟨hwv,.inr ⟨b,A,e,⟨i,hb,hb'⟩,setRow_heap _ _ _ _ _ _ h2,by rw [Yd,hA];exact h3,fun j v c q1 q2=>(hrow j v c q1 q2).mono hkp⟩⟩) .top (fun j hj hn _=>F.free hj ?_);rintro rfl;rw [hk] at hn;cases hn
theorem zem {t:TypeId} {x y:Operand} {x' y':Ar} {n k i off:Nat} {os:List (List V)} {cs vs:List V} (ho:o.op= .store t x y) (hn:Zs P t=some n) (hx:opA x=some x') (hy:opA y=some y')
  (hxv:x'.u st= .fpt k i off) (hk:zi st.s.sto k=some (.yJ os)) (hi:os[i]?=some cs) (hvs:(y'.u st).parts=some vs) (hl:vs.length=n) (hle:off+n<=cs.length) (hok:vs.all V.ZJ=true):
  zR P o base st {v:= .top,ob:=[(k,.yJ (os.set i (setAt cs off vs)))],rd:=true}:=by
 intro C Λ a next Q hC hr _ _ hnext;have hx1:=hr.opu hx;rw [hxv] at hx1;generalize hv:a.eval x=v at hx1
 cases hx1 with
 |@fpt b _ _ _ hkn hb=>
  obtain ⟨arr,e,h2,h3,h4⟩:=hr.s.z6z hk hi hb;obtain ⟨us,e1,e2,hrun⟩:=z36 hr ho hn hy hv hvs hl hok h2 (by omega);unfold Oper.wp;rw [hrun];have hrow:=z3J (Λ:=Λ) (off:=off) e1 (by omega) (by omega) h4 e2
  have hA:(arr.toList.take off++us++arr.toList.drop (off+us.length)).toArray.size=arr.size:=by simp;omega
  generalize (arr.toList.take off++us++arr.toList.drop (off+us.length)).toArray=A at hrow hA⊢;have F:=Zq.write hr.s (Yp.setRow Λ.w b A) hb (Ym h2 hA);have hkp:=F.kp hr.s;obtain ⟨g1,g2⟩:=(hr.s.sto k _ hk).2;have hil:i<os.length:=(List.getElem?_eq_some_iff.1 hi).1
  refine hnext undef _ hkp Z (F.Q7 hr.s hkn ⟨fun b' i' h'=>by rw [List.length_set];exact g1 b' i' h',fun i' cs' h'=>?_⟩) .top (fun j hj hn _=>F.free hj ?_)
  ·rw [List.getElem?_set] at h';split at h'
   ·rename_i e';subst e';simp at h';obtain ⟨_,rfl⟩:=h'
    exact ⟨b,A,e,hb,setRow_heap _ _ _ _ _ _ h2,by rw [Yd,hA];exact h3,fun j v c q1 q2=>(hrow j v c q1 q2).mono hkp⟩
   ·rename_i e';obtain ⟨b',arr',et,f1,f2,f3,f4⟩:=g2 i' cs' h';refine ⟨b',arr',et,f1,?_,f3,fun j v c q1 q2=>(f4 j v c q1 q2).mono hkp⟩
    have:b'≠b:=by rintro rfl;rw [hb] at f1;simp at f1;exact e' f1
    rw [←f2];exact setRow_other _ _ _ _ this
  ·rintro rfl;rw [hk] at hn;cases hn
theorem z6R {Λ:L} {s:S} {w':World} {arr:Array Value} {e:TypeId} {k:Nat} {os:List (List V)} {vs:List V} (h:Z4 Λ s) (g:yA Λ.w w' (.cells arr e)) (hk:zi s.sto k=some (.yJ os)) (hs:arr.size=vs.length)
  (hv:∀(Λ':L),Kp Λ Λ'->∀(j:Nat) (v:Value) (c:V),arr[j]?=some v->vs[j]?=some c->zn Λ' v c):
  ∃Λ',Λ'.w=w'/\Λ'.nxt=Λ.nxt/\Kp Λ Λ'/\Z4 Λ' {s with sto:=yC s.sto k (.yJ (os++[vs]))}/\zn Λ' (.pointer (some ⟨Λ.w.heap.size,0,none⟩)) (.fpt k os.length 0)/\∀j,y9 Λ j->j≠k->y9 Λ' j:=by
 obtain ⟨hkn,g1,g2⟩:=h.sto k _ hk
 have F:=Zq.grow (i:=os.length) (n:=Λ.frf k 0+1) h g (fun b hb=>by have:=g1 b _ hb;omega) (by omega)
 have hkp:=F.kp h
 refine ⟨{Λ with lab:=zZ Λ.lab Λ.w.heap.size (.fob k os.length),w:=w',frf:=Zp Λ.frf k 0 (Λ.frf k 0+1)},rfl,rfl,hkp,F.Q7 (o:= .yJ (os++[vs])) h hkn ⟨fun b i hb=>?_,fun i cs hi=>?_⟩,.fpt hkn (by simp [zo]),fun j hj hne=>F.free hj hne⟩
 ·simp only at hb;by_cases e:b=Λ.w.heap.size
  ·subst e;rw [zo] at hb;simp at hb;simp;omega
  ·rw [zu e] at hb;have:=g1 b i hb;simp;omega
 ·by_cases hi':i<os.length
  ·rw [List.getElem?_append_left hi'] at hi;obtain ⟨b',arr',et,f1,f2,f3,f4⟩:=g2 i cs hi;have hb':b'<Λ.w.heap.size:=z0U f2
   exact ⟨b',arr',et,by simp only;rw [zu (by omega)];exact f1,by rw [g.old hb'];exact f2,f3,fun j v c q1 q2=>(f4 j v c q1 q2).mono hkp⟩
  ·have hii:i=os.length:=by
    have:=(List.getElem?_eq_some_iff.1 hi).1;simp at this;omega
   subst hii;rw [List.getElem?_append_right (Nat.le_refl _)] at hi;simp at hi;subst hi
   exact ⟨Λ.w.heap.size,arr,e,by simp [zo],g.top,hs,hv _ hkp⟩
theorem zeh {t:TypeId} {x:Operand} {x':Ar} {k:Nat} {os:List (List V)} {vs:List V} (ho:o.op= .box t x) (hx:opA x=some x') (hvs:(x'.u st).parts=some vs) (hk:zi st.s.sto k=some (.yJ os)):
  zR P o base st {v:= .fpt k os.length 0,ob:=[(k,.yJ (os++[vs]))],rd:=true}:=by
 intro C Λ a next Q hC hr hle hfree hnext;have hx1:=(hr.opu hx).parts hvs
 have hrun:(execOp a.eval o).run P Λ.w= .ok (.value (.pointer (some ⟨Λ.w.heap.size,0,none⟩))) (Λ.w.alloc (.cells (a.eval x).cells t)):=by
  simp only [execOp,ho];simp [Instr.box,newVar,newRow]
 unfold Oper.wp;rw [hrun];obtain ⟨Λ',e1,e2,e3,e4,e5,e6⟩:=z6R hr.s (yA.alloc Λ.w (.cells (a.eval x).cells t)) hk hx1.1 (fun Λ' hkp j v c q1 q2=>(hx1.2 j v c q1 q2).mono hkp);rw [←e1];refine hnext _ Λ' e3 e2 e4 e5 (fun j hj hn _=>e6 j hj ?_);rintro rfl;rw [hk] at hn;cases hn
theorem zdO {t:TypeId} {zs:List V} {k:Nat} {os:List (List V)} (ho:o.op= .alloc t) (hz:ZK P t=some zs) (hk:zi st.s.sto k=some (.yJ os)):
  zR P o base st {v:= .fpt k os.length 0,ob:=[(k,.yJ (os++[zs]))],rd:=true}:=by
 intro C Λ a next Q hC hr hle hfree hnext;obtain ⟨i,z,hi,hz1,hlen,hok⟩:=y4 hz
 have hrun:(execOp a.eval o).run P Λ.w= .ok (.value (.pointer (some ⟨Λ.w.heap.size,0,none⟩))) (Λ.w.alloc (.cells z.cells t)):=by
  simp only [execOp,ho];simp [Instr.alloc,zeroValue,typeInfo,hi,hz1,newVar,newRow]
 unfold Oper.wp;rw [hrun];have hrc:=fun Λ':L=>yc (Λ:=Λ') hok;obtain ⟨Λ',e1,e2,e3,e4,e5,e6⟩:=z6R hr.s (yA.alloc Λ.w (.cells z.cells t)) hk (hrc Λ).1 (fun Λ' hkp j v c q1 q2=>(hrc Λ').2 j v c q1 q2);rw [←e1];refine hnext _ Λ' e3 e2 e4 e5 (fun j hj hn _=>e6 j hj ?_);rintro rfl;rw [hk] at hn;cases hn
end
section
variable {P:Program} {o:Oper} {base:Nat} {st:St}
theorem z4F {sz:Nat} (h0:0<sz) {C:Ctx} {Λ:L} {a:Act} (hr:Rel C Λ st a) {y:Operand} {y':Ar} (hy:opA y=some y') {vs:List V} {m:Nat} (h:z3k st sz (y'.u st)=some (vs,m)):
  vs.length=m*sz/\((m=0/\∃ad c,a.eval y= .slice ad 0 c)∨(0<m/\∃(b off cap:Nat) (us:List Value),a.eval y= .slice (some ⟨b,off,none⟩) m cap/\m<=cap/\us.length=m*sz/\
   (∀(j:Nat) (u:Value),us[j]?=some u->Λ.w.cell? ⟨b,off+j,none⟩=some u)/\∀(j:Nat) (u:Value) (c:V),us[j]?=some u->vs[j]?=some c->zn Λ u c)):=by
 have hy1:=hr.opu hy;unfold z3k at h
 have blk:∀{b off len cap:Nat} {arr:Array Value} {e:TypeId} {cs:List V},a.eval y= .slice (some ⟨b,off,none⟩) len cap->len<=cap->Λ.w.heap[b]?=some (.cells arr e (0,0))->off+len*sz<=cs.length->cs.length<=arr.size->
   (∀(j:Nat) (v:Value) (c:V),arr[j]?=some v->cs[j]?=some c->zn Λ v c)->vs=(cs.drop off).take (len*sz)->m=len->
   vs.length=m*sz/\((m=0/\∃ad c,a.eval y= .slice ad 0 c)∨(0<m/\∃(b off cap:Nat) (us:List Value),a.eval y= .slice (some ⟨b,off,none⟩) m cap/\m<=cap/\us.length=m*sz/\
   (∀(j:Nat) (u:Value),us[j]?=some u->Λ.w.cell? ⟨b,off+j,none⟩=some u)/\∀(j:Nat) (u:Value) (c:V),us[j]?=some u->vs[j]?=some c->zn Λ u c)):=by
  intro b off len cap arr e cs he hcap h2 hle hca h4 hvs hm;subst hvs hm
  refine ⟨by simp;omega,?_⟩
  by_cases hm0:m=0
  ·subst hm0;exact .inl ⟨rfl,_,_,he⟩
  ·refine .inr ⟨by omega,b,off,cap,(arr.toList.drop off).take (m*sz),he,hcap,by simp;omega,fun j u hu=>?_,fun j u c hu hc=>?_⟩
   ·rw [List.getElem?_take] at hu;split at hu
    ·rw [List.getElem?_drop] at hu;rw [cell_of_row Λ.w b _ arr e _ h2];simpa using hu
    ·cases hu
   ·rw [List.getElem?_take] at hu hc;split at hc
    ·rename_i hj;rw [if_pos hj] at hu;rw [List.getElem?_drop] at hu hc;exact h4 _ u c (by simpa using hu) hc
    ·cases hc
 split at h
 ·rename_i ys hc1;split at h
  ·rename_i hl;obtain ⟨h1,h2⟩:=Prod.mk.inj (Option.some.inj h);subst h1 h2;have hlY:=W3 hl;have hfl:=ZG ys hlY
   refine ⟨by rw [List.length_map];exact hfl,?_⟩
   have hrep:=hy1.zy hc1;by_cases hm0:ys.length=0
   ·refine .inl ⟨hm0,?_⟩;have:ys=[]:=List.length_eq_zero_iff.1 hm0;subst this;generalize a.eval y=u at hrep
    cases hrep with
    |lst ad cap _ _ _ _ _ _ _ _ _ _ _=>exact ⟨ad,cap,rfl⟩
   ·obtain ⟨b,off,cap,us,e1,e2,e3,e4,e5⟩:=hrep.cells hlY (by omega) h0
    refine .inr ⟨by omega,b,off,cap,us,e1,e2,e3,fun j u hu=>(e4 j u hu).1,fun j u c hu hc=>?_⟩
    rw [List.getElem?_map,Option.map_eq_some_iff] at hc;obtain ⟨x,hx,rfl⟩:=hc;exact .t (e5 j u x hu hx)
  ·cases h
 ·split at h
  ·rename_i k off len s hyv;split at h
   ·rename_i cs hk;split at h
    ·rename_i hc;simp at h;obtain ⟨h1,h2⟩:=h;rw [hyv] at hy1;generalize he:a.eval y=u at hy1
     cases hy1 with
     |slc hkn hcap hb=>
      obtain ⟨arr,e,g2,g3,g4⟩:=hr.s.WM hk hb;exact he▸blk he hcap g2 hc.2 (by omega) g4 h1.symm h2.symm
    ·cases h
   ·cases h
  ·rename_i k ver off len s hyv;split at h
   ·rename_i w cs hk;split at h
    ·rename_i hc;simp at h;obtain ⟨h1,h2⟩:=h;rw [hyv] at hy1;generalize he:a.eval y=u at hy1
     cases hy1 with
     |gsl _ hkn _ hb=>
      rcases hb (hc.2.1.trans (hr.s.sto k _ hk).2.1.symm) with ⟨⟨ad,rfl⟩,hl0⟩|⟨b,cap,N,rfl,hcap,hcur,hN,hN'⟩
      ·subst hl0
       refine ⟨by rw [←h1,←h2];simp,.inl ⟨h2.symm,ad,0,rfl⟩⟩
      ·obtain ⟨arr,e,g2,g3,g4⟩:=hr.s.QM hk hcur;exact he▸blk he hcap g2 hc.2.2 g3 g4 h1.symm h2.symm
    ·cases h
   ·cases h
  ·cases h
theorem z4n {Λ:L} {s:S} {w':World} {arr:Array Value} {e:TypeId} {k i ver sz n cap:Nat} {cs:List V} (h:Z4 Λ s) (g:yA Λ.w w' (.cells arr e)) (hk:k<Λ.nxt) (hv:Λ.frf k 0<ver) (hi:∀b j,Λ.lab b= .fob k j->j<i)
  (hle:cs.length<=arr.size) (hn:n<=cap) (hcap:arr.size=cap*sz) (hrel:∀(Λ':L),Kp Λ Λ'->∀(j:Nat) (v:Value) (c:V),arr[j]?=some v->cs[j]?=some c->zn Λ' v c):
  ∃Λ',Λ'.w=w'/\Λ'.nxt=Λ.nxt/\Kp Λ Λ'/\Z4 Λ' {s with sto:=yC s.sto k (.gro ver cs)}/\zn Λ' (.slice (some ⟨Λ.w.heap.size,0,none⟩) n cap) (.gsl k ver 0 n sz)/\∀j,y9 Λ j->j≠k->y9 Λ' j:=by
 have F:=Zq.grow (i:=i) (n:=ver) h g (fun b hb=>by have:=hi b _ hb;omega) hv
 have hkp:=F.kp h
 have hcur:WB (zZ Λ.lab Λ.w.heap.size (.fob k i)) k Λ.w.heap.size:=by
  refine ⟨i,by simp [zo],fun b' j hb=>?_⟩
  by_cases e:b'=Λ.w.heap.size
  ·subst e;rw [zo] at hb;simp at hb;omega
  ·rw [zu e] at hb;have:=hi b' j hb;omega
 refine ⟨{Λ with lab:=zZ Λ.lab Λ.w.heap.size (.fob k i),w:=w',frf:=Zp Λ.frf k 0 ver},rfl,rfl,hkp,F.Q7 (o:= .gro ver cs) h hk ⟨by simp [Zp],.inr ⟨Λ.w.heap.size,arr,e,hcur,g.top,hle,hrel _ hkp⟩⟩,.gsl ⟨_,_,_,rfl⟩ hk ⟨fun h0=>absurd h0 (by omega),by simp [Zp]⟩ (fun _=> .inr ⟨Λ.w.heap.size,cap,arr.size,rfl,hn,hcur,by simp [Zk,g.top],by simp [hcap]⟩),fun j hj hne=>F.free hj hne⟩
theorem z8M {Λ:L} {s:S} {w':World} {arr A:Array Value} {e:TypeId} {k b ver sz n cap:Nat} {cs cs0:List V} {w0:Nat} (h:Z4 Λ s) (hks:zi s.sto k=some (.gro w0 cs0)) (hv:w0<ver) (hcur:WB Λ.lab k b) (hb:Λ.w.heap[b]?=some (.cells arr e (0,0)))
  (hw:w'=Λ.w.setRow b A) (hA:A.size=arr.size) (hle:cs.length<=A.size) (hn:n<=cap) (hcap:A.size=cap*sz) (hrel:∀(j:Nat) (v:Value) (c:V),A[j]?=some v->cs[j]?=some c->zn Λ v c):
  ∃Λ',Λ'.w=w'/\Λ'.nxt=Λ.nxt/\Kp Λ Λ'/\Z4 Λ' {s with sto:=yC s.sto k (.gro ver cs)}/\zn Λ' (.slice (some ⟨b,0,none⟩) n cap) (.gsl k ver 0 n sz)/\∀j,y9 Λ j->j≠k->y9 Λ' j:=by
 subst hw;obtain ⟨hk,hv0,_⟩:=h.sto k _ hks;obtain ⟨i,hi,hi'⟩:=hcur;have F1:=Zq.write h (Yp.setRow Λ.w b A) hi (Ym hb hA);have k1:=F1.kp h;have hh:=setRow_heap Λ.w b arr A e (0,0) hb;have r1:=F1.Q7 (o:= .gro w0 cs) h hk ⟨hv0,.inr ⟨b,A,e,⟨i,hi,hi'⟩,hh,hle,fun j v c q1 q2=>(hrel j v c q1 q2).mono k1⟩⟩;have F2:=Zq.zde (k:=k) (i:=0) (n:=ver) r1 (by show Λ.frf k 0<ver;omega);have k2:=F2.kp r1
 have r2:=F2.Q7 (o:= .gro ver cs) r1 hk ⟨by simp [Zp],.inr ⟨b,A,e,⟨i,hi,hi'⟩,hh,hle,fun j v c q1 q2=>((hrel j v c q1 q2).mono k1).mono k2⟩⟩
 refine ⟨{Λ with w:=Λ.w.setRow b A,frf:=Zp Λ.frf k 0 ver},rfl,rfl,Kp.trans k1 k2,?_,.gsl ⟨_,_,_,rfl⟩ hk ⟨fun h0=>absurd h0 (by omega),by simp [Zp]⟩ (fun _=> .inr ⟨b,cap,A.size,rfl,hn,⟨i,hi,hi'⟩,?_,by simp [hcap]⟩),fun j hj hne=>F2.free (F1.free hj hne) hne⟩
 ·have e2:yC (yC s.sto k (.gro w0 cs)) k (.gro ver cs)=yC s.sto k (.gro ver cs):=by
   generalize s.sto=l
   induction l with
   |nil=>simp [yC]
   |cons x r ih=>
    obtain ⟨j,x⟩:=x;by_cases hj:j=k
    ·subst hj;simp [yC]
    ·simp [yC,hj,ih]
  rw [←e2];exact r2
 ·show Zk (Λ.w.setRow b A) b=some A.size;simp [Zk,hh]
end
section
variable {P:Program} {o:Oper} {base:Nat} {st:St}
def Src (Λ:L) (sz:Nat) (u:Value) (vs:List V) (m:Nat):Prop:=
 vs.length=m*sz/\((m=0/\∃ad c,u= .slice ad 0 c)∨(0<m/\∃(b off cap:Nat) (us:List Value),u= .slice (some ⟨b,off,none⟩) m cap/\m<=cap/\us.length=m*sz/\
   (∀(j:Nat) (v:Value),us[j]?=some v->Λ.w.cell? ⟨b,off+j,none⟩=some v)/\∀(j:Nat) (v:Value) (c:V),us[j]?=some v->vs[j]?=some c->zn Λ v c))
theorem z5v {sz bytes:Nat} {x' y':Ar} (A:z0j P o sz bytes x' y') {C:Ctx} {Λ:L} {a:Act} (hr:Rel C Λ st a) {k ver m:Nat} {vs:List V} (hk:k<Λ.nxt) (hv:Λ.frf k 0<ver) (hno:(∀b i,Λ.lab b≠ .fob k i)∨∃(b:Nat) (arr:Array Value) (e:TypeId),WB Λ.lab k b/\Λ.w.heap[b]?=some (.cells arr e (0,0))) {ad:Option Addr} (hnil:a.eval A.x= .slice ad 0 0)
  (hs:Src Λ sz (a.eval A.y) vs m) (hroom:m*bytes<=140737488355328) (h63:m<=9223372036854775807):
  ∃v Λ',(execOp a.eval o).run P Λ.w= .ok (.value v) Λ'.w/\Kp Λ Λ'/\Λ'.nxt=Λ.nxt/\Z4 Λ' {st.s with sto:=yC st.s.sto k (.gro ver vs)}/\zn Λ' v (.gsl k ver 0 m sz)/\∀j,y9 Λ j->j≠k->y9 Λ' j:=by
 obtain ⟨hl,⟨hm,a',c,hy⟩|⟨hm,b,off,cap,us,hy,hcap,hul,huc,hur⟩⟩:=hs
 ·subst hm;have hvs:vs=[]:=List.length_eq_zero_iff.1 (by omega);subst hvs
  have hrun:(execOp a.eval o).run P Λ.w= .ok (.value (.slice ad 0 0)) Λ.w:=by
   refine Z0 A.ho Z A.ha A.hat ?_;rw [hnil,hy];exact yw A.ht A.hi ad 0 0 (Nat.le_refl _) a' c Λ.w
  have F:=Zq.zde (k:=k) (i:=0) (n:=ver) hr.s hv;have hkp:=F.kp hr.s
  refine ⟨_,{Λ with frf:=Zp Λ.frf k 0 ver},hrun,hkp,rfl,F.Q7 (o:= .gro ver []) hr.s hk ⟨by simp [Zp],?_⟩,.gsl ⟨_,_,_,rfl⟩ hk ⟨fun h0=>absurd h0 (by omega),by simp [Zp]⟩ (fun _=> .inl ⟨⟨_,rfl⟩,rfl⟩),fun j hj hne=>F.free hj hne⟩
  rcases hno with hno|⟨b,arr,e,g1,g2⟩
  ·exact .inl ⟨rfl,hno⟩
  ·exact .inr ⟨b,arr,e,g1,g2,by simp,by simp⟩
 ·have hrun':(Builtin.append_ #[A.t,A.t] o.type #[.slice ad 0 0,.slice (some ⟨b,off,none⟩) m cap]).run P Λ.w=
    .ok (.slice (some ⟨Λ.w.heap.size,0,none⟩) m (grownCap Λ.w m 0 A.e)) (Λ.w.drew.alloc (.cells (us.toArray++Builtin.zeroCells A.z.cells (grownCap Λ.w m 0 A.e - m)) A.e)):=by
   cases ad with
   |none=>exact run_append_nil (P:=P) Λ.w A.t o.type A.e A.inf A.z A.ht A.hi A.hz ⟨b,off,none⟩ m cap us (by rw [A.hs];exact hul) (fun j u hu=>by rw [ZW];exact huc j u hu) (by omega) (by omega) (by rw [A.hb];omega)
   |some ad=>
    have:=run_append_grow (P:=P) Λ.w A.t o.type A.e A.inf A.z A.ht A.hi A.hz ad 0 0 [] (by simp) (by simp) ⟨b,off,none⟩ m cap us (by rw [A.hs];exact hul) (fun j u hu=>by rw [ZW];exact huc j u hu) (by omega) (by omega) (by rw [Nat.zero_add,nextslicecap_zero (by omega),A.hb];omega)
    simpa only [Nat.zero_add,List.append_toArray,List.nil_append] using this
  have hrun:=Z0 (x:=A.x) (y:=A.y) (a:=a) A.ho rfl A.ha A.hat (by rw [hnil,hy];exact hrun');have hge:=grownCap_ge Λ.w m 0 A.e
  obtain ⟨i0,hi0⟩:∃i0,∀b j,Λ.lab b= .fob k j->j<i0:=by
   rcases hno with hno|⟨b,_,_,⟨i,g1,g2⟩,_⟩
   ·exact ⟨0,fun b j hb=>absurd hb (hno b j)⟩
   ·exact ⟨i+1,fun b' j hb=>by have:=g2 b' j hb;omega⟩
  obtain ⟨Λ',e1,e2,e3,e4,e5,e6⟩:=z4n (i:=i0) (ver:=ver) (sz:=sz) (n:=m) (cap:=grownCap Λ.w m 0 A.e) (cs:=vs) hr.s (yA.Yv Λ.w (.cells (us.toArray++Builtin.zeroCells A.z.cells (grownCap Λ.w m 0 A.e - m)) A.e)) hk hv hi0
   (by simp [hul,hl]) hge (by simp only [Array.size_append,List.size_toArray,size_zeroCells,A.hzs,hul];rw [←Nat.add_mul];congr 1;omega) (fun Λ' hkp j v c q1 q2=>by
    have hj:=(List.getElem?_eq_some_iff.1 q2).1;rw [Array.getElem?_append_left (by simp;omega)] at q1
    exact (hur j v c (by simpa using q1) q2).mono hkp)
  exact ⟨_,Λ',by rw [hrun,e1],e3,e2,e4,e5,e6⟩
theorem zd5 {sz bytes:Nat} {x' y':Ar} {vs:List V} {m:Nat} (A:z0j P o sz bytes x' y') (hxv:x'.u st= .zV) (hyv:z3k st sz (y'.u st)=some (vs,m)) (hroom:m*bytes<=140737488355328) (h63:m<=9223372036854775807):
  zR P o base st {v:= .gsl base 1 0 m sz,ob:=[(base,.gro 1 vs)],n:=1,rd:=true}:=by
 intro C Λ a next Q hC hr hle hfree hnext;have hx1:=hr.opu A.hx;rw [hxv] at hx1
 obtain ⟨ad,hnil⟩:∃ad,a.eval A.x= .slice ad 0 0:=by generalize a.eval A.x=u at hx1;cases hx1;exact ⟨_,rfl⟩
 obtain ⟨hb1,hb2,hb3⟩:=hfree base (Nat.le_refl _) (by simp);obtain ⟨v,Λ',h1,h2,h3,h4,h5,h6⟩:=z5v (ver:=1) A hr hb1 (by rw [hb2.frf 0];omega) (.inl hb2.fob) hnil (z4F A.h0 hr A.hy hyv) hroom h63;unfold Oper.wp;rw [h1];exact hnext v Λ' h2 h3 h4 h5 (fun k hk _ hlt=>h6 k hk (by simp at hlt;omega))
theorem zdi {sz bytes:Nat} {x' y':Ar} {k ver len w:Nat} {cs vs:List V} {m:Nat} (A:z0j P o sz bytes x' y') (hxv:x'.u st= .gsl k ver 0 len sz) (hk:zi st.s.sto k=some (.gro w cs)) (hw:ver=w) (hcl:cs.length=len*sz)
  (hyv:z3k st sz (y'.u st)=some (vs,m)) (hok:vs.all V.ZJ=true) (hroom:(len+m)*bytes<=140737488355328) (h63:len+m<=9223372036854775807):
  zR P o base st {v:= .gsl k (w+1) 0 (len+m) sz,ob:=[(k,.gro (w+1) (cs++vs))],rd:=true}:=by
 intro C Λ a next Q hC hr hle hfree hnext;have hx1:=hr.opu A.hx;rw [hxv] at hx1;obtain ⟨hkn,hwv,hcur0⟩:=hr.s.sto k _ hk;have hsrc:=z4F A.h0 hr A.hy hyv
 have hkj:∀j,zi st.s.sto j=none->j≠k:=by rintro j hn rfl;rw [hk] at hn;cases hn
 unfold Oper.wp;generalize hxe:a.eval A.x=vx at hx1
 cases hx1 with
 |gsl _ _ _ hb=>
 rcases hb (hw.trans hwv.symm) with ⟨⟨ad,rfl⟩,hl0⟩|⟨b,cap,N,rfl,hcap,hcur,hN,hN'⟩
 ·subst hl0;have hcs:cs=[]:=List.length_eq_zero_iff.1 (by omega);subst hcs
  have hno:(∀b i,Λ.lab b≠ .fob k i)∨∃(b:Nat) (arr:Array Value) (e:TypeId),WB Λ.lab k b/\Λ.w.heap[b]?=some (.cells arr e (0,0)):=by
   rcases hcur0 with ⟨_,g⟩|⟨b,arr,e,g1,g2,_⟩
   ·exact .inl g
   ·exact .inr ⟨b,arr,e,g1,g2⟩
  obtain ⟨v,Λ',h1,h2,h3,h4,h5,h6⟩:=z5v (ver:=w+1) A hr hkn (by omega) hno hxe hsrc (by simpa using hroom) (by simpa using h63);rw [h1];exact hnext v Λ' h2 h3 (by simpa [S.app,Zj] using h4) (by simpa using h5) (fun j hj hn _=>h6 j hj (hkj j hn))
 ·obtain ⟨arr,e',hhb,hac,hold⟩:=hr.s.QM hk hcur
  have hNa:N=arr.size:=by simpa [Zk,hhb] using hN.symm
  have hac2:arr.size=cap*sz:=by omega
  obtain ⟨hl,⟨hm,a',c,hy⟩|⟨hm,yb,yoff,ycap,us,hy,hyc,hul,huc,hur⟩⟩:=hsrc
  ·subst hm;have hvs:vs=[]:=List.length_eq_zero_iff.1 (by omega);subst hvs
   have hrun:(execOp a.eval o).run P Λ.w= .ok (.value (.slice (some ⟨b,0,none⟩) len cap)) Λ.w:=by
    refine Z0 A.ho Z A.ha A.hat ?_;rw [hxe,hy];exact yw A.ht A.hi _ _ _ hcap a' c Λ.w
   rw [hrun];have F:=Zq.zde (k:=k) (i:=0) (n:=w+1) hr.s (by omega);have hkp:=F.kp hr.s
   refine hnext _ {Λ with frf:=Zp Λ.frf k 0 (w+1)} hkp Z (F.Q7 (o:= .gro (w+1) (cs++[])) hr.s hkn ⟨by simp [Zp],.inr ⟨b,arr,e',hcur,hhb,by simpa using hac,fun j v c q1 q2=>(hold j v c q1 (by simpa using q2)).mono hkp⟩⟩) (.gsl ⟨_,_,_,rfl⟩ hkn ⟨fun h0=>absurd h0 (by omega),by simp [Zp]⟩ (fun _=> .inr ⟨b,cap,N,rfl,hcap,hcur,hN,hN'⟩)) (fun j hj hn _=>F.free hj (hkj j hn))
  ·have hone:∀u∈us,u.oneCell'=true:=by
    intro u hu;obtain ⟨j,hj⟩:=List.mem_iff_getElem?.1 hu;have hjl:=(List.getElem?_eq_some_iff.1 hj).1
    have hjv:j<vs.length:=by omega
    exact (hur j u vs[j] hj (by simp [hjv])).Wm (by rw [List.all_eq_true] at hok;exact hok _ (List.getElem_mem hjv))
   by_cases hrm:len+m<=cap
   ·have hfit:len*A.inf.size+us.length<=arr.size:=by
     rw [A.hs,hul,hac2,←Nat.add_mul];exact Nat.mul_le_mul_right _ hrm
    have hrun':=Yx (P:=P) (ty:=o.type) Λ.w A.ht A.hi b len cap arr hhb ⟨yb,yoff,none⟩ m ycap us (by rw [A.hs];exact hul) (fun j u hu=>by rw [ZW];exact huc j u hu) hone hrm hfit
    have hrun:=Z0 (x:=A.x) (y:=A.y) (a:=a) A.ho rfl A.ha A.hat (by rw [hxe,hy];exact hrun');rw [hrun];rw [A.hs] at hfit⊢
    have hsz2:(arr.toList.take (len*sz)++us++arr.toList.drop (len*sz+us.length)).toArray.size=arr.size:=by simp;omega
    have hget:∀(j:Nat) (v:Value) (c:V),(arr.toList.take (len*sz)++us++arr.toList.drop (len*sz+us.length)).toArray[j]?=some v->(cs++vs)[j]?=some c->zn Λ v c:=by
     intro j v c q1 q2
     have hlt:(arr.toList.take (len*sz)).length=len*sz:=by simp;omega
     have q1':(arr.toList.take (len*sz)++us++arr.toList.drop (len*sz+us.length))[j]?=some v:=by simpa using q1
     by_cases hj:j<cs.length
     ·rw [List.getElem?_append_left hj] at q2;rw [List.append_assoc,List.getElem?_append_left (by omega),List.getElem?_take,if_pos (by omega)] at q1';exact hold j v c (by simpa using q1') q2
     ·rw [List.getElem?_append_right (by omega)] at q2;have hjv:=(List.getElem?_eq_some_iff.1 q2).1;rw [List.append_assoc,List.getElem?_append_right (by omega),List.getElem?_append_left (by omega),hlt,←hcl] at q1';exact hur _ v c q1' q2
    generalize (arr.toList.take (len*sz)++us++arr.toList.drop (len*sz+us.length)).toArray=A2 at*;obtain ⟨Λ',e1,e2,e3,e4,e5,e6⟩:=z8M (ver:=w+1) (sz:=sz) (n:=len+m) (cap:=cap) (cs:=cs++vs) hr.s hk (by omega) hcur hhb rfl hsz2 (by rw [hsz2,hac2,List.length_append,hl,hcl,←Nat.add_mul];exact Nat.mul_le_mul_right _ hrm) hrm (by omega) hget;rw [←e1];exact hnext _ Λ' e3 e2 (by simpa [S.app,Zj] using e4) e5 (fun j hj hn _=>e6 j hj (hkj j hn))
   ·have hrun':=run_append_grow (P:=P) Λ.w A.t o.type A.e A.inf A.z A.ht A.hi A.hz ⟨b,0,none⟩ len cap (arr.toList.take (len*sz)) (by have:=Nat.mul_le_mul_right sz hcap;rw [A.hs];simp;omega)
     (fun j u hu=>by
      rw [ZW,cell_of_row Λ.w b _ arr e' _ hhb,Nat.zero_add];rw [List.getElem?_take] at hu;split at hu
      ·simpa using hu
      ·cases hu) ⟨yb,yoff,none⟩ m ycap us (by rw [A.hs];exact hul) (fun j u hu=>by rw [ZW];exact huc j u hu) (by omega) (by omega)
     (by rw [A.hb];exact growslice_fits (by omega) hroom)
    have hrun:=Z0 (x:=A.x) (y:=A.y) (a:=a) A.ho rfl A.ha A.hat (by rw [hxe,hy];exact hrun');rw [hrun];have hge:=grownCap_ge Λ.w (len+m) cap A.e;obtain ⟨i,hi1,hi2⟩:=hcur
    have htl:(arr.toList.take (len*sz)).length=len*sz:=by have:=Nat.mul_le_mul_right sz hcap;simp;omega
    obtain ⟨Λ',e1,e2,e3,e4,e5,e6⟩:=z4n (i:=i+1) (ver:=w+1) (sz:=sz) (n:=len+m) (cap:=grownCap Λ.w (len+m) cap A.e) (cs:=cs++vs) hr.s (yA.Yv Λ.w (.cells ((arr.toList.take (len*sz)).toArray++us.toArray++Builtin.zeroCells A.z.cells (grownCap Λ.w (len+m) cap A.e - (len+m))) A.e)) hkn (by omega) (fun b' j hb=>by have:=hi2 b' j hb;omega)
     (by simp only [Array.size_append,List.size_toArray,htl,hul,List.length_append,hcl,hl];omega) hge (by simp only [Array.size_append,List.size_toArray,size_zeroCells,A.hzs,hul,htl];rw [←Nat.add_mul,←Nat.add_mul];congr 1;omega) (fun Λ' hkp j v c q1 q2=>by
      have hj:=(List.getElem?_eq_some_iff.1 q2).1;rw [List.length_append] at hj;rw [Array.getElem?_append_left (by simp only [Array.size_append,List.size_toArray,htl,hul];omega)] at q1;by_cases hjc:j<cs.length
      ·rw [List.getElem?_append_left hjc] at q2;rw [Array.getElem?_append_left (by simp only [List.size_toArray,htl];omega)] at q1;rw [List.getElem?_toArray,List.getElem?_take,if_pos (by omega)] at q1;exact (hold j v c (by simpa using q1) q2).mono hkp
      ·rw [List.getElem?_append_right (by omega)] at q2;rw [Array.getElem?_append_right (by simp only [List.size_toArray,htl];omega)] at q1;simp only [List.size_toArray,htl,List.getElem?_toArray] at q1;rw [←hcl] at q1
       exact (hur _ v c q1 q2).mono hkp)
    rw [←e1];exact hnext _ Λ' e3 e2 (by simpa [S.app,Zj] using e4) e5 (fun j hj hn _=>e6 j hj (hkj j hn))
end
theorem Zq.z9v {Λ:L} {w':World} {o:Obj} {k i n fr:Nat} {s:S} (h:Z4 Λ s) (g:yA Λ.w w' o) (hn:Λ.frf k i<n):
  Zq Λ {Λ with lab:=zZ Λ.lab Λ.w.heap.size (.far k i fr),w:=w',frf:=Zp Λ.frf k i n} k:=by
 have hne:∀{b:Nat},b<Λ.w.heap.size->zZ Λ.lab Λ.w.heap.size (.far k i fr) b=Λ.lab b:=fun h=>zu (by omega)
 have hnf:∀b j,zZ Λ.lab Λ.w.heap.size (.far k i fr) b= .fob k j->Λ.lab b= .fob k j:=by
  intro b j hb;by_cases e:b=Λ.w.heap.size
  ·subst e;rw [zo] at hb;cases hb
  ·rw [zu e] at hb;exact hb
 have hlt:∀{b:Nat} {x:Lab},Λ.lab b=x->x≠ .fix none->b<Λ.w.heap.size:=by
  intro b x hl hx
  rcases Nat.lt_or_ge b Λ.w.heap.size with h'|h'
  ·exact h'
  ·rw [h.new b h'] at hl;exact absurd hl.symm hx
 refine ⟨g.os,g.tape,g.output,by rw [g.size];omega,rfl,rfl,fun b=>?_,fun b hb _=>g.old hb,fun b j hl=>⟨by simp only [hne (hlt hl (by simp))];exact hl,fun N hN=>by unfold Zk at hN⊢;rw [g.old (hlt hl (by simp))];exact hN⟩,fun b j m hb hl _=>⟨by simp only [hne hb];exact hl,g.old hb⟩,fun b j m hb hl o ho=>⟨by simp [Rd,hne hb,hl,ho],cell?_heap (g.old hb)⟩,
  fun j i' hj=>yP (by omega),fun i'=>?_,fun b j _ hb=>hnf b j hb,fun b b' j h1 h2=>h.YO b b' k j (hnf b j h1) (hnf b' j h2),fun b hb=>?_⟩
 ·by_cases e:b=Λ.w.heap.size
  ·subst e;refine .inr ⟨by simp [zo,Lab.ofK],.inr (Nat.le_refl _)⟩
  ·exact .inl (zu e)
 ·by_cases e:i'=i
  ·subst e;show Λ.frf k i'<=Zp Λ.frf k i' n k i';rw [yH];omega
  ·show Λ.frf k i'<=Zp Λ.frf k i n k i';rw [yP (by simp [e])];exact Nat.le_refl _
 ·simp only at hb⊢;rw [g.size] at hb;rw [zu (by omega)];exact h.new b (by omega)
theorem Zq.zct {Λ:L} {w':World} {b k i n fr fr':Nat} {s:S} (h:Z4 Λ s) (g:Yp Λ.w w' b) (hb:Λ.lab b= .far k i fr) (hfr:fr<=fr') (hc:∀o,o<fr->w'.cell? ⟨b,o,none⟩=Λ.w.cell? ⟨b,o,none⟩) (hn:Λ.frf k i<n):
  Zq Λ {Λ with lab:=zZ Λ.lab b (.far k i fr'),w:=w',frf:=Zp Λ.frf k i n} k:=by
 have hnf:∀c j,zZ Λ.lab b (.far k i fr') c= .fob k j->Λ.lab c= .fob k j/\c≠b:=by
  intro c j hc;by_cases e:c=b
  ·subst e;rw [zo] at hc;cases hc
  ·rw [zu e] at hc;exact ⟨hc,e⟩
 have hcb:∀c j,Λ.lab c= .fob k j->c≠b:=by rintro c j hl rfl;rw [hb] at hl;cases hl
 refine ⟨g.os,g.tape,g.output,by rw [g.size];exact Nat.le_refl _,rfl,rfl,fun c=>?_,fun c _ hc=>g.old c (fun e=>hc (by rw [e,hb];rfl)),fun c j hl=>⟨by simp only [zu (hcb c j hl)];exact hl,fun N hN=>by unfold Zk at hN⊢;rw [g.old c (hcb c j hl)];exact hN⟩,fun c j m hcl hl he=>?_,fun c j m hcl hl o ho=>?_,
  fun j i' hj=>yP (by omega),fun i'=>?_,fun c j _ hb=>(hnf c j hb).1,fun c c' j h1 h2=>h.YO c c' k j (hnf c j h1).1 (hnf c' j h2).1,fun c hcl=>?_⟩
 ·by_cases e:c=b
  ·subst e;exact .inr ⟨by simp [zo,Lab.ofK],.inl (by rw [hb];rfl)⟩
  ·exact .inl (zu e)
 ·have hji:j≠i:=by
   rintro rfl;have:Zp Λ.frf k j n k j=Λ.frf k j:=he;rw [yH] at this;omega
  have hcb:c≠b:=by rintro rfl;rw [hb] at hl;simp at hl;exact hji hl.1.symm
  exact ⟨by simp only [zu hcb];exact hl,g.old c hcb⟩
 ·by_cases e:c=b
  ·subst e;rw [hb] at hl;simp at hl;obtain ⟨_,rfl⟩:=hl
   exact ⟨by simp [Rd,zo];omega,hc o ho⟩
  ·exact ⟨by simp [Rd,zu e,hl,ho],cell?_heap (g.old c e)⟩
 ·by_cases e:i'=i
  ·subst e;show Λ.frf k i'<=Zp Λ.frf k i' n k i';rw [yH];omega
  ·show Λ.frf k i'<=Zp Λ.frf k i n k i';rw [yP (by simp [e])];exact Nat.le_refl _
 ·simp only at hcl⊢;rw [g.size] at hcl
  have:c≠b:=by intro e;rw [e] at hcl;rw [h.new _ hcl] at hb;simp at hb
  rw [zu this];exact h.new c hcl
theorem Zq.same {Λ:L} {k:Nat} {s:S} (h:Z4 Λ s):Zq Λ Λ k:=
 ⟨rfl,rfl,rfl,Nat.le_refl _,rfl,rfl,fun _=> .inl rfl,fun _ _ _=>rfl,fun _ _ hl=>⟨hl,fun _ h=>h⟩,fun _ _ _ _ hl _=>⟨hl,rfl⟩,fun c j m _ hl o ho=>⟨by simp [Rd,hl,ho],rfl⟩,fun _ _ _=>rfl,fun _=>Nat.le_refl _,fun _ _ _ h=>h,fun b b' j h1 h2=>h.YO b b' k j h1 h2,h.new⟩
section
variable {P:Program} {o:Oper} {base:Nat} {st:St}
theorem z10 {f:Nat->Nat->Nat} {k i n:Nat} {ns:List Nat} (h:∀j,f k j=(ns[j]?).getD 0) (hi:i<ns.length):∀j,Zp f k i n k j=((ns.set i n)[j]?).getD 0:=by
 intro j;rw [List.getElem?_set];by_cases e:i=j
 ·subst e;rw [yH,if_pos rfl,if_pos hi];rfl
 ·rw [yP (by omega),if_neg e];exact h j
theorem zeb {sz bytes k i:Nat} {x' y':Ar} {xs ys:List (List T)} {ns:List Nat} (A:z0j P o sz bytes x' y') (hxv:x'.u st= .fow k i sz xs) (hk:zi st.s.sto k=some (.yh ns)) (hi:ns[i]?=some xs.length) (hyv:(y'.u st).zy=some (.lst ys)) (hl:ye sz ys=true)
  (hroom:(xs.length+ys.length)*bytes<=140737488355328) (h63:xs.length+ys.length<=9223372036854775807):
  zR P o base st {v:= .fow k i sz (xs++ys),ob:=[(k,.yh (ns.set i (xs.length+ys.length)))],rd:=true}:=by
 intro C Λ a next Q hC hr hle hfree hnext;have hx1:=hr.opu A.hx;rw [hxv] at hx1;obtain ⟨hkn,hns⟩:=hr.s.sto k _ hk;have hns:∀j,Λ.frf k j=(ns[j]?).getD 0:=hns
 have hfk:Λ.frf k i=xs.length:=by rw [hns i,hi];rfl
 have hil:i<ns.length:=(List.getElem?_eq_some_iff.1 hi).1;have hy1:=(hr.opu A.hy).zy hyv;have hlY:=W3 hl
 have hkj:∀j,zi st.s.sto j=none->j≠k:=by rintro j hn rfl;rw [hk] at hn;cases hn
 unfold Oper.wp;generalize hxe:a.eval A.x=vx at hx1
 cases hx1 with
 |fow hrep hsz _ _ how=>
 by_cases hy0:ys.length=0
 ·have hys:ys=[]:=List.length_eq_zero_iff.1 hy0;subst hys
  have hvx:∃ad n cap,vx= .slice ad n cap/\n<=cap:=by
   rcases how hfk.symm with ⟨⟨ad,rfl⟩,_⟩|⟨b,cap,arr,e',rfl,_,_,_,hnc⟩
   ·exact ⟨_,_,_,rfl,Nat.le_refl _⟩
   ·exact ⟨_,_,_,rfl,hnc⟩
  have hrun:(execOp a.eval o).run P Λ.w= .ok (.value vx) Λ.w:=by
   refine Z0 A.ho Z A.ha A.hat ?_;obtain ⟨ad,n,cap,rfl,hnc⟩:=hvx;rw [hxe];generalize a.eval A.y=u at hy1
   cases hy1 with
   |lst a' cap' _ _ _ _ _ _ _ _ _ _ _=>exact yw A.ht A.hi _ _ _ hnc a' cap' Λ.w
  rw [hrun]
  have e0:ns.set i (xs.length+([]:List (List T)).length)=ns:=by
   apply List.ext_getElem?;intro j;rw [List.getElem?_set];by_cases e:i=j
   ·subst e;rw [if_pos rfl,if_pos hil,hi];simp
   ·rw [if_neg e]
  rw [e0] at hnext;have F:=Zq.same (k:=k) hr.s;refine hnext _ Λ (Kp.refl Λ) Z (F.Q7 (o:= .yh ns) hr.s hkn hns) (by simpa using zn.fow hrep hsz hkn (by omega) how) (fun j hj _ _=>hj)
 ·obtain ⟨yb,yoff,ycap,vs,hv,hcap,hvl,hvc,hvr⟩:=hy1.cells hlY (by omega) A.h0
  have hone:∀u∈vs,u.oneCell'=true:=by
   intro u hu;obtain ⟨j,hj⟩:=List.mem_iff_getElem?.1 hu;have hjl:=(List.getElem?_eq_some_iff.1 hj).1
   have hfl:j<ys.flatten.length:=by rw [ZG ys hlY];omega
   exact (hvr j u ys.flatten[j] hj (by simp)).Wm
  rcases how hfk.symm with ⟨⟨ad,rfl⟩,hx0⟩|⟨b,cap,arr,e',rfl,hlb,hhb,hac,hnc⟩
  ·have hxs:xs=[]:=List.length_eq_zero_iff.1 hx0;subst hxs
   have hrun':(Builtin.append_ #[A.t,A.t] o.type #[.slice ad 0 0,.slice (some ⟨yb,yoff,none⟩) ys.length ycap]).run P Λ.w=
     .ok (.slice (some ⟨Λ.w.heap.size,0,none⟩) ys.length (grownCap Λ.w ys.length 0 A.e)) (Λ.w.drew.alloc (.cells (vs.toArray++Builtin.zeroCells A.z.cells (grownCap Λ.w ys.length 0 A.e - ys.length)) A.e)):=by
    simp only [List.length_nil,Nat.zero_add] at hroom h63
    cases ad with
    |none=>exact run_append_nil (P:=P) Λ.w A.t o.type A.e A.inf A.z A.ht A.hi A.hz ⟨yb,yoff,none⟩ ys.length ycap vs (by rw [A.hs];exact hvl) (fun j u hu=>by rw [ZW];exact (hvc j u hu).1) (by omega) (by omega) (by rw [A.hb];omega)
    |some ad=>
     have:=run_append_grow (P:=P) Λ.w A.t o.type A.e A.inf A.z A.ht A.hi A.hz ad 0 0 [] (by simp) (by simp) ⟨yb,yoff,none⟩ ys.length ycap vs (by rw [A.hs];exact hvl) (fun j u hu=>by rw [ZW];exact (hvc j u hu).1) (by omega) (by omega) (by rw [Nat.zero_add,nextslicecap_zero (by omega),A.hb];omega)
     simpa only [Nat.zero_add,List.append_toArray,List.nil_append] using this
   have hrun:=Z0 (x:=A.x) (y:=A.y) (a:=a) A.ho rfl A.ha A.hat (by rw [hxe,hv];exact hrun');rw [hrun];have hge:=grownCap_ge Λ.w ys.length 0 A.e;have F:=Zq.z9v (i:=i) (n:=([]:List (List T)).length+ys.length) (fr:=ys.length*sz) hr.s (yA.Yv Λ.w (.cells (vs.toArray++Builtin.zeroCells A.z.cells (grownCap Λ.w ys.length 0 A.e - ys.length)) A.e)) (by rw [hfk];simp;omega);have g:=yA.Yv Λ.w (.cells (vs.toArray++Builtin.zeroCells A.z.cells (grownCap Λ.w ys.length 0 A.e - ys.length)) A.e);have k1:=F.kp hr.s;refine hnext _ _ k1 Z (F.Q7 (o:= .yh _) hr.s hkn (z10 hns hil)) (.fow ?_ (by simpa using hlY) hkn (by simp [Zp]) (fun _=> .inr ⟨Λ.w.heap.size,_,_,_,rfl,by simp [zZ],g.top,?_,by simpa using hge⟩)) (fun j hj hn _=>F.free hj (hkj j hn))
   ·rw [List.nil_append]
    refine yM (sz:=sz) (vs:=vs) g.top hge Z hlY (fun o ho=>by simp [Rd,zZ];exact ho) (fun j v hj=>?_) hvl (fun j v x h1 h2=>(hvr j v x h1 h2).mono k1.fr)
    rw [Array.getElem?_append_left (by have:=(List.getElem?_eq_some_iff.1 hj).1;simpa using this)];simpa using hj
   ·simp only [Array.size_append,List.size_toArray,size_zeroCells,A.hzs,hvl];rw [←Nat.add_mul];congr 1;omega
  ·
   have hold:∃us:List Value,us.length=xs.length*sz/\(∀(j:Nat) (u:Value),us[j]?=some u->arr[j]?=some u)/\∀(j:Nat) (u:Value) (x:T),us[j]?=some u->xs.flatten[j]?=some x->zO Λ.lab Λ.w u x:=by
    by_cases hx0:xs.length=0
    ·exact ⟨[],by simp [hx0],by simp,by simp⟩
    ·obtain ⟨b',off',cap',us,e1,e2,e3,e4,e5⟩:=hrep.cells hsz (by omega) A.h0;simp at e1;obtain ⟨⟨rfl,rfl⟩,rfl⟩:=e1;refine ⟨us,e3,fun j u hu=>?_,e5⟩;have:=(e4 j u hu).1;rw [cell_of_row Λ.w b _ arr e' _ hhb] at this;simpa using this
   obtain ⟨us,hul,huc,hur⟩:=hold
   have hflat:(xs++ys).flatten=xs.flatten++ys.flatten:=by simp
   have hboth:∀(j:Nat) (u:Value) (x:T),(us++vs)[j]?=some u->(xs++ys).flatten[j]?=some x->zO Λ.lab Λ.w u x:=by
    intro j u x h1 h2;rw [hflat] at h2;have hxl:=ZG xs hsz;by_cases hj:j<us.length
    ·rw [List.getElem?_append_left hj] at h1;rw [List.getElem?_append_left (by omega)] at h2;exact hur j u x h1 h2
    ·rw [List.getElem?_append_right (by omega)] at h1;rw [List.getElem?_append_right (by omega)] at h2;rw [hxl,←hul] at h2;exact hvr _ u x h1 h2
   by_cases hrm:xs.length+ys.length<=cap
   ·have hfit:xs.length*A.inf.size+vs.length<=arr.size:=by
     rw [A.hs,hvl,hac,←Nat.add_mul];exact Nat.mul_le_mul_right _ hrm
    have hrun':=Yx (P:=P) (ty:=o.type) Λ.w A.ht A.hi b xs.length cap arr hhb ⟨yb,yoff,none⟩ ys.length ycap vs (by rw [A.hs];exact hvl) (fun j u hu=>by rw [ZW];exact (hvc j u hu).1) hone hrm hfit
    have hrun:=Z0 (x:=A.x) (y:=A.y) (a:=a) A.ho rfl A.ha A.hat (by rw [hxe,hv];exact hrun');rw [hrun];rw [A.hs] at hfit⊢
    have harrL:∀j,j<xs.length*sz->(arr.toList.take (xs.length*sz)++vs++arr.toList.drop (xs.length*sz+vs.length)).toArray[j]?=arr[j]?:=by
     intro j hj
     have:(arr.toList.take (xs.length*sz)).length=xs.length*sz:=by simp;omega
     simp only [List.getElem?_toArray];rw [List.append_assoc,List.getElem?_append_left (by omega),List.getElem?_take,if_pos hj];simp
    have hsz2:(arr.toList.take (xs.length*sz)++vs++arr.toList.drop (xs.length*sz+vs.length)).toArray.size=cap*sz:=by simp;omega
    have hget2:∀(j:Nat) (v:Value),(us++vs)[j]?=some v->(arr.toList.take (xs.length*sz)++vs++arr.toList.drop (xs.length*sz+vs.length)).toArray[j]?=some v:=by
     intro j v hj;by_cases hjl:j<us.length
     ·rw [List.getElem?_append_left hjl] at hj;rw [harrL j (by omega)];exact huc j v hj
     ·rw [List.getElem?_append_right (by omega)] at hj
      have:(arr.toList.take (xs.length*sz)).length=xs.length*sz:=by simp;omega
      simp only [List.getElem?_toArray];have hjv:=(List.getElem?_eq_some_iff.1 hj).1;rw [List.append_assoc,List.getElem?_append_right (by omega),List.getElem?_append_left (by omega),this,←hul];exact hj
    generalize (arr.toList.take (xs.length*sz)++vs++arr.toList.drop (xs.length*sz+vs.length)).toArray=A2 at*
    have F:=Zq.zct (n:=xs.length+ys.length) (fr':=(xs.length+ys.length)*sz) hr.s (Yp.setRow Λ.w b A2) hlb (Nat.mul_le_mul_right _ (by omega)) (fun o ho=>by
     rw [cell_setRow_same _ _ _ _ _ _ _ hhb,cell_of_row Λ.w b o arr e' _ hhb];exact harrL o ho) (by omega)
    have k1:=F.kp hr.s;refine hnext (.slice (some ⟨b,0,none⟩) (xs.length+ys.length) cap) _ k1 Z (F.Q7 (o:= .yh _) hr.s hkn (z10 hns hil)) (.fow ?_ (ZN hsz hlY) hkn (by simp [Zp]) (fun _=> .inr ⟨b,cap,A2,e',by simp,by simp [zZ],setRow_heap _ _ _ _ _ _ hhb,hsz2,by simpa using hrm⟩)) (fun j hj hn _=>F.free hj (hkj j hn))
    exact yM (sz:=sz) (vs:=us++vs) (setRow_heap _ _ _ _ _ _ hhb) hrm (by simp) (ZN hsz hlY) (fun o ho=>by simp [Rd,zZ] at ho⊢;exact ho) hget2 (by simp [hul,hvl,Nat.add_mul]) (fun j v x h1 h2=>(hboth j v x h1 h2).mono k1.fr)
   ·have hrun':=run_append_grow (P:=P) Λ.w A.t o.type A.e A.inf A.z A.ht A.hi A.hz ⟨b,0,none⟩ xs.length cap us (by rw [A.hs];exact hul)
     (fun j u hu=>by rw [ZW,cell_of_row Λ.w b _ arr e' _ hhb,Nat.zero_add];exact huc j u hu) ⟨yb,yoff,none⟩ ys.length ycap vs (by rw [A.hs];exact hvl) (fun j u hu=>by rw [ZW];exact (hvc j u hu).1) (by omega) (by omega)
     (by rw [A.hb];exact growslice_fits (by omega) hroom)
    have hrun:=Z0 (x:=A.x) (y:=A.y) (a:=a) A.ho rfl A.ha A.hat (by rw [hxe,hv];exact hrun');rw [hrun];have g:=yA.Yv Λ.w (.cells (us.toArray++vs.toArray++Builtin.zeroCells A.z.cells (grownCap Λ.w (xs.length+ys.length) cap A.e - (xs.length+ys.length))) A.e);have F:=Zq.z9v (k:=k) (i:=i) (n:=xs.length+ys.length) (fr:=(xs.length+ys.length)*sz) hr.s g (by omega);have k1:=F.kp hr.s;have hge:=grownCap_ge Λ.w (xs.length+ys.length) cap A.e;refine hnext (.slice (some ⟨Λ.w.heap.size,0,none⟩) (xs.length+ys.length) (grownCap Λ.w (xs.length+ys.length) cap A.e)) _ k1 Z (F.Q7 (o:= .yh _) hr.s hkn (z10 hns hil)) (.fow ?_ (ZN hsz hlY) hkn (by simp [Zp]) (fun _=> .inr ⟨Λ.w.heap.size,grownCap Λ.w (xs.length+ys.length) cap A.e,_,A.e,by simp,by simp [zZ],g.top,?_,by simpa using hge⟩)) (fun j hj hn _=>F.free hj (hkj j hn))
    ·refine yM (sz:=sz) (vs:=us++vs) g.top hge (by simp) (ZN hsz hlY) (fun o ho=>by simp [Rd,zZ] at ho⊢;exact ho) (fun j v hj=>?_) (by simp [hul,hvl,Nat.add_mul]) (fun j v x h1 h2=>(hboth j v x h1 h2).mono k1.fr)
     have hjl:=(List.getElem?_eq_some_iff.1 hj).1;rw [Array.getElem?_append_left (by simpa using hjl)]
     have:(us.toArray++vs.toArray)[j]?=(us++vs)[j]?:=by simp
     rw [this];exact hj
    ·simp only [Array.size_append,List.size_toArray,size_zeroCells,A.hzs,hvl,hul];rw [←Nat.add_mul,←Nat.add_mul];congr 1;omega
end
section
variable {P:Program} {o:Oper} {base:Nat} {st:St}
theorem z5l {C:Ctx} {Λ:L} {ac:Act} (h:Rel C Λ st ac) (sz:Nat):∀(parts:List (Nat×Operand)) (ps:List (Nat×Ar)) (arr:Array Value) (cs xs:List V),
  slotsOf parts=some ps->Yb Λ arr cs->Ya st sz cs ps=some xs->
  ∃arr',Instr.fill (fun i=>some (i*sz,sz)) arr (parts.map fun (i,x)=>(i,ac.eval x))=some arr'/\Yb Λ arr' xs
 |[],ps,arr,cs,xs,hps,hr,hf=>by
  simp [slotsOf] at hps;subst hps;simp [Ya] at hf;subst hf;exact ⟨arr,rfl,hr⟩
 |(i,x)::parts,ps,arr,cs,xs,hps,hr,hf=>by
  simp only [slotsOf] at hps;split at hps
  ·rename_i a l h1 h2;simp at hps;subst hps;simp only [Ya] at hf;split at hf
   ·rename_i c hc;split at hf
    ·rename_i hcond;have hrc:=(h.opu h1).parts hc;have hfold:=Yb.foldl (i*sz) (ac.eval x).cells.toList c 0 arr cs (by simpa using hrc.1) (fun j a b e1 e2=>hrc.2 j a b (by simpa using e1) e2) hr;rw [Nat.add_zero] at hfold;obtain ⟨arr',e1,e2⟩:=z5l h sz parts l _ _ xs h2 hfold hf;refine ⟨arr',?_,e2⟩
     have hsz:(ac.eval x).cells.size=sz:=by rw [hrc.1];exact hcond.1
     have hsz2:arr.size=cs.length:=hr.1;simp only [List.map_cons,Instr.fill,hsz]
     have:¬ (i*sz+sz>arr.size):=by omega
     simp only [ne_eq,not_true_eq_false,decide_false,this,Bool.or_self,Bool.false_eq_true,if_false];rw [←e1];congr 1;rw [←Array.foldl_toList,Array.toList_zipIdx]
    ·simp at hf
   ·simp at hf
  ·simp at hps
theorem zcz {sz:Nat} {zs:List (List T)} {ps:List (Nat×Ar)} {cs:List V} (B:z1S P o sz zs ps) (hx:Ya st sz (zs.flatten.map V.t) ps=some cs):zR P o base st {v:= .slc base 0 zs.length sz,ob:=[(base,.cells cs)],n:=1}:=by
 intro C Λ a next Q hC hr hle hfree hnext;obtain ⟨i,zval,hi,hz1,hlen,hok⟩:=y4 B.hzv
 have hsz:i.size=sz:=by have:=B.hs;unfold Zs at this;rw [hi] at this;simpa using this
 have hrc:=z2n (yc (Λ:=Λ) hok) B.hz
 have hzl:zval.cells.size=sz:=by rw [(yc (Λ:=Λ) hok).1,hlen];exact hsz
 have hmade:=qt hrc B.n
 have hfl:(List.replicate B.n (B.z.map V.t)).flatten=(zs.flatten.map V.t):=by have e:=B.hzs;generalize B.n=n at*;generalize B.z=z at*;subst e;simp
 rw [hfl] at hmade;obtain ⟨arr,e1,e2⟩:=z5l hr sz _ _ _ _ _ B.hps hmade hx
 have hn:zs.length=B.n:=by have e:=congrArg List.length B.hzs;simpa using e
 have hrun:=WI (o:=o) (a:=a) (w:=Λ.w) B.ho B.ht hi hz1 (by rw [hzl,hsz]) (by rw [hsz];exact B.hle) (by rw [hsz];exact e1);unfold Oper.wp;rw [hrun];obtain ⟨hb1,hb2,hb3⟩:=hfree base (Nat.le_refl _) (by simp);have g:=yA.alloc Λ.w (.cells arr B.e);have hkp:=Kp.new g hr.s.new (.obj base)
 obtain ⟨k1,k2,k3⟩:=qC hr.s g hb1 hb2 rfl (ao:= .cells cs) ⟨Λ.w.heap.size,_,_,by simp [zo],g.top,e2.1,fun j v c q1 q2=>(e2.2 j v c q1 q2).mono hkp⟩
 rw [←hn];exact hnext _ _ k1 Z k2 (.slc hb1 (Nat.le_refl _) (by simp [zo])) (fun k hk _ hlt=>k3 k hk (by simp at hlt;omega))
theorem z7Y {f:Nat->Nat->Nat} {k n:Nat} {ns:List Nat} (h:∀j,f k j=(ns[j]?).getD 0):∀j,Zp f k ns.length n k j=((ns++[n])[j]?).getD 0:=by
 intro j;by_cases e:ns.length=j
 ·subst e;rw [yH];simp
 ·rw [yP (by omega),h j];by_cases hj:j<ns.length
  ·rw [List.getElem?_append_left hj]
  ·rw [List.getElem?_eq_none (by omega),List.getElem?_eq_none (by simp;omega)]
theorem zed {sz k:Nat} {zs xs:List (List T)} {ps:List (Nat×Ar)} {ns:List Nat} (B:z1S P o sz zs ps) (hx:ZB st sz zs ps=some xs) (hk:zi st.s.sto k=some (.yh ns)) (h0:0<xs.length):
  zR P o base st {v:= .fow k ns.length sz xs,ob:=[(k,.yh (ns++[xs.length]))],rd:=true}:=by
 intro C Λ a next Q hC hr hle hfree hnext;obtain ⟨arr,h1,h2,h3⟩:=z0S B hr hx;obtain ⟨hkn,hns⟩:=hr.s.sto k _ hk;have hns:∀j,Λ.frf k j=(ns[j]?).getD 0:=hns
 have hfk:Λ.frf k ns.length=0:=by rw [hns];simp
 have hkj:∀j,zi st.s.sto j=none->j≠k:=by rintro j hn rfl;rw [hk] at hn;cases hn
 unfold Oper.wp;rw [h1];have g:=yA.alloc Λ.w (.cells arr B.e);have F:=Zq.z9v (k:=k) (i:=ns.length) (n:=xs.length) (fr:=xs.length*sz) hr.s g (by omega);have k1:=F.kp hr.s
 have hal:arr.size=xs.length*sz:=by rw [h2.1,List.length_map,ZG xs h3]
 refine hnext _ _ k1 Z (F.Q7 (o:= .yh _) hr.s hkn (z7Y hns)) (.fow ?_ h3 hkn (by simp [Zp]) (fun _=> .inr ⟨Λ.w.heap.size,xs.length,arr,B.e,rfl,by simp [zZ],g.top,hal,Nat.le_refl _⟩)) (fun j hj hn _=>F.free hj (hkj j hn))
 refine yM (sz:=sz) (vs:=arr.toList) g.top (Nat.le_refl _) Z h3 (fun o ho=>by simp [Rd,zZ];exact ho) (fun j v hj=>by simpa using hj) (by rw [Array.length_toList,hal]) fun j v x e1 e2=>?_
 exact (h2.2 j v (.t x) (by simpa using e1) (by simp only [List.getElem?_map,e2];rfl)).Zv.mono k1.fr
theorem zcX {ty e:TypeId} {x:Operand} {args:Array Operand} {ats:Array TypeId} {x':Ar} {sz:Nat} {z:List V} {k ver off len w:Nat} {cs:List V} (hop:o.op= .call {callee:= .builtin .clear,args:=args,argTypes:=ats}) (ha:args.toList=[x]) (hat:ats[0]?=some ty)
  (hu:P.underlying ty=some (.slice e)) (hs:Zs P e=some sz) (hz:ZK P e=some z) (hzc:z.all V.ZJ=true) (hx:opA x=some x') (hxv:x'.u st= .gsl k ver off len sz) (hk:zi st.s.sto k=some (.gro w cs)) (hw:ver=w) (hle:off+len*sz<=cs.length):
  zR P o base st {v:= .top,ob:=[(k,.gro w (setAt cs off (List.replicate len z).flatten))],rd:=true}:=by
 intro C Λ a next Q hC hr hle' hfree hnext;have hx1:=hr.opu hx;rw [hxv] at hx1;obtain ⟨hkn,hwv,hcur0⟩:=hr.s.sto k _ hk
 have hargs:args.map a.eval=#[a.eval x]:=by apply Array.ext';simp [ha]
 obtain ⟨i,zval,hi,hz1,hlen,hok⟩:=y4 hz
 have hsz:i.size=sz:=by have:=hs;unfold Zs at this;rw [hi] at this;simpa using this
 have hrc:=yc (Λ:=Λ) hok
 have hzl:zval.cells.size=sz:=by rw [hrc.1,hlen];exact hsz
 have hkj:∀j,zi st.s.sto j=none->j≠k:=by rintro j hn rfl;rw [hk] at hn;cases hn
 unfold Oper.wp;generalize hxe:a.eval x=vx at hx1
 cases hx1 with
 |gsl _ _ _ hb=>
 have hE:(a.eval x=vx):=hxe;by_cases hl0:len=0
 ·subst hl0
  have hsl:∃ad c,vx= .slice ad 0 c:=by
   rcases hb (hw.trans hwv.symm) with ⟨⟨ad,rfl⟩,_⟩|⟨b,cap,N,rfl,_⟩
   ·exact ⟨_,_,rfl⟩
   ·exact ⟨_,_,rfl⟩
  obtain ⟨ad,c,rfl⟩:=hsl
  have hrun:(execOp a.eval o).run P Λ.w= .ok (.value (.tuple #[])) Λ.w:=by
   simp only [execOp,hop,resolve,Sem.run_bind,Sem.run_pure,Result.andThen_ok,invoke,builtin,hargs,hxe]
   cases ad<;>simp [Builtin.clear_,hat,run_underlying hu]
  rw [hrun]
  have e0:setAt cs off (List.replicate 0 z).flatten=cs:=by simp [setAt]
  rw [e0] at hnext;exact hnext _ Λ (Kp.refl Λ) Z ((Zq.same (k:=k) hr.s).Q7 (o:= .gro w cs) hr.s hkn ⟨hwv,hcur0⟩) .top (fun j hj _ _=>hj)
 ·rcases hb (hw.trans hwv.symm) with ⟨⟨ad,rfl⟩,h0⟩|⟨b,cap,N,rfl,hcap,hcur,hN,hN'⟩
  ·exact absurd h0 hl0
  ·obtain ⟨arr,e',hhb,hac,hold⟩:=hr.s.QM hk hcur
   obtain ⟨n,rfl⟩:∃n,len=n+1:=⟨len - 1,by omega⟩
   have hmade:=qt hrc (n+1)
   have hvl:(List.replicate (n+1) z).flatten.length=(n+1)*sz:=by
    have:=ZG (sz:=sz) (List.replicate (n+1) z) (fun i c hc=>by
     have:=zMG hc;rw [List.mem_replicate] at this
     rw [this.2];omega)
    simpa using this
   have hone:∀u∈(Builtin.zeroCells zval.cells (n+1)).toList,u.oneCell'=true:=by
    intro u hu;obtain ⟨j,hj⟩:=List.mem_iff_getElem?.1 hu
    have hj':(Builtin.zeroCells zval.cells (n+1))[j]?=some u:=by simpa using hj
    have hlt:j<(List.replicate (n+1) z).flatten.length:=by rw [←hmade.1];exact (Array.getElem?_eq_some_iff.1 hj').1
    refine (hmade.2 j u _ hj' (List.getElem?_eq_getElem hlt)).Wm ?_;have hm:=List.getElem_mem hlt;simp only [List.mem_flatten,List.mem_replicate] at hm;obtain ⟨l,⟨_,rfl⟩,hm⟩:=hm;rw [List.all_eq_true] at hzc;exact hzc _ hm
   have hul:(Builtin.zeroCells zval.cells (n+1)).toList.length=(List.replicate (n+1) z).flatten.length:=by rw [←hmade.1];simp [Builtin.zeroCells]
   have hst:=run_storeCells_at P b off e' (Builtin.zeroCells zval.cells (n+1)).toList 0 arr Λ.w hhb (by simp;rw [←Array.length_toList,hul,hvl];omega) hone;simp only [Nat.add_zero] at hst
   have hrun:(execOp a.eval o).run P Λ.w= .ok (.value (.tuple #[])) (Λ.w.setRow b (arr.toList.take off++(Builtin.zeroCells zval.cells (n+1)).toList++arr.toList.drop (off+(Builtin.zeroCells zval.cells (n+1)).toList.length)).toArray):=by
    simp only [execOp,hop,resolve,Sem.run_bind,Sem.run_pure,Result.andThen_ok,invoke,builtin,hargs,hxe];simp [Builtin.clear_,hat,run_underlying hu,zeroValue,typeInfo,hi,hz1];simp at hst;simp [hst]
   rw [hrun];obtain ⟨i',hb',hb2⟩:=hcur;have hrow:=z3J (Λ:=Λ) (arr:=arr) (cs:=cs) (vs:=(List.replicate (n+1) z).flatten) (us:=(Builtin.zeroCells zval.cells (n+1)).toList) (off:=off) hul (by rw [hvl];exact hle) hac hold (fun j v c q1 q2=>hmade.2 j v c (by rw [Array.getElem?_toList] at q1;exact q1) q2)
   have hA:(arr.toList.take off++(Builtin.zeroCells zval.cells (n+1)).toList++arr.toList.drop (off+(Builtin.zeroCells zval.cells (n+1)).toList.length)).toArray.size=arr.size:=by
    simp only [List.size_toArray,List.length_append,List.length_take,List.length_drop,hul,hvl,Array.length_toList];omega
   generalize (arr.toList.take off++(Builtin.zeroCells zval.cells (n+1)).toList++arr.toList.drop (off+(Builtin.zeroCells zval.cells (n+1)).toList.length)).toArray=A at hrow hA⊢;have F:=Zq.write hr.s (Yp.setRow Λ.w b A) hb' (Ym hhb hA);have hkp:=F.kp hr.s;exact hnext _ _ hkp Z (F.Q7 hr.s hkn ⟨hwv,.inr ⟨b,A,e',⟨i',hb',hb2⟩,setRow_heap _ _ _ _ _ _ hhb,by rw [Yd,hA];exact hac,fun j v c q1 q2=>(hrow j v c q1 q2).mono hkp⟩⟩) .top (fun j hj hn _=>F.free hj (hkj j hn))
end
end Go.GB
