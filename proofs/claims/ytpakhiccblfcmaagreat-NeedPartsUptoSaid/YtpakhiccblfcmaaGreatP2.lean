/-
  YtpakhiccblfcmaaGreatP2: lemmas of this proof (part 2). No conditions.
-/
import Derived.Test.YtpakhiccblfcmaaGreatP1
import Derived.LoopN
import Derived.Scope
set_option linter.all false
set_option maxRecDepth 100000
set_option maxHeartbeats 16000000
namespace Go.GB
section
variable {P:Program} {ops:Array Oper} {o:Oper} {base:Nat} {st:St}
theorem zbs:∀(xs:List Operand) (ys:List Ar),xs.mapM opA=some ys->xs.length=ys.length/\∀(j:Nat) (x:Operand) (y:Ar),xs[j]?=some x->ys[j]?=some y->opA x=some y:=by
 intro xs
 induction xs with
 |nil=>intro c h;simp at h;subst h;simp
 |cons d cs ih=>
  intro c h;simp only [List.mapM_cons,Option.bind_eq_bind,Option.pure_def,Option.bind_eq_some_iff] at h;obtain ⟨y,hy,c',hc',h⟩:=h;simp at h;subst h;obtain ⟨i1,i2⟩:=ih c' hc'
  refine ⟨by simp [i1],fun j e z h1 h2=>?_⟩
  cases j with
  |zero=>simp at h1 h2;subst h1;subst h2;exact hy
  |succ j=>exact i2 j e z (by simpa using h1) (by simpa using h2)
theorem z41:∀(xs:List Ar) (j:Nat),(yw st xs)[j]?=(xs[j]?).map (Ar.u st)
 |[],j=>by simp [yw]
 |x::r,0=>by simp [yw]
 |x::r,j+1=>by simp [yw,z41 r j]
theorem z0U:∀(xs:List Ar),(yw st xs).length=xs.length
 |[]=>rfl
 |x::r=>by simp [yw,z0U r]
theorem z3T:∀(xs:List (Nat×Nat)) (j:Nat),(qp xs)[j]?=(xs[j]?).map fun c=>V.ptr c.1 c.2
 |[],j=>by simp [qp]
 |x::r,0=>by simp [qp]
 |x::r,j+1=>by simp [qp,z3T r j]
theorem z3Z:∀(xs:List (Nat×Nat)),(qp xs).length=xs.length
 |[]=>rfl
 |x::r=>by simp [qp,z3Z r]
theorem z38 {C:Ctx} {Λ:L} {a:Act} (hr:Rel C Λ st a) {args:Array Operand} {args':List Ar} (h:args.toList.mapM opA=some args'):
  (args.map a.eval).size=(yw st args').length/\∀(j:Nat) (v:Value) (x:V),(args.map a.eval)[j]?=some v->(yw st args')[j]?=some x->zu Λ v x:=by
 obtain ⟨h1,h2⟩:=zbs _ _ h
 refine ⟨by simp [z0U];simpa using h1,fun j v x hv hx=>?_⟩
 rw [z41,Option.map_eq_some_iff] at hx;obtain ⟨y,hy,rfl⟩:=hx;rw [Array.getElem?_map,Option.map_eq_some_iff] at hv;obtain ⟨z,hz,rfl⟩:=hv;exact hr.opu (h2 j z y (by simpa using hz) hy)
theorem z5A {f:FuncId} {vs:List V} {out:Out} (hf:YS P f vs base st.s.sto out)
  (hrun:∀(C:Ctx) (Λ:L) (a:Act),Rel C Λ st a->∃args:Array Value,(execOp a.eval o).run P Λ.w= .ok (.enter f args) Λ.w/\args.size=vs.length/\∀(j:Nat) (v:Value) (x:V),args[j]?=some v->vs[j]?=some x->zu Λ v x):
  Z0 P o base st out:=by
 intro C Λ a next Q hC hr hle hfree hnext;obtain ⟨args,h1,h2,h3⟩:=hrun C Λ a hr;unfold Oper.wp;rw [h1];refine (hf.2.2 Λ args ⟨hr.s.sto,hr.s.inj,hr.s.new,hr.s.bnd,hr.s.frz,hr.s.w9,hr.s.wh,hr.s.z1A⟩ hle hfree h2 h3).mono fun e w' h=>?_;obtain ⟨v,Λ',rfl,rfl,k1,k2,k3,k4,k5⟩:=h;exact hnext v Λ' k1 k2 ⟨k3.sto,k3.inj,k3.new,k3.bnd,k3.frz,k3.w9,k3.wh,k3.z1A⟩ k4 k5
theorem zaT {f:FuncId} {args:Array Operand} {ats:Array TypeId} {args':List Ar} {out:Out} (ho:o.op= .call {callee:= .value (.func f),args:=args,argTypes:=ats}) (ha:args.toList.mapM opA=some args')
  (hf:YS P f (yw st args') base st.s.sto out):Z0 P o base st out:=by
 refine z5A hf fun C Λ a hr=>?_;obtain ⟨h1,h2⟩:=z38 hr ha;refine ⟨args.map a.eval,?_,h1,h2⟩;have hb:=hf.1 (args.map a.eval) Λ.w;simp only [execOp,ho,resolve,Act.eval,Deferred.ofValue,Sem.run_bind,Sem.run_pure,Result.andThen_ok,invoke];simpa using hb
theorem zd6 {f:FuncId} {t:Nat} {args:Array Operand} {ats:Array TypeId} {args':List Ar} {caps:List (Nat×Nat)} {out:Out} (ho:o.op= .call {callee:= .value (.tmp t),args:=args,argTypes:=ats}) (ha:args.toList.mapM opA=some args')
  (hv:(look st.env t).ug= .fn f caps) (hf:YS P f (yw st args'++qp caps) base st.s.sto out):Z0 P o base st out:=by
 refine z5A hf fun C Λ a hr=>?_;obtain ⟨h1,h2⟩:=z38 hr ha;have ht:=(hr.env t).ug;rw [hv] at ht;generalize he:a.tmps.getD t undef=u at ht
 cases ht with
 |@fn _ vs _ hs hc=>
  refine ⟨args.map a.eval++vs,?_,by simp [z0U,z3Z] at h1⊢;omega,fun j v x hj hx=>?_⟩
  ·have hb:=hf.1 (args.map a.eval++vs) Λ.w;have he':a.eval (.tmp t)= .func (.func f) #[] vs:=he;simp only [execOp,ho,resolve,he',Deferred.ofValue,Sem.run_bind,Sem.run_pure,Result.andThen_ok,invoke];simpa using hb
  ·by_cases hjl:j<(args.map a.eval).size
   ·rw [Array.getElem?_append_left hjl] at hj;rw [List.getElem?_append_left (by omega)] at hx;exact h2 j v x hj hx
   ·rw [Array.getElem?_append_right (by omega)] at hj;rw [List.getElem?_append_right (by omega),z3T,Option.map_eq_some_iff] at hx;obtain ⟨c,hc1,rfl⟩:=hx;rw [←h1] at hc1;obtain ⟨b,e1,e2,e3⟩:=hc _ v c hj hc1;subst e1;exact .ptr e3 e2
theorem zcq {f:FuncId} {t:Nat} {args:Array Operand} {ats:Array TypeId} {args':List Ar} {out:Out} (ho:o.op= .call {callee:= .value (.tmp t),args:=args,argTypes:=ats}) (ha:args.toList.mapM opA=some args')
  (hv:(look st.env t).ug= .t (.fn f)) (hf:YS P f (yw st args') base st.s.sto out):Z0 P o base st out:=by
 refine z5A hf fun C Λ a hr=>?_;obtain ⟨h1,h2⟩:=z38 hr ha;have ht:=(hr.env t).ug;rw [hv] at ht
 have he:a.tmps.getD t undef= .func (.func f) #[] #[]:=by
  have:=ht.ZQ;generalize a.tmps.getD t undef=u at this;cases this;rfl
 refine ⟨args.map a.eval,?_,h1,h2⟩;have hb:=hf.1 (args.map a.eval) Λ.w;have he':a.eval (.tmp t)= .func (.func f) #[] #[]:=he;simp only [execOp,ho,resolve,he',Deferred.ofValue,Sem.run_bind,Sem.run_pure,Result.andThen_ok,invoke];simpa using hb
theorem wP:∀{ps:List Bool},Z7 ps->∀q∈ps,q=true
 |[],_,q,h=>by simp at h
 |p::r,h,q,hq=>by
  simp only [Z7] at h
  cases List.mem_cons.1 hq with
  |inl e=>subst e;exact h.1
  |inr e=>exact wP h.2 q e
theorem zc5 {K:Out->Prop} {aop:AOp} (h:evX P base st K aop):∃out,evX P base st (· =out) aop/\K out:=by
 unfold evX at h;split at h
 ·split at h
  ·split at h
   ·split at h
    ·rename_i h1 _ _ h2 _ _ h3;refine ⟨_,?_,h.2⟩;simp only [evX,h1,h2,h3];exact ⟨h.1,by simp⟩
    ·exact h.elim
   ·exact h.elim
  ·exact h.elim
 ·split at h
  ·rename_i h1;refine ⟨_,?_,h.2⟩;simp only [evX,h1];exact ⟨h.1,by simp⟩
  ·exact h.elim
 ·exact ⟨_,by simp only [evX],h⟩
 ·split at h
  ·rename_i ow _ _ _ _ xs h1;cases ow
   ·refine ⟨_,?_,h.2⟩;simp only [evX,h1];exact ⟨h.1,by simp⟩
   ·obtain ⟨h2,h|h⟩:=h
    ·cases xs with
     |nil=>refine ⟨_,?_,h⟩;simp only [evX,h1];exact ⟨h2,by simp⟩
     |cons y ys=>refine ⟨_,?_,h⟩;simp only [evX,h1];exact ⟨h2,.inl (by simp)⟩
    ·refine ⟨_,?_,h⟩;simp only [evX,h1];exact ⟨h2,.inr (by trivial)⟩
  ·exact h.elim
 ·split at h
  ·split at h
   ·rename_i h1 _ h2;refine ⟨_,?_,h.2.2.2⟩;simp only [evX,h1,h2];exact ⟨h.1,h.2.1,h.2.2.1,by simp⟩
   ·split at h
    ·rename_i h1 _ _ _ _ h2 _ _ h3;refine ⟨_,?_,h.2.2.2.2.2⟩;simp only [evX,h1,h2,h3];exact ⟨h.1,h.2.1,h.2.2.1,h.2.2.2.1,h.2.2.2.2.1,by simp⟩
    ·exact h.elim
   ·exact h.elim
  ·exact h.elim
 ·split at h
  ·rename_i h1;refine ⟨_,?_,h.2⟩;simp only [evX,h1];exact ⟨h.1,by simp⟩
  ·exact h.elim
 ·obtain ⟨out,h1,h2⟩:=h;exact ⟨out,⟨out,h1,rfl⟩,h2⟩
 ·split at h
  ·rename_i h1;obtain ⟨out,h2,h3⟩:=h;refine ⟨out,?_,h3⟩;simp only [evX,h1];exact ⟨out,h2,rfl⟩
  ·rename_i h1;obtain ⟨out,h2,h3⟩:=h;refine ⟨out,?_,h3⟩;simp only [evX,h1];exact ⟨out,h2,rfl⟩
  ·exact h.elim
 ·exact ⟨_,by simp only [evX],h⟩
 ·split at h
  ·rename_i h1;split at h
   ·rename_i h2;exact ⟨_,by simp only [evX,h1,h2],h⟩
   ·exact h.elim
  ·exact h.elim
 ·split at h
  ·rename_i h1;exact ⟨_,by simp only [evX,h1],h⟩
  ·rename_i h1;split at h
   ·rename_i h2;exact ⟨_,by simp only [evX,h1,h2],h⟩
   ·exact h.elim
  ·exact h.elim
 ·rename_i op;simp only [evX];unfold yf at h;split at h
  ·split at h
   ·rename_i h1 h2;split at h
    ·rename_i h3;exact ⟨_,by simp only [yf,h1,h2,h3];exact ⟨h.1,by simp⟩,h.2⟩
    ·exact h.elim
   ·exact h.elim
  ·split at h
   ·rename_i h1 h2;split at h
    ·rename_i h3;exact ⟨_,by simp only [yf,h1,h2,h3];exact ⟨h.1,by simp⟩,h.2⟩
    ·exact h.elim
   ·exact h.elim
  ·split at h
   ·rename_i h1;split at h
    ·rename_i h3;exact ⟨_,by simp only [yf,h1,h3],h⟩
    ·exact h.elim
   ·exact h.elim
  ·split at h
   ·rename_i h1 h2;split at h
    ·rename_i h3;split at h
     ·rename_i h4;split at h
      ·rename_i h5 h6;exact ⟨_,by simp only [yf,h1,h2,h3,h4,h5,h6];exact ⟨h.1,by simp⟩,h.2⟩
      ·exact h.elim
     ·rename_i h4;exact ⟨_,by simp only [yf,h1,h2,h3,h4];exact ⟨h.1,by simp⟩,h.2⟩
    ·exact h.elim
   ·exact h.elim
  ·split at h
   ·rename_i h1 h2;split at h
    ·rename_i h3;split at h
     ·rename_i h4;exact ⟨_,by simp only [yf,h1,h2,h3,h4],h⟩
     ·exact h.elim
    ·exact h.elim
   ·exact h.elim
  ·exact h.elim
 ·exact h.elim
theorem z7O {n:Nat} {x v:Ar} (h:y5 P ops o=some (.st n x v)):∃t a b,o.op= .store t a b/\ZE P t=some n/\opA a=some x/\opA b=some v:=by
 unfold y5 at h
 (repeat' split at h)<;>simp [Option.bind_eq_some_iff] at h
 all_goals try (obtain ⟨_,_,_,_,h⟩:=h;split at h<;>simp [Option.bind_eq_some_iff] at h;done)
 rename_i t a b hop;obtain ⟨n',hn,a',ha,b',hb,rfl,rfl,rfl⟩:=h;exact ⟨t,a,b,hop,hn,ha,hb⟩
theorem z8u {n:Nat} {x:Ar} (h:y5 P ops o=some (.box n x)):∃t a,o.op= .box t a/\opA a=some x:=by
 unfold y5 at h
 (repeat' split at h)<;>simp [Option.bind_eq_some_iff] at h
 all_goals try (obtain ⟨_,_,_,_,h⟩:=h;split at h<;>simp [Option.bind_eq_some_iff] at h;done)
 rename_i t a hop;obtain ⟨hn,ha⟩:=h;exact ⟨t,a,hop,ha⟩
theorem z3O {zs:List V} (h:y5 P ops o=some (.alloc zs)):∃t,o.op= .alloc t/\ZV P t=some zs:=by
 unfold y5 at h
 (repeat' split at h)<;>simp [Option.bind_eq_some_iff] at h
 all_goals try (obtain ⟨_,_,_,_,h⟩:=h;split at h<;>simp [Option.bind_eq_some_iff] at h;done)
 rename_i t hop;exact ⟨t,hop,h⟩
theorem z4L {ow:Bool} {sz:Nat} {zs:List (List T)} {ps:List (Nat×Ar)} (h:y5 P ops o=some (.bsl ow sz zs ps)):Nonempty (z2i P o sz zs ps):=by
 unfold y5 at h
 (repeat' split at h)<;>simp [Option.bind_eq_some_iff] at h
 all_goals try (obtain ⟨_,_,_,_,h⟩:=h;split at h<;>simp [Option.bind_eq_some_iff] at h;done)
 rename_i t n parts hop _ e ht;obtain ⟨sz',hs,zv,hzv,z,hz,hle,ps',hps,_,rfl,rfl,rfl⟩:=h;exact ⟨⟨t,e,n,parts,zv,z,hop,ht,hs,hzv,hz,hle,rfl,hps⟩⟩
theorem z1M {sz bytes:Nat} {x y:Ar} (h:y5 P ops o=some (.app sz bytes x y)):Nonempty (z1m P o sz bytes x y):=by
 unfold y5 at h
 (repeat' split at h)<;>simp [Option.bind_eq_some_iff] at h
 all_goals try (obtain ⟨_,_,_,_,h⟩:=h;split at h<;>simp [Option.bind_eq_some_iff] at h;done)
 rename_i args ats hop _ _ x' y' t u ha hat htu _ e ht;obtain ⟨inf,hi,z,hz,hc,a',hx,b',hy,rfl,rfl,rfl,rfl⟩:=h;subst htu
 exact ⟨⟨x',y',args,ats,t,e,inf,z,hop,ha,hat,ht,hi,hz,rfl,rfl,by omega,by omega,hx,hy⟩⟩
theorem zbW {sz bytes:Nat} {z:List V} {n:Ar} (h:y5 P ops o=some (.z3k sz bytes z n)):∃t e l i,o.op= .makeSlice t (.tmp l) (.tmp l)/\P.underlying t=some (.slice e)/\P.info? e=some i/\ZV P e=some z/\i.size=sz/\i.bytes=bytes/\n= .s l:=by
 unfold y5 at h
 (repeat' split at h)<;>simp [Option.bind_eq_some_iff] at h
 all_goals try (obtain ⟨_,_,_,_,h⟩:=h;split at h<;>simp [Option.bind_eq_some_iff] at h;done)
 rename_i t l c hop _ e ht hlc;obtain ⟨inf,hi,z',hz,rfl,rfl,rfl,rfl⟩:=h;subst hlc;exact ⟨t,e,l,inf,hop,ht,hi,hz,rfl,rfl,rfl⟩
theorem z6l {f:FuncId} {args':List Ar} (h:y5 P ops o=some (.call f args')):∃args ats,o.op= .call {callee:= .value (.func f),args:=args,argTypes:=ats}/\args.toList.mapM opA=some args':=by
 unfold y5 at h
 (repeat' split at h)<;>simp [Option.bind_eq_some_iff] at h
 all_goals try (obtain ⟨_,_,_,_,h⟩:=h;split at h<;>simp [Option.bind_eq_some_iff] at h;done)
 obtain ⟨ha,rfl⟩:=h
 exact ⟨_,_,by assumption,ha⟩
theorem z9F {x:Ar} {args':List Ar} (h:y5 P ops o=some (.z18 x args')):∃t args ats,o.op= .call {callee:= .value (.tmp t),args:=args,argTypes:=ats}/\args.toList.mapM opA=some args'/\x= .s t:=by
 unfold y5 at h
 (repeat' split at h)<;>simp [Option.bind_eq_some_iff] at h
 all_goals try (obtain ⟨_,_,_,_,h⟩:=h;split at h<;>simp [Option.bind_eq_some_iff] at h;done)
 rename_i t args ats hop
 rcases h with ⟨h1,h2⟩
 first |exact ⟨t,args,ats,hop,h1,h2.symm⟩|exact ⟨t,args,ats,hop,h2,h1.symm⟩
theorem z84 {f:FuncId} {vs:List V} {sto:List (Nat×z6)} {out:Out} (h:QP P f vs base sto (· =out)):YS P f vs base sto out:=by
 obtain ⟨out',h1,rfl⟩:=h;split at h1
 ·exact h1 sto fun _ _=>rfl
 ·exact h1 sto
theorem z0u {f:FuncId} {vs:List V} {sto:List (Nat×z6)} {out:Out} (h:qi P f vs base sto (· =out)):YS P f vs base sto out:=by
 obtain ⟨out',h1,rfl⟩:=h;split at h1
 ·exact h1
 ·exact h1 sto
theorem z9m {kag vag:Bool} (h:y5 P ops o=some (.z2p kag vag)):∃t,o.op= .makeMap t none:=by
 unfold y5 at h
 (repeat' split at h)<;>simp [Option.bind_eq_some_iff] at h
 all_goals try (obtain ⟨_,_,_,_,h⟩:=h;split at h<;>simp [Option.bind_eq_some_iff] at h;done)
 exact ⟨_,by assumption⟩
theorem z6R {x:Ar} (h:y5 P ops o=some (.qu x)):∃t kt et a,o.op= .range t a/\P.underlying t=some (.map kt et)/\opA a=some x:=by
 unfold y5 at h
 (repeat' split at h)<;>simp [Option.bind_eq_some_iff] at h
 all_goals try (obtain ⟨_,_,_,_,h⟩:=h;split at h<;>simp [Option.bind_eq_some_iff] at h;done)
 exact ⟨_,_,_,_,by assumption,by assumption,h⟩
theorem zcy {x:Ar} (h:y5 P ops o=some (.z7t x)):∃args ats t kt et a,o.op= .call {callee:= .builtin .len,args:=args,argTypes:=ats}/\args[0]?=some a/\ats[0]?=some t/\P.underlying t=some (.map kt et)/\opA a=some x:=by
 unfold y5 at h
 (repeat' split at h)<;>simp [Option.bind_eq_some_iff] at h
 all_goals try (obtain ⟨_,_,_,_,h⟩:=h;split at h<;>simp [Option.bind_eq_some_iff] at h;done)
 exact ⟨_,_,_,_,_,_,by assumption,by assumption,by assumption,by assumption,h⟩
theorem z6j {gc:Bool} {nop:NOp} {v:V} {ps:List Bool} (hres:z6H P o=some nop) (he:Zr gc st nop=some (v,ps)) (hp:∀q∈ps,q):zG P o gc st v:=by
 unfold z6H at hres;split at hres
 ·rename_i t x k ok hop;split at hres
  ·rename_i kt et hu;simp only [Option.bind_eq_bind,Option.bind_eq_some_iff,Option.some.injEq] at hres;obtain ⟨⟨ks,kag⟩,h1,zv,h2,x',h3,k',h4,rfl⟩:=hres;exact zbL hop hu h1 h2 h3 h4 he hp
  ·cases hres
 ·split at hres
  ·simp only [Option.bind_eq_bind,Option.bind_eq_some_iff,Option.some.injEq] at hres;obtain ⟨⟨ks,kag⟩,h1,x',h3,k',h4,v',h5,rfl⟩:=hres;simp [Zr] at he
  ·cases hres
 ·split at hres
  ·simp only [Option.bind_eq_bind,Option.bind_eq_some_iff,Option.some.injEq] at hres;obtain ⟨⟨ks,kag⟩,h1,zv,h2,x',h3,k',h4,rfl⟩:=hres;simp [Zr] at he
  ·cases hres
 ·simp only [Option.bind_eq_bind,Option.bind_eq_some_iff,Option.some.injEq] at hres;obtain ⟨_,_,_,_,_,_,rfl⟩:=hres;simp [Zr] at he
 ·rename_i op t x y ty hop;split at hres
  ·rename_i e hu;split at hres
   ·simp only [Option.bind_eq_bind,Option.bind_eq_some_iff,Option.some.injEq] at hres;obtain ⟨x',h3,rfl⟩:=hres;exact zcc (neg:=false) (by simpa using hop) Z hu h3 he hp
   ·simp only [Option.bind_eq_bind,Option.bind_eq_some_iff,Option.some.injEq] at hres;obtain ⟨x',h3,rfl⟩:=hres;exact zcc (neg:=true) (by simpa using hop) Z hu h3 he hp
   ·cases hres
  ·rename_i fs hu
   have kt:∀{ks:List KSh} {b:Bool},YI P t=some (ks,b)->b=true:=by
    intro ks b h;unfold YI at h;rw [hu] at h;simp only at h;split at h
    ·simp only [Option.map_eq_some_iff,Prod.mk.injEq] at h;obtain ⟨_,_,_,h⟩:=h;exact h.symm
    ·cases h
   split at hres
   ·rename_i ks b hk;simp only [Option.bind_eq_bind,Option.bind_eq_some_iff,Option.some.injEq] at hres;obtain ⟨x',h3,y',h4,rfl⟩:=hres;rw [kt hk] at hk;exact zbx (neg:=false) (by simpa using hop) hk h3 h4 he hp
   ·rename_i ks b hk;simp only [Option.bind_eq_bind,Option.bind_eq_some_iff,Option.some.injEq] at hres;obtain ⟨x',h3,y',h4,rfl⟩:=hres;rw [kt hk] at hk;exact zbx (neg:=true) (by simpa using hop) hk h3 h4 he hp
   ·cases hres
  ·cases hres
 ·split at hres
  ·split at hres
   ·simp only [Option.bind_eq_bind,Option.bind_eq_some_iff,Option.some.injEq] at hres;obtain ⟨⟨ks,kag⟩,h1,x',h3,k',h4,rfl⟩:=hres;simp [Zr] at he
   ·cases hres
  ·cases hres
 ·split at hres
  ·split at hres
   ·simp only [Option.bind_eq_bind,Option.bind_eq_some_iff,Option.some.injEq] at hres;obtain ⟨x',h3,rfl⟩:=hres;simp [Zr] at he
   ·split at hres
    ·split at hres
     ·simp only [Option.some.injEq] at hres;subst hres;simp [Zr] at he
     ·cases hres
    ·cases hres
   ·cases hres
  ·cases hres
 ·simp only [Option.bind_eq_bind,Option.bind_eq_some_iff,Option.some.injEq] at hres;obtain ⟨x',h3,rfl⟩:=hres;simp [Zr] at he
 ·rename_i x hop;simp only [Option.bind_eq_bind,Option.bind_eq_some_iff,Option.some.injEq] at hres;obtain ⟨x',h3,rfl⟩:=hres;exact zeu hop h3 he hp
 ·rename_i f args ats hop;split at hres
  ·rename_i cnt x y hf ha;simp only [Option.bind_eq_bind,Option.bind_eq_some_iff,Option.some.injEq] at hres;obtain ⟨x',h3,y',h4,rfl⟩:=hres;exact zfG hop ha hf h3 h4 he hp
  ·rename_i x y hf ha;simp only [Option.bind_eq_bind,Option.bind_eq_some_iff,Option.some.injEq] at hres;obtain ⟨x',h3,y',h4,rfl⟩:=hres;exact zft hop ha hf h3 h4 he hp
  ·cases hres
 ·rename_i src dst x hop;split at hres
  ·rename_i e hs hd;split at hres
   ·rename_i hu;simp only [Option.bind_eq_bind,Option.bind_eq_some_iff,Option.some.injEq] at hres;obtain ⟨x',h3,rfl⟩:=hres;exact zf2 hop hs hd hu h3 he hp
   ·simp only [Option.some.injEq] at hres;subst hres;simp [Zr] at he
  ·simp only [Option.some.injEq] at hres;subst hres;simp [Zr] at he
 ·simp only [Option.some.injEq] at hres;subst hres;simp [Zr] at he
theorem z7s {nop:NOp} {out:Out} (hres:z6H P o=some nop) (h:yf st (· =out) nop):Z0 P o base st out:=by
 unfold z6H at hres;split at hres
 ·split at hres
  ·simp only [Option.bind_eq_bind,Option.bind_eq_some_iff,Option.some.injEq] at hres;obtain ⟨⟨ks,kag⟩,h1,zv,h2,x',h3,k',h4,rfl⟩:=hres;simp [yf] at h
  ·cases hres
 ·rename_i t x k v hop;split at hres
  ·rename_i kt et hu;simp only [Option.bind_eq_bind,Option.bind_eq_some_iff,Option.some.injEq] at hres;obtain ⟨⟨ks,kag⟩,h1,x',h3,k',h4,v',h5,rfl⟩:=hres;simp only [yf] at h;split at h
   ·rename_i q cs hx hk;split at h
    ·rename_i kag' es sx hes;obtain ⟨⟨rfl,h6⟩,rfl⟩:=h;exact zev hop hu h1 h3 h4 h5 hx hk hes h6
    ·exact h.elim
   ·exact h.elim
  ·cases hres
 ·rename_i t x k hop;split at hres
  ·rename_i kt et hu;simp only [Option.bind_eq_bind,Option.bind_eq_some_iff,Option.some.injEq] at hres;obtain ⟨⟨ks,kag⟩,h1,zv,h2,x',h3,k',h4,rfl⟩:=hres;simp only [yf] at h;split at h
   ·rename_i q cs hx hk;split at h
    ·rename_i kag' es c bs hes;split at h
     ·rename_i i hm;split at h
      ·rename_i e b he hb;obtain ⟨⟨rfl,h6⟩,rfl⟩:=h;exact (zbO hop hu h1 h2 h3 h4 hx hk hes h6).1 i e b hm he hb
      ·exact h.elim
     ·rename_i hm;obtain ⟨⟨rfl,h6⟩,rfl⟩:=h;exact (zbO hop hu h1 h2 h3 h4 hx hk hes h6).2 hm
    ·exact h.elim
   ·exact h.elim
  ·cases hres
 ·rename_i t x s v hop;simp only [Option.bind_eq_bind,Option.bind_eq_some_iff,Option.some.injEq] at hres;obtain ⟨x',h3,s',h4,v',h5,rfl⟩:=hres;simp only [yf] at h;split at h
  ·rename_i q kd z hx hs;split at h
   ·rename_i kag es c bs hes;split at h
    ·rename_i i hi;subst h;exact zeD hop h3 h4 h5 hx hs hes hi
    ·exact h.elim
   ·exact h.elim
  ·exact h.elim
 ·split at hres
  ·split at hres
   ·simp only [Option.bind_eq_bind,Option.bind_eq_some_iff,Option.some.injEq] at hres;obtain ⟨x',h3,rfl⟩:=hres;simp [yf] at h
   ·simp only [Option.bind_eq_bind,Option.bind_eq_some_iff,Option.some.injEq] at hres;obtain ⟨x',h3,rfl⟩:=hres;simp [yf] at h
   ·cases hres
  ·split at hres
   ·simp only [Option.bind_eq_bind,Option.bind_eq_some_iff,Option.some.injEq] at hres;obtain ⟨x',h3,y',h4,rfl⟩:=hres;simp [yf] at h
   ·simp only [Option.bind_eq_bind,Option.bind_eq_some_iff,Option.some.injEq] at hres;obtain ⟨x',h3,y',h4,rfl⟩:=hres;simp [yf] at h
   ·cases hres
  ·cases hres
 ·rename_i args ats hop;split at hres
  ·rename_i x k ty ha hat;split at hres
   ·rename_i kt et hu;simp only [Option.bind_eq_bind,Option.bind_eq_some_iff,Option.some.injEq] at hres;obtain ⟨⟨ks,kag⟩,h1,x',h3,k',h4,rfl⟩:=hres;simp only [yf] at h;split at h
    ·rename_i q cs hx hk;split at h
     ·rename_i kag' es sx hes;obtain ⟨⟨rfl,h6⟩,rfl⟩:=h;exact zee hop ha hat hu h1 h3 h4 hx hk hes h6
     ·exact h.elim
    ·exact h.elim
   ·cases hres
  ·cases hres
 ·rename_i args ats hop;split at hres
  ·rename_i x ty ha hat;split at hres
   ·rename_i kt et hu;simp only [Option.bind_eq_bind,Option.bind_eq_some_iff,Option.some.injEq] at hres;obtain ⟨x',h3,rfl⟩:=hres;simp only [yf] at h;split at h
    ·rename_i q hx;split at h
     ·rename_i kag es sx hes;subst h;exact zei hop ha hat hu h3 hx hes
     ·exact h.elim
    ·exact h.elim
   ·split at hres
    ·split at hres
     ·simp only [Option.some.injEq] at hres;subst hres;simp [yf] at h
     ·cases hres
    ·cases hres
   ·cases hres
  ·cases hres
 ·simp only [Option.bind_eq_bind,Option.bind_eq_some_iff,Option.some.injEq] at hres;obtain ⟨x',h3,rfl⟩:=hres;simp [yf] at h
 ·simp only [Option.bind_eq_bind,Option.bind_eq_some_iff,Option.some.injEq] at hres;obtain ⟨x',h3,rfl⟩:=hres;simp [yf] at h
 ·split at hres
  ·simp only [Option.bind_eq_bind,Option.bind_eq_some_iff,Option.some.injEq] at hres;obtain ⟨x',h3,y',h4,rfl⟩:=hres;simp [yf] at h
  ·simp only [Option.bind_eq_bind,Option.bind_eq_some_iff,Option.some.injEq] at hres;obtain ⟨x',h3,y',h4,rfl⟩:=hres;simp [yf] at h
  ·cases hres
 ·split at hres
  ·split at hres
   ·simp only [Option.bind_eq_bind,Option.bind_eq_some_iff,Option.some.injEq] at hres;obtain ⟨x',h3,rfl⟩:=hres;simp [yf] at h
   ·simp only [Option.some.injEq] at hres;subst hres;simp [yf] at h
  ·simp only [Option.some.injEq] at hres;subst hres;simp [yf] at h
 ·simp only [Option.some.injEq] at hres;subst hres;simp [yf] at h
theorem zak {aop:AOp} {out:Out} (hres:y5 P ops o=some aop) (h:evX P base st (· =out) aop):Z0 P o base st out:=by
 unfold evX at h;split at h
 ·obtain ⟨t,a,b,hop,hn,ha,hb⟩:=z7O hres;split at h
  ·rename_i k off hx;split at h
   ·rename_i cs hk;split at h
    ·rename_i vs hvs;obtain ⟨⟨h1,h2⟩,rfl⟩:=h;exact zdA hop hn ha hb hx hk hvs (zDT h1) h2
    ·exact h.elim
   ·exact h.elim
  ·exact h.elim
 ·obtain ⟨t,a,hop,ha⟩:=z8u hres;split at h
  ·rename_i vs hvs;obtain ⟨_,rfl⟩:=h;exact zga (n:=0) hop ha hvs
  ·exact h.elim
 ·obtain ⟨t,hop,hz⟩:=z3O hres;subst h;exact zdd hop hz
 ·obtain ⟨B⟩:=z4L hres;split at h
  ·rename_i hx;obtain ⟨_,h⟩:=h;split at h
   ·rcases h with h|h
    ·split at h
     ·next he=>subst h;exact za2 B hx (by simpa using he)
     ·subst h;exact z9y B hx
    ·subst h;exact zdW B hx
   ·subst h;exact zdW B hx
  ·exact h.elim
 ·obtain ⟨A⟩:=z1M hres;split at h
  ·rename_i ys hy;split at h
   ·rename_i hx;obtain ⟨h1,h2,h3,rfl⟩:=h;exact z9e A hx hy h1 h2 h3
   ·rename_i k s xs hx;split at h
    ·rename_i n hk;obtain ⟨rfl,rfl,h1,h2,h3,rfl⟩:=h;exact z9f A hx hk hy h1 h2 h3
    ·exact h.elim
   ·exact h.elim
  ·exact h.elim
 ·obtain ⟨t,e,l,i,hop,ht,hi,hz,rfl,rfl,rfl⟩:=zbW hres;split at h
  ·rename_i m hm;obtain ⟨⟨h1,h2,h3,h4⟩,rfl⟩:=h;exact zf5 hop ht hi hz hm h1 h2 h3
  ·exact h.elim
 ·obtain ⟨args,ats,hop,ha⟩:=z6l hres;exact zaT hop ha (z84 h)
 ·obtain ⟨t,args,ats,hop,ha,rfl⟩:=z9F hres;split at h
  ·rename_i f hv;exact zcq hop ha hv (z0u h)
  ·rename_i f caps hv;exact zd6 hop ha hv (z0u h)
  ·exact h.elim
 ·obtain ⟨t,hop⟩:=z9m hres;subst h;exact zdq hop
 ·obtain ⟨t,kt,et,a,hop,hu,hx⟩:=z6R hres;split at h
  ·rename_i q hv;split at h
   ·rename_i kag es c bs hes;subst h;exact zbT hop hu hx hv hes
   ·exact h.elim
  ·exact h.elim
 ·obtain ⟨args,ats,t,kt,et,a,hop,ha,hat,hu,hx⟩:=zcy hres;split at h
  ·rename_i hv;subst h;exact zct (n:=0) hop ha hat hu hx (.inl ⟨hv,rfl⟩)
  ·rename_i q hv;split at h
   ·rename_i kag es sx hes;subst h;exact zct hop ha hat hu hx (.inr ⟨q,kag,es,sx,hv,hes,rfl⟩)
   ·exact h.elim
  ·exact h.elim
 ·exfalso;unfold y5 at hres
  (repeat' split at hres)<;>simp [Option.bind_eq_some_iff] at hres
  all_goals try (obtain ⟨_,_,_,_,hres⟩:=hres;split at hres<;>simp [Option.bind_eq_some_iff] at hres;done)
 ·exact h.elim
theorem wE {aop:AOp} (h:Ww P ops o=some aop):y5 P ops o=some aop∨∃nop,aop= .nw nop/\z6H P o=some nop:=by
 unfold Ww at h;split at h
 ·rename_i x hx;simp at h;subst h;exact .inl hx
 ·simp only [Option.map_eq_some_iff] at h;obtain ⟨nop,h1,rfl⟩:=h;exact .inr ⟨nop,rfl,h1⟩
theorem yC {aop:AOp} (h:Ww P ops o=some aop) (hn:∀nop,aop≠ .nw nop):y5 P ops o=some aop:=by
 rcases wE h with h'|⟨nop,h0,_⟩
 ·exact h'
 ·exact absurd h0 (hn nop)
theorem zcp {sz:Nat} {z:List V} {x:Ar} (h:Ww P ops o=some (.nw (.zaS sz z x))):∃ty e a args ats,o.op= .call {callee:= .builtin .clear,args:=args,argTypes:=ats}/\args.toList=[a]/\ats[0]?=some ty/\P.underlying ty=some (.slice e)/\
  ZE P e=some sz/\ZV P e=some z/\z.all V.Zm=true/\opA a=some x:=by
 rcases wE h with h'|⟨nop,h0,h'⟩
 ·exfalso;unfold y5 at h'
  (repeat' split at h')<;>simp [Option.bind_eq_some_iff] at h'
  all_goals try (obtain ⟨_,_,_,_,h'⟩:=h';split at h'<;>simp [Option.bind_eq_some_iff] at h';done)
 ·injection h0 with h0
  subst h0;unfold z6H at h'
  (repeat' split at h')<;>simp [Option.bind_eq_some_iff] at h'
  obtain ⟨rfl,rfl,rfl⟩:=h'
  exact ⟨_,_,_,_,_,by assumption,by assumption,by assumption,by assumption,by assumption,by assumption,by assumption,by assumption⟩
theorem z9J {aop:AOp} {out:Out} (hres:Ww P ops o=some aop) (h:q9 st base aop out):Z0 P o base st out:=by
 cases h with
 |stG hx hk hw hv hn ho hc=>
  obtain ⟨t,a,b,hop,hs,ha,hb⟩:=z7O (yC hres (by simp));exact zfM hop hs ha hb hx hk hw hv hn ho hc
 |stF hx hk hi hv hn ho hc=>
  obtain ⟨t,a,b,hop,hs,ha,hb⟩:=z7O (yC hres (by simp));exact zfI hop hs ha hb hx hk hi hv hn ho hc
 |zb6 hk hv hn hc=>
  obtain ⟨t,a,hop,ha⟩:=z8u (yC hres (by simp));exact zeq hop ha hv hk
 |z52 hk=>
  obtain ⟨t,hop,hz⟩:=z3O (yC hres (by simp));exact zbt hop hz hk
 |zba hx hy hk hi hl h1 h2=>
  obtain ⟨A⟩:=z1M (yC hres (by simp));exact zer A hx hk hi hy hl h1 h2
 |zbR hx hy hc h1 h2=>
  obtain ⟨A⟩:=z1M (yC hres (by simp));exact zf7 A hx hy h1 h2
 |z9r hx hk hw hl hy hc h1 h2=>
  obtain ⟨A⟩:=z1M (yC hres (by simp));exact zeV A hx hk hw hl hy hc h1 h2
 |z9D h=>
  obtain ⟨B⟩:=z4L (yC hres (by simp));exact zf6 B h
 |zb2 h hk h0=>
  obtain ⟨B⟩:=z4L (yC hres (by simp));exact zeH B h hk h0
 |z7j hx hk hw ho=>
  obtain ⟨ty,e,a,args,ats,hop,ha,hat,hu,hs,hz,hzc,hx'⟩:=zcp hres;exact zfe hop ha hat hu hs hz hzc hx' hx hk hw ho
theorem z0M {gc:Bool} {aop:AOp} {v:V} {ps:List Bool} (hres:Ww P ops o=some aop) (he:zh gc st aop=some (v,ps)) (hp:∀q∈ps,q):zG P o gc st v:=by
 rcases wE hres with h|⟨nop,rfl,h⟩
 ·exact z5S h he hp
 ·exact z6j h he hp
theorem z8s {aop:AOp} {out:Out} (hres:Ww P ops o=some aop) (h:evX P base st (· =out) aop∨evY base st (· =out) aop):Z0 P o base st out:=by
 rcases h with h|⟨out',h,rfl⟩
 ·rcases wE hres with h'|⟨nop,rfl,h'⟩
  ·exact zak h' h
  ·exact z7s h' h
 ·exact z9J hres h
theorem z3A {K:Out->Prop} {aop:AOp} (h:evX P base st K aop∨evY base st K aop):∃out,(evX P base st (· =out) aop∨evY base st (· =out) aop)/\K out:=by
 rcases h with h|⟨out,h1,h2⟩
 ·obtain ⟨out,h1,h2⟩:=zc5 h;exact ⟨out,.inl h1,h2⟩
 ·exact ⟨out,.inr ⟨out,h1,rfl⟩,h2⟩
theorem z5z {f:FuncId} {args':List Ar} (h:Ww P ops o=some (.call f args')):∃args ats,o.op= .call {callee:= .value (.func f),args:=args,argTypes:=ats}/\args.toList.mapM opA=some args':=by
 rcases wE h with h'|⟨nop,h0,h'⟩
 ·exact z6l h'
 ·cases h0
theorem z7a {gc:Bool} {K:Out->Prop} {aop:AOp} (h:qo P gc base st K aop):∃out,qo P gc base st (· =out) aop/\K out:=by
 unfold qo at h⊢;split at h
 ·obtain ⟨out,h1,h2,h3⟩:=h;exact ⟨_,⟨out,h1,h2,rfl⟩,h3⟩
 ·exact h.elim
theorem zbY {ao:AO} {K:Out->Prop} (h:evO P base st ao K):∃out,evO P base st ao (· =out)/\K out:=by
 unfold evO at h;split at h
 ·rename_i hg;unfold evU at h;split at h
  ·rename_i v ps he;refine ⟨_,?_,h.2⟩
   simp only [evO,hg,evU,he];exact ⟨h.1,by simp⟩
  ·rename_i he;obtain ⟨out,h1,h2⟩:=z3A h;refine ⟨out,?_,h2⟩;simp only [evO,hg,evU,he];exact h1
 ·rename_i s want hg;split at h
  ·exact h.elim
  ·rename_i gc hc;split at h
   ·rename_i v ps he;refine ⟨_,?_,h.2⟩
    simp only [evO,hg,hc,he];exact ⟨h.1,by simp⟩
   ·rename_i he
    rcases h with h|h
    ·obtain ⟨out,h1,h2⟩:=z7a h;refine ⟨out,?_,h2⟩;simp only [evO,hg,hc,he];exact Or.inl h1
    cases gc with
    |true=>
     obtain ⟨out,h1,h2⟩:=z3A (h.1 rfl);refine ⟨out,?_,h2⟩
     simp only [evO,hg,hc,he];exact Or.inr ⟨fun _=>h1,by simp⟩
    |false=>
     refine ⟨_,?_,h.2 Z⟩
     simp only [evO,hg,hc,he];exact Or.inr ⟨by simp,fun _=>by simp⟩
theorem z5k {C:Ctx} {Λ:L} {a:Act} (hr:Rel C Λ st a) {j s:Nat} (hj:(ops[j]?).bind (·.dst)=some s) {want gc:Bool} (hg:z4p want (look st.env s)=some gc) (hlt:s<C.n):
  (yielded ops a.tmps j==some want)=gc:=by
 have hs:=hr.env s
 have hget:a.tmps[s]?=some (a.tmps.getD s undef):=by
  rw [Array.getD_eq_getD_getElem?];rw [Array.getElem?_eq_getElem (by rw [hr.size];exact hlt)];simp
 unfold yielded;rw [hj];simp only [Option.bind_some,hget];generalize a.tmps.getD s undef=u at hs;unfold z4p at hg;split at hg
 ·rename_i b hl;rw [hl] at hs;have:=hs.ZQ.Yf;subst this;simp at hg;subst hg
  cases b<;>cases want<;>rfl
 ·rename_i c b hl;rw [hl] at hs;simp at hg
  cases hs with
  |gd h1 h2=>
   cases c with
   |true=>
    have:=(h1 rfl).ZQ.Yf;subst this;subst hg
    cases b<;>cases want<;>rfl
   |false=>
    have:=h2 rfl;subst this;subst hg
    cases b<;>cases want<;>rfl
 ·rename_i hl;rw [hl] at hs;simp at hg;subst hg
  cases hs with
  |gd h1 h2=>
   have:=h2 rfl;subst this
   cases want<;>rfl
 ·simp at hg
theorem z0X {ao:AO} {out:Out} {i:Nat} (ho:ops[i]?=some o) (hres:z3v P ops o=some ao) (h:evO P base st ao (· =out)) {C:Ctx} {Λ:L} {a:Act} {next:Act->World->Prop} {Q:Exit->Act->World->Prop} (hC:C.P=P) (hr:Rel C Λ st a)
  (hdst:∀(j:Nat) (p:Oper) (d:Nat),ops[j]?=some p->p.dst=some d->d<C.n)
  (hle:base+out.n<=Λ.nxt) (hfree:∀k,base<=k->k<base+out.n->k<Λ.nxt/\y3 Λ k/\zi st.s.sto k=none)
  (hnext:∀v Λ',Kp Λ Λ'->Λ'.nxt=Λ.nxt->Z5 Λ' (st.s.app out)->zu Λ' v out.v->(∀k,y3 Λ k->zi st.s.sto k=none->(base+out.n<=k∨(k<base/\out.rd=false))->y3 Λ' k)->next (a.put o.dst v) Λ'.w):
  ao.dst=o.dst/\wpOp P ops Q i next a Λ.w:=by
 unfold z3v at hres;split at hres
 ·simp at hres
 ·rename_i aop hop;split at hres
  ·rename_i hg;simp at hres;subst hres;refine ⟨rfl,?_⟩
   have hw:Region.wanted o (yielded ops a.tmps)=true:=by simp [Region.wanted,hg]
   simp only [wpOp,ho,hw,if_true];refine .inl ?_;simp only [evO,evU] at h;split at h
   ·rename_i v ps he;obtain ⟨h1,rfl⟩:=h;exact Z0.zfj (z0M hop he (wP h1)) C Λ a next Q hC hr hle hfree hnext
   ·exact z8s hop h C Λ a next Q hC hr hle hfree hnext
  ·rename_i j want hg;split at hres
   ·rename_i s hs;simp at hres;subst hres;refine ⟨rfl,?_⟩;simp only [evO] at h;split at h
    ·exact h.elim
    ·rename_i gc hc
     have hlt:s<C.n:=by
      cases hop':ops[j]? with
      |none=>rw [hop'] at hs;simp at hs
      |some p=>rw [hop'] at hs;exact hdst j p s hop' (by simpa using hs)
     have hy:=z5k hr hs hc hlt
     have hw:Region.wanted o (yielded ops a.tmps)=gc:=by simp only [Region.wanted,hg];exact hy
     simp only [wpOp,ho,hw];split at h
     ·rename_i v ps he;obtain ⟨h1,rfl⟩:=h
      cases gc with
      |true=>
       simp only [if_true];refine .inl ?_
       have hps:∀q∈ps,q=true:=by
        intro q hq;have:=wP h1 (!true||q) (List.mem_map.2 ⟨q,hq,rfl⟩);simpa using this
       refine Z0.zfj (r:=Za st aop) (z0M hop he hps) C Λ a next Q hC hr (by simp at hle⊢;omega) (fun k h1 h2=>by simp at h2;omega) fun v' Λ' a1 a2 a3 a4 a5=>hnext v' Λ' a1 a2 a3 (.gd (fun _=>a4) (by simp)) a5
      |false=>
       simp only [Bool.false_eq_true,if_false];exact hnext undef Λ (Kp.refl _) Z hr.s (.gd (by simp) (fun _=>rfl)) (fun _ h _ _=>h)
     ·rcases h with h|h
      ·unfold qo at h;split at h
       ·rename_i fid args0 _;obtain ⟨out0,k1,⟨k2,k3⟩,rfl⟩:=h;obtain ⟨args,ats,hop',ha⟩:=z5z hop
        cases gc with
        |true=>
         simp only [if_true]
         have hf:YS P fid (yw st args0) base st.s.sto out0:=by
          have:=k1 rfl;split at this
          ·exact this
          ·exact this _
         have hso:Z0 P o base st out0:=zaT hop' ha hf;refine .inl (hso C Λ a next Q hC hr hle hfree fun v' Λ' a1 a2 a3 a4 a5=>hnext v' Λ' a1 a2 a3 (.gd (fun _=>a4) (by simp)) a5)
        |false=>
         simp only [Bool.false_eq_true,if_false];refine hnext undef Λ (Kp.refl _) Z ?_ (.gd (by simp) (fun _=>rfl)) (fun _ h _ _=>h);simp only [S.app,k2,Zq];exact hr.s
       ·exact h.elim
      cases gc with
      |true=>
       simp only [if_true];exact .inl (z8s hop (h.1 Z) C Λ a next Q hC hr hle hfree hnext)
      |false=>
       simp only [Bool.false_eq_true,if_false];have:=h.2 rfl;subst this;exact hnext undef Λ (Kp.refl _) Z hr.s (.gd (by simp) (fun _=>rfl)) (fun _ h _ _=>h)
   ·simp at hres
end
section
variable {P:Program} {ops:Array Oper}
def Ch (P:Program):Nat->St->List AO->List Out->Nat->St->Prop
 |base,st,[],[],b',s'=>b'=base/\s'=st
 |base,st,ao::r,out::os,b',s'=>evO P base st ao (· =out)/\Ch P (base+out.n) (st.app ao.dst out) r os b' s'
 |_,_,_,_,_,_=>False
def flags:List Out->List (Bool×Bool)
 |[]=>[]
 |o::r=>(o.rd,!o.ob.isEmpty||decide (0<o.n))::flags r
theorem z0C:∀{aos:List AO} {base:Nat} {st:St} {fl:List (Bool×Bool)} {K:Nat->St->List (Bool×Bool)->Prop},evR P base st aos fl K->∃outs b' st',Ch P base st aos outs b' st'/\K b' st' (fl++flags outs)
 |[],base,st,fl,K,h=>⟨[],base,st,⟨rfl,rfl⟩,by simpa [flags,evR] using h⟩
 |ao::r,base,st,fl,K,h=>by
  obtain ⟨out,h1,h2⟩:=zbY h;obtain ⟨outs,b',st',h3,h4⟩:=z0C h2
  exact ⟨out::outs,b',st',⟨h1,h3⟩,by simpa [flags] using h4⟩
theorem Ch.le:∀{aos:List AO} {base:Nat} {st:St} {outs:List Out} {b':Nat} {s':St},Ch P base st aos outs b' s'->base<=b'
 |[],_,_,[],_,_,h=>by rw [h.1];exact Nat.le_refl _
 |_::r,_,_,_::os,_,_,h=>by have:=Ch.le h.2;omega
 |[],_,_,_::_,_,_,h=>h.elim
 |_::_,_,_,[],_,_,h=>h.elim
def zab (base:Nat) (st:St) (out:Out):Prop:=∀k o,(k,o)∈out.ob->zi st.s.sto k≠none∨(base<=k/\k<base+out.n)
theorem z7n {base:Nat} {st:St} {op:NOp} {out:Out} (h:yf st (· =out) op):zab base st out:=by
 unfold yf at h;split at h
 ·split at h
  ·split at h
   ·rename_i hk;obtain ⟨_,rfl⟩:=h;intro j ob hj;simp at hj;rw [hj.1,hk];exact .inl (by simp)
   ·exact h.elim
  ·exact h.elim
 ·split at h
  ·split at h
   ·rename_i hk;obtain ⟨_,rfl⟩:=h;intro j ob hj;simp at hj;rw [hj.1,hk];exact .inl (by simp)
   ·exact h.elim
  ·exact h.elim
 ·split at h
  ·split at h
   ·rename_i hk;subst h;intro j ob hj;simp at hj;rw [hj.1,hk];exact .inl (by simp)
   ·exact h.elim
  ·exact h.elim
 ·split at h
  ·split at h
   ·rename_i hk;split at h
    ·split at h
     ·obtain ⟨_,rfl⟩:=h;intro j ob hj;simp at hj;rw [hj.1,hk];exact .inl (by simp)
     ·exact h.elim
    ·obtain ⟨_,rfl⟩:=h;intro j ob hj;simp at hj;rw [hj.1,hk];exact .inl (by simp)
   ·exact h.elim
  ·exact h.elim
 ·split at h
  ·split at h
   ·rename_i hk;split at h
    ·subst h;intro j ob hj;simp at hj;rw [hj.1,hk];exact .inl (by simp)
    ·exact h.elim
   ·exact h.elim
  ·exact h.elim
 ·exact h.elim
theorem zao {base:Nat} {st:St} {aop:AOp} {out:Out} (h:evX P base st (· =out) aop):zab base st out:=by
 unfold evX at h;split at h
 ·split at h
  ·split at h
   ·rename_i hk;split at h
    ·obtain ⟨_,rfl⟩:=h;intro j ob hj;simp at hj;rw [hj.1,hk];exact .inl (by simp)
    ·exact h.elim
   ·exact h.elim
  ·exact h.elim
 ·split at h
  ·obtain ⟨_,rfl⟩:=h;intro j ob hj;simp at hj;exact .inr (by simp;omega)
  ·exact h.elim
 ·subst h;intro j ob hj;simp at hj;exact .inr (by simp;omega)
 ·split at h
  ·obtain ⟨_,h⟩:=h;split at h
   ·rcases h with h|h
    ·split at h
     ·subst h;intro j ob hj;simp at hj
     ·subst h;intro j ob hj;simp at hj;exact .inr (by simp;omega)
    ·subst h;intro j ob hj;simp at hj
   ·subst h;intro j ob hj;simp at hj
  ·exact h.elim
 ·split at h
  ·split at h
   ·obtain ⟨_,_,_,rfl⟩:=h;intro j ob hj;simp at hj;exact .inr (by simp;omega)
   ·split at h
    ·rename_i hk;obtain ⟨_,_,_,_,_,rfl⟩:=h;intro j ob hj;simp at hj;rw [hj.1,hk];exact .inl (by simp)
    ·exact h.elim
   ·exact h.elim
  ·exact h.elim
 ·split at h
  ·obtain ⟨_,rfl⟩:=h;intro j ob hj;simp at hj;exact .inr (by simp;omega)
  ·exact h.elim
 ·exact (z84 h).2.1
 ·split at h
  ·exact (z0u h).2.1
  ·exact (z0u h).2.1
  ·exact h.elim
 ·subst h;intro j ob hj;simp at hj;exact .inr (by simp;omega)
 ·split at h
  ·split at h
   ·subst h;intro j ob hj;simp at hj;exact .inr (by simp;omega)
   ·exact h.elim
  ·exact h.elim
 ·split at h
  ·subst h;intro j ob hj;simp at hj
  ·split at h
   ·subst h;intro j ob hj;simp at hj
   ·exact h.elim
  ·exact h.elim
 ·exact z7n h
 ·exact h.elim
theorem z9g {base:Nat} {st:St} {aop:AOp} {out:Out} (h:q9 st base aop out):zab base st out:=by
 cases h with
 |stG hx hk|stF hx hk|zb6 hk|z52 hk|z9r hx hk|z7j hx hk=>intro j ob hj;simp at hj;rw [hj.1,hk];exact .inl (by simp)
 |zba hx hy hk=>intro j ob hj;simp at hj;rw [hj.1,hk];exact .inl (by simp)
 |zb2 hx hk=>intro j ob hj;simp at hj;rw [hj.1,hk];exact .inl (by simp)
 |zbR|z9D=>intro j ob hj;simp at hj;exact .inr (by simp;omega)
theorem z2J {base:Nat} {st:St} {aop:AOp} {out:Out} (h:evX P base st (· =out) aop∨evY base st (· =out) aop):zab base st out:=by
 rcases h with h|⟨out',h,rfl⟩
 ·exact zao h
 ·exact z9g h
theorem Qb {base:Nat} {st:St} {ao:AO} {out:Out} (h:evO P base st ao (· =out)):zab base st out:=by
 unfold evO at h;split at h
 ·unfold evU at h;split at h
  ·obtain ⟨_,rfl⟩:=h;intro j ob hj;simp at hj
  ·exact z2J h
 ·split at h
  ·exact h.elim
  ·rename_i gc _;split at h
   ·obtain ⟨_,rfl⟩:=h;intro j ob hj;simp at hj
   ·rcases h with h|h
    ·unfold qo at h;split at h
     ·obtain ⟨out0,_,⟨k2,_⟩,rfl⟩:=h;intro j ob hj;simp [k2] at hj
     ·exact h.elim
    cases gc with
    |true=>exact z2J (h.1 rfl)
    |false=>have:=h.2 rfl;subst this;intro j ob hj;simp at hj
theorem WY:∀(ob:List (Nat×z6)) (s:List (Nat×z6)) (k:Nat),zi s k=none->(∀o,(k,o)∉ob)->zi (Zq s ob) k=none
 |[],s,k,h,_=>h
 |(j,o)::r,s,k,h,hn=>by
  refine WY r (Yc s j o) k ?_ (fun o' ho'=>hn o' (List.mem_cons_of_mem _ ho'));rw [Zi]
  have:j≠k:=by rintro rfl;exact hn o (by simp)
  simp [this,h]
theorem z2K {base:Nat} {st:St} {out:Out} (hn:zab base st out) {k:Nat} (hk:zi st.s.sto k=none) (ho:k<base∨base+out.n<=k) (d:Option Nat):zi (st.app d out).s.sto k=none:=by
 refine WY _ _ _ hk fun o h=>?_
 rcases hn k o h with h|h
 ·exact h hk
 ·omega
def z8W (C:Ctx) (ops:Array Oper):Prop:=∀(j:Nat) (p:Oper) (d:Nat),ops[j]?=some p->p.dst=some d->d<C.n
theorem qt:∀{l:List Oper} {aos:List AO},z1a P ops l=some aos->l.length=aos.length/\∀(j:Nat) (o:Oper) (ao:AO),l[j]?=some o->aos[j]?=some ao->z3v P ops o=some ao
 |[],aos,h=>by simp [z1a] at h;subst h;simp
 |o::r,aos,h=>by
  simp only [z1a] at h;split at h
  ·rename_i a l h1 h2;simp at h;subst h;obtain ⟨i1,i2⟩:=qt h2
   refine ⟨by simp [i1],fun j p ao hp ha=>?_⟩
   cases j with
   |zero=>simp at hp ha;subst hp;subst ha;exact h1
   |succ j=>exact i2 j p ao (by simpa using hp) (by simpa using ha)
  ·simp at h
theorem z59 {C:Ctx} (hC:C.P=P) (hd:z8W C ops) {aos:List AO} (hres:z1a P ops ops.toList=some aos) {Q:Exit->Act->World->Prop} {b':Nat} {st':St} (m:Nat):
  ∀(r:List AO) (i:Nat) (base:Nat) (st:St) (outs:List Out) (Λ:L) (a:Act),aos.drop i=r->Ch P base st r outs b' st'->Rel C Λ st a->Λ.nxt=m->b'<=m->
   (∀k,base<=k->k<m->y3 Λ k/\zi st.s.sto k=none)->(∀(a':Act) (Λ':L),Rel C Λ' st' a'->Λ'.nxt=m->Q .normal a' Λ'.w)->wpOps P ops Q (List.range' i r.length) a Λ.w
 |[],i,base,st,outs,Λ,a,_,hch,hr,hm,_,_,hq=>by
  cases outs with
  |nil=>obtain ⟨rfl,rfl⟩:=hch;simp only [List.length_nil,List.range'_zero,wpOps];exact hq a Λ hr hm
  |cons _ _=>exact hch.elim
 |ao::r,i,base,st,outs,Λ,a,hdrop,hch,hr,hm,hb,hf,hq=>by
  cases outs with
  |nil=>exact hch.elim
  |cons out os=>
   obtain ⟨h1,h2⟩:=hch;obtain ⟨hlen,hat⟩:=qt hres
   have hi:i<aos.length:=by
    rcases Nat.lt_or_ge i aos.length with h|h
    ·exact h
    ·rw [List.drop_eq_nil_of_le h] at hdrop;cases hdrop
   have hao:aos[i]?=some ao:=by
    have:=List.getElem?_drop (xs:=aos) (i:=i) (j:=0);rw [hdrop] at this;simpa using this.symm
   have hopi:i<ops.size:=by rw [←Array.length_toList,hlen];exact hi
   have ho:ops[i]?=some ops[i]:=by simp [hopi]
   have hro:=hat i ops[i] ao (by simp) hao;have hle:=Ch.le h2;have hnm:=Qb h1;simp only [List.length_cons,List.range'_succ];rw [wpOps_cons];refine (z0X ho hro h1 hC hr hd (by omega) (fun k k1 k2=>?_) fun v Λ' k1 k2 k3 k4 k5=>?_).2
   ·obtain ⟨f1,f2⟩:=hf k k1 (by omega)
    exact ⟨by omega,f1,f2⟩
   ·have hdst:ao.dst=ops[i].dst:=(z0X (next:=fun _ _=>True) (Q:=Q) ho hro h1 hC hr hd (by omega) (fun k k1 k2=>by
     obtain ⟨f1,f2⟩:=hf k k1 (by omega);exact ⟨by omega,f1,f2⟩) (fun _ _ _ _ _ _ _=>trivial)).1
    have hr':Rel C Λ' (st.app ao.dst out) (a.put ao.dst v):=hr.step k1 (fun x hx=>hd i _ x ho (by rw [←hdst];exact hx)) k4 k3;rw [←hdst];refine z59 hC hd hres m r (i+1) _ _ os Λ' _ (by rw [←List.drop_drop,hdrop];rfl) h2 hr' (by omega) hb (fun k k6 k7=>?_) hq;obtain ⟨f1,f2⟩:=hf k (by omega) k7;exact ⟨k5 k f1 f2 (.inl k6),z2K hnm f2 (.inr k6) _⟩
end
def Ar.z9:Ar->List Nat
 | .s t=>[t]
 | .c _=>[]
def Ar.z2C:Option Ar->List Nat
 |some x=>x.z9
 |none=>[]
def Yd:List Ar->List Nat
 |[]=>[]
 |x::r=>x.z9++Yd r
def wg:List (Nat×Nat×Ar)->List Nat
 |[]=>[]
 |(_,_,x)::r=>x.z9++wg r
def yB:List (Nat×Ar)->List Nat
 |[]=>[]
 |(_,x)::r=>x.z9++yB r
def NOp.z9:NOp->List Nat
 | .lookup _ _ _ _ x k=>x.z9++k.z9
 | .zb3 _ _ x k v=>x.z9++(k.z9++v.z9)
 | .zam _ _ x k=>x.z9++k.z9
 | .zcx _ _ _ x k=>x.z9++k.z9
 | .zaE x s v=>x.z9++(s.z9++v.z9)
 | .zdm x=>x.z9
 | .nxt x=>x.z9
 | .z5V x=>x.z9
 | .xtr _ x y=>x.z9++y.z9
 | .xcm x y=>x.z9++y.z9
 | .bad=>[]
 | .zaS _ _ x=>x.z9
 | .eqn _ x=>x.z9
 | .z9a _ _ x y=>x.z9++y.z9
 | .zau x=>x.z9
def AOp.z9:AOp->List Nat
 | .nw op=>op.z9
 | .cst _=>[]
 | .mv x=>x.z9
 | .pick c a b=>c.z9++(a.z9++b.z9)
 | .un _ x=>x.z9
 | .bin _ x y=>x.z9++y.z9
 | .eqb _ x y=>x.z9++y.z9
 | .eqp _ x=>x.z9
 | .eqm _ x=>x.z9
 | .conv _ x=>x.z9
 | .z8n x=>x.z9
 | .z3G x=>x.z9
 | .fa _ x=>x.z9
 | .ld _ _ x=>x.z9
 | .ia _ x i=>x.z9++i.z9
 | .z9c _ _ x i=>x.z9++i.z9
 | .ixs x i=>x.z9++i.z9
 | .ixa _ _ _ x i=>x.z9++i.z9
 | .len x=>x.z9
 | .lens x=>x.z9
 | .sls x lo hi=>x.z9++(Ar.z2C lo++Ar.z2C hi)
 | .sll _ x lo hi=>x.z9++(Ar.z2C lo++Ar.z2C hi)
 | .fld _ _ _ x=>x.z9
 | .zdT x y=>x.z9++y.z9
 | .zdK x y=>x.z9++y.z9
 | .build _ ps=>wg ps
 | .zcV _ caps=>Yd caps
 | .z7t x=>x.z9
 | .st _ x v=>x.z9++v.z9
 | .box _ x=>x.z9
 | .alloc _=>[]
 | .bsl _ _ _ ps=>yB ps
 | .app _ _ x y=>x.z9++y.z9
 | .ext x _=>x.z9
 | .z2p _ _=>[]
 | .qu x=>x.z9
 | .z3k _ _ _ n=>n.z9
 | .call _ args=>Yd args
 | .z18 x args=>x.z9++Yd args
def AO.reads (ao:AO):List Nat:=(match ao.g with|some (s,_)=>[s]|none=>[])++ao.op.z9
section
variable {P:Program} {st st':St}
theorem yH {x:Ar} (h:∀t∈x.z9,look st.env t=look st'.env t):x.v st=x.v st':=by
 cases x with
 |s t=>exact h t (by simp [Ar.z9])
 |c v=>rfl
theorem Q4 {x:Ar} (h:∀t∈x.z9,look st.env t=look st'.env t):x.u st=x.u st':=by unfold Ar.u;rw [yH h]
theorem ZT {gc:Bool} {x:Ar} (h:∀t∈x.z9,look st.env t=look st'.env t):rd gc st x=rd gc st' x:=by
 unfold rd;rw [yH h]
theorem Q7 {gc:Bool} {x:Option Ar} {d:Int} (h:∀t∈Ar.z2C x,look st.env t=look st'.env t):bnd x gc st d=bnd x gc st' d:=by
 cases x with
 |none=>rfl
 |some x=>simp only [bnd];rw [ZT (st:=st) (st':=st') h]
theorem z1r {gc:Bool}:∀{ps:List (Nat×Nat×Ar)} {cs:List V},(∀t∈wg ps,look st.env t=look st'.env t)->z0p st gc cs ps=z0p st' gc cs ps
 |[],_,_=>rfl
 |(off,n,x)::r,cs,h=>by
  simp only [z0p];rw [ZT (st:=st) (st':=st') (fun t ht=>h t (by simp [wg,ht]))];have ih:=fun cs=>z1r (gc:=gc) (ps:=r) (cs:=cs) (fun t ht=>h t (by simp [wg,ht]));simp only [ih]
theorem z08:∀{xs:List Ar},(∀t∈Yd xs,look st.env t=look st'.env t)->WU st xs=WU st' xs
 |[],_=>rfl
 |x::r,h=>by
  simp only [WU];rw [yH (st:=st) (st':=st') (fun t ht=>h t (by simp [Yd,ht])),z08 (xs:=r) (fun t ht=>h t (by simp [Yd,ht]))]
theorem we:∀{xs:List Ar},(∀t∈Yd xs,look st.env t=look st'.env t)->yw st xs=yw st' xs
 |[],_=>rfl
 |x::r,h=>by
  simp only [yw];rw [Q4 (st:=st) (st':=st') (fun t ht=>h t (by simp [Yd,ht])),we (xs:=r) (fun t ht=>h t (by simp [Yd,ht]))]
theorem wu {sz:Nat}:∀{ps:List (Nat×Ar)} {xs:List (List T)},(∀t∈yB ps,look st.env t=look st'.env t)->Zu st sz xs ps=Zu st' sz xs ps
 |[],_,_=>rfl
 |(i,x)::r,xs,h=>by
  simp only [Zu];rw [Q4 (st:=st) (st':=st') (fun t ht=>h t (by simp [yB,ht]))];have ih:=fun xs=>wu (sz:=sz) (ps:=r) (xs:=xs) (fun t ht=>h t (by simp [yB,ht]));simp only [ih]
theorem WN {op:AOp} (h:∀t∈op.z9,look st.env t=look st'.env t):Za st op=Za st' op:=by
 cases op<;>simp only [Za]
 case ld ag n x=>rw [yH (st:=st) (st':=st') (fun t ht=>h t (by simp [AOp.z9,ht]))]
 case eqp a x=>rw [yH (st:=st) (st':=st') (fun t ht=>h t (by simp [AOp.z9,ht]))]
 case z3G x=>rw [yH (st:=st) (st':=st') (fun t ht=>h t (by simp [AOp.z9,ht]))]
 case fa a x=>rw [yH (st:=st) (st':=st') (fun t ht=>h t (by simp [AOp.z9,ht]))]
 case ia a x i=>rw [yH (st:=st) (st':=st') (fun t ht=>h t (by simp [AOp.z9,ht]))]
 case len x=>rw [yH (st:=st) (st':=st') (fun t ht=>h t (by simp [AOp.z9,ht]))]
 case sll a x lo hi=>rw [yH (st:=st) (st':=st') (fun t ht=>h t (by simp [AOp.z9,ht]))]
 case nw op=>
  cases op<;>simp only
  case lookup a b c d x k=>rw [yH (st:=st) (st':=st') (fun t ht=>h t (by simp [AOp.z9,NOp.z9,ht]))]
  case z5V x=>rw [yH (st:=st) (st':=st') (fun t ht=>h t (by simp [AOp.z9,NOp.z9,ht]))]
def V.ng:V->Bool
 | .gpt _ _ _=>false
 | .gsl _ _ _ _ _=>false
 |_=>true
theorem z4l {gc:Bool} {x:Ar} (h:Y8 (x.v st)=false):(rd gc st x).1.ng=true:=by
 unfold rd;generalize x.v st=y at h⊢
 cases y with
 |gpt _ _ _=>simp [Y8] at h
 |gsl _ _ _ _ _=>simp [Y8] at h
 |gd c y=>
  cases y with
  |gpt _ _ _=>simp [Y8] at h
  |gsl _ _ _ _ _=>simp [Y8] at h
  |_=>rfl
 |_=>rfl
theorem wk {gc:Bool} {op:AOp} (h:∀t∈op.z9,look st.env t=look st'.env t) (hs:Za st op=false∨st.s.sto=st'.s.sto):zh gc st op=zh gc st' op:=by
 have r1:∀(g:Bool) (x:Ar),(∀t∈x.z9,t∈op.z9)->rd g st x=rd g st' x:=fun g x hx=>ZT fun t ht=>h t (hx t ht)
 cases op with
 |cst v=>rfl
 |mv x=>simp only [zh];rw [r1 gc x (fun t ht=>ht)]
 |pick c a b=>simp only [zh];rw [r1 gc c (fun t ht=>by simp [AOp.z9,ht])];simp only [r1 _ a (fun t ht=>by simp [AOp.z9,ht]),r1 _ b (fun t ht=>by simp [AOp.z9,ht])]
 |un op x=>cases op<;>simp only [zh]<;>rw [r1 gc x (fun t ht=>ht)]
 |bin op x y=>simp only [zh];rw [r1 gc x (fun t ht=>by simp [AOp.z9,ht]),r1 gc y (fun t ht=>by simp [AOp.z9,ht])]
 |eqb op x y=>simp only [zh];rw [r1 gc x (fun t ht=>by simp [AOp.z9,ht]),r1 gc y (fun t ht=>by simp [AOp.z9,ht])]
 |eqp op x=>
  have hx:=r1 gc x (fun t ht=>by simp [AOp.z9,ht])
  rcases hs with hs|hs
  ·have h0:=z4l (gc:=gc) (by simpa [Za] using hs);simp only [zh,←hx];generalize rd gc st x=z at h0⊢;obtain ⟨v,p⟩:=z
   cases v<;>first |rfl|(simp [V.ng] at h0;done)|(rename_i y;cases y<;>rfl)
  ·simp only [zh,←hx,hs]
 |eqm op x=>simp only [zh];rw [r1 gc x (fun t ht=>ht)]
 |conv k x=>simp only [zh];rw [r1 gc x (fun t ht=>ht)]
 |z8n x=>simp only [zh];rw [r1 gc x (fun t ht=>ht)]
 |z3G x=>
  have hx:=r1 gc x (fun t ht=>by simp [AOp.z9,ht])
  rcases hs with hs|hs
  ·have h0:=z4l (gc:=gc) (by simpa [Za] using hs);simp only [zh,←hx];generalize rd gc st x=z at h0⊢;obtain ⟨v,p⟩:=z
   cases v<;>first |rfl|(simp [V.ng] at h0;done)|(rename_i y;cases y<;>rfl)
  ·simp only [zh,←hx,hs]
 |fa n x=>
  have hx:=r1 gc x (fun t ht=>by simp [AOp.z9,ht])
  rcases hs with hs|hs
  ·have h0:=z4l (gc:=gc) (by simpa [Za] using hs);simp only [zh,←hx];generalize rd gc st x=z at h0⊢;obtain ⟨v,p⟩:=z
   cases v<;>first |rfl|(simp [V.ng] at h0;done)|(rename_i y;cases y<;>rfl)
  ·simp only [zh,←hx,hs]
 |ld ag n x=>
  have hv:=yH (st:=st) (st':=st') (x:=x) (fun t ht=>h t ht)
  rcases hs with hs|hs
  ·simp only [zh,rd,←hv];simp only [Za] at hs;generalize x.v st=y at hs⊢
   cases y with
   |t z=>cases z<;>rfl
   |ptr _ _=>simp [yI] at hs
   |fpt _ _ _=>simp [yI] at hs
   |gpt _ _ _=>simp [yI] at hs
   |mp _=>rfl
   |gd c y=>
    cases y with
    |t z=>cases z<;>rfl
    |ptr _ _=>simp [yI] at hs
    |fpt _ _ _=>simp [yI] at hs
    |gpt _ _ _=>simp [yI] at hs
    |_=>rfl
   |_=>rfl
  ·simp only [zh];rw [r1 gc x (fun t ht=>ht),hs]
 |ia sz x i=>
  have hx:=r1 gc x (fun t ht=>by simp [AOp.z9,ht])
  have hi:=r1 gc i (fun t ht=>by simp [AOp.z9,ht])
  rcases hs with hs|hs
  ·have h0:=z4l (gc:=gc) (by simpa [Za] using hs);simp only [zh,←hx,←hi];generalize rd gc st x=z at h0⊢;generalize rd gc st i=z2;obtain ⟨v,p⟩:=z;obtain ⟨v2,p2⟩:=z2
   have e2:(∃k n,v2= .t (.int k n))∨∀k n,v2≠ .t (.int k n):=by
    cases v2 with
    |t y=>cases y<;>first |exact .inl ⟨_,_,rfl⟩|exact .inr (by simp)
    |_=>exact .inr (by simp)
   rcases e2 with ⟨k,n,rfl⟩|e2
   ·cases v<;>first |rfl|(exfalso;cases h0;done)
   ·cases v2 with
    |t y=>cases y<;>first |rfl|exact absurd rfl (e2 _ _)
    |_=>rfl
  ·simp only [zh,←hx,←hi,hs]
 |z9c a b x i=>simp only [zh];rw [r1 gc x (fun t ht=>by simp [AOp.z9,ht]),r1 gc i (fun t ht=>by simp [AOp.z9,ht])]
 |ixs x i=>simp only [zh];rw [r1 gc x (fun t ht=>by simp [AOp.z9,ht]),r1 gc i (fun t ht=>by simp [AOp.z9,ht])]
 |ixa a b c x i=>simp only [zh];rw [r1 gc x (fun t ht=>by simp [AOp.z9,ht]),r1 gc i (fun t ht=>by simp [AOp.z9,ht])]
 |len x=>
  have hx:=r1 gc x (fun t ht=>by simp [AOp.z9,ht])
  rcases hs with hs|hs
  ·have h0:=z4l (gc:=gc) (by simpa [Za] using hs);simp only [zh,←hx];generalize rd gc st x=z at h0⊢;obtain ⟨v,p⟩:=z
   cases v<;>first |rfl|(simp [V.ng] at h0;done)|(rename_i y;cases y<;>rfl)
  ·simp only [zh,←hx,hs]
 |lens x=>simp only [zh];rw [r1 gc x (fun t ht=>ht)]
 |sls x lo hi=>
  have b1:=fun d=>Q7 (st:=st) (st':=st') (gc:=gc) (x:=lo) (d:=d) (fun t ht=>h t (by simp [AOp.z9,ht]));have b2:=fun d=>Q7 (st:=st) (st':=st') (gc:=gc) (x:=hi) (d:=d) (fun t ht=>h t (by simp [AOp.z9,ht]))
  simp only [zh,b1,b2];rw [r1 gc x (fun t ht=>by simp [AOp.z9,ht])]
 |sll a x lo hi=>
  have b1:=fun d=>Q7 (st:=st) (st':=st') (gc:=gc) (x:=lo) (d:=d) (fun t ht=>h t (by simp [AOp.z9,ht]));have b2:=fun d=>Q7 (st:=st) (st':=st') (gc:=gc) (x:=hi) (d:=d) (fun t ht=>h t (by simp [AOp.z9,ht]))
  have hx:=r1 gc x (fun t ht=>by simp [AOp.z9,ht])
  rcases hs with hs|hs
  ·have h0:=z4l (gc:=gc) (by simpa [Za] using hs);simp only [zh,b1,b2,←hx];generalize rd gc st x=z at h0⊢;obtain ⟨v,p⟩:=z
   cases v<;>first |rfl|(simp [V.ng] at h0;done)
  ·simp only [zh,b1,b2,←hx,hs]
 |fld a b c x=>simp only [zh];rw [r1 gc x (fun t ht=>ht)]
 |zdT x y=>simp only [zh];rw [r1 gc x (fun t ht=>by simp [AOp.z9,ht]),r1 gc y (fun t ht=>by simp [AOp.z9,ht])]
 |zdK x y=>simp only [zh];rw [r1 gc x (fun t ht=>by simp [AOp.z9,ht]),r1 gc y (fun t ht=>by simp [AOp.z9,ht])]
 |build zs ps=>simp only [zh];rw [z1r (st:=st) (st':=st') h]
 |zcV f caps=>simp only [zh];rw [z08 (st:=st) (st':=st') h]
 |ext x i=>simp only [zh];rw [r1 gc x (fun t ht=>ht)]
 |nw op=>
  cases op with
  |lookup ks kag zv ok x k=>
   have hk:=ZT (st:=st) (st':=st') (gc:=gc) (x:=k) (fun t ht=>h t (by simp [AOp.z9,NOp.z9,ht]))
   rcases hs with hs|hs
   ·have hv:=yH (st:=st) (st':=st') (x:=x) (fun t ht=>h t (by simp [AOp.z9,NOp.z9,ht]));simp only [zh,Zr,hk];simp only [rd,←hv];simp only [Za] at hs;generalize x.v st=y at hs⊢
    cases y with
    |t z=>cases z<;>rfl
    |mp _=>simp [yI] at hs
    |gd c y=>
     cases y with
     |t z=>cases z<;>rfl
     |mp _=>simp [yI] at hs
     |_=>rfl
    |_=>rfl
   ·have hx:=ZT (st:=st) (st':=st') (gc:=gc) (x:=x) (fun t ht=>h t (by simp [AOp.z9,NOp.z9,ht]));simp only [zh,Zr];rw [hx,hk,hs]
  |z5V x=>
   rcases hs with hs|hs
   ·have hv:=yH (st:=st) (st':=st') (x:=x) (fun t ht=>h t (by simp [AOp.z9,NOp.z9,ht]));simp only [zh,Zr];simp only [rd,←hv];simp only [Za] at hs;generalize x.v st=y at hs⊢
    cases y with
    |ptr _ _=>simp [yI] at hs
    |gd c y=>
     cases y with
     |ptr _ _=>simp [yI] at hs
     |_=>rfl
    |_=>rfl
   ·have hx:=ZT (st:=st) (st':=st') (gc:=gc) (x:=x) (fun t ht=>h t (by simp [AOp.z9,NOp.z9,ht]));simp only [zh,Zr];rw [hx,hs]
  |zau x=>
   simp only [zh,Zr];rw [ZT (st:=st) (st':=st') (gc:=gc) (x:=x) (fun t ht=>h t (by simp [AOp.z9,NOp.z9,ht]))]
  |eqn neg x=>
   simp only [zh,Zr];rw [ZT (st:=st) (st':=st') (gc:=gc) (x:=x) (fun t ht=>h t (by simp [AOp.z9,NOp.z9,ht]))]
  |z9a neg ks x y=>
   simp only [zh,Zr];rw [ZT (st:=st) (st':=st') (gc:=gc) (x:=x) (fun t ht=>h t (by simp [AOp.z9,NOp.z9,ht])),ZT (st:=st) (st':=st') (gc:=gc) (x:=y) (fun t ht=>h t (by simp [AOp.z9,NOp.z9,ht]))]
  |xcm x y=>
   simp only [zh,Zr];rw [ZT (st:=st) (st':=st') (gc:=gc) (x:=x) (fun t ht=>h t (by simp [AOp.z9,NOp.z9,ht])),ZT (st:=st) (st':=st') (gc:=gc) (x:=y) (fun t ht=>h t (by simp [AOp.z9,NOp.z9,ht]))]
  |xtr cnt x y=>
   simp only [zh,Zr];rw [ZT (st:=st) (st':=st') (gc:=gc) (x:=x) (fun t ht=>h t (by simp [AOp.z9,NOp.z9,ht])),ZT (st:=st) (st':=st') (gc:=gc) (x:=y) (fun t ht=>h t (by simp [AOp.z9,NOp.z9,ht]))]
  |_=>rfl
 |z7t x=>rfl
 |st n x v=>rfl
 |box n x=>rfl
 |alloc zs=>rfl
 |bsl a b c d=>rfl
 |app a b c d=>rfl
 |z2p a b=>rfl
 |qu x=>rfl
 |z3k a b c d=>rfl
 |call f a=>rfl
 |z18 x a=>rfl
theorem z7C {f:FuncId} {vs:List V} {base:Nat} {sto sto':List (Nat×z6)} {out:Out} (hs:out.rd=false∨sto=sto') (h:QP P f vs base sto (· =out)):QP P f vs base sto' (· =out):=by
 obtain ⟨o,h1,rfl⟩:=h;refine ⟨o,?_,rfl⟩
 rcases hs with hs|hs
 ·simp only [hs,Bool.false_eq_true,if_false] at h1⊢;exact h1
 ·rw [←hs];exact h1
theorem z1j {f:FuncId} {vs:List V} {base:Nat} {sto sto':List (Nat×z6)} {out:Out} (hs:out.rd=false∨sto=sto') (h:qi P f vs base sto (· =out)):qi P f vs base sto' (· =out):=by
 obtain ⟨o,h1,rfl⟩:=h;refine ⟨o,?_,rfl⟩
 rcases hs with hs|hs
 ·simp only [hs,Bool.false_eq_true,if_false] at h1⊢;exact h1
 ·rw [←hs];exact h1
theorem zbG {f:FuncId} {vs:List V} {base:Nat} {sto sto':List (Nat×z6)} {out:Out} (hs:∀k,k<base->zi sto' k=zi sto k) (h:QP P f vs base sto (· =out)):QP P f vs base sto' (· =out):=by
 obtain ⟨o,h1,rfl⟩:=h;refine ⟨o,?_,rfl⟩
 cases hr:o.rd with
 |false=>rw [hr] at h1;simpa using h1
 |true=>
  rw [hr] at h1;simp only [if_true] at h1⊢;exact fun s hk=>h1 s fun k hb=>(hk k hb).trans (hs k hb)
theorem z9E {base:Nat} {op:AOp} {out:Out} (h:∀t∈op.z9,look st.env t=look st'.env t) (hs:out.rd=false∨st.s.sto=st'.s.sto) (he:evX P base st (· =out) op):evX P base st' (· =out) op:=by
 have v1:∀(x:Ar),(∀t∈x.z9,t∈op.z9)->x.u st=x.u st':=fun x hx=>Q4 fun t ht=>h t (hx t ht)
 cases op with
 |st n x v=>
  simp only [evX] at he⊢
  rw [←v1 x (fun t ht=>by simp [AOp.z9,ht]),←v1 v (fun t ht=>by simp [AOp.z9,ht])]
  rcases hs with hs|hs
  ·exfalso;split at he
   ·split at he
    ·split at he
     ·obtain ⟨_,rfl⟩:=he;simp at hs
     ·exact he
    ·exact he
   ·exact he
  ·rw [←hs];exact he
 |box n x=>simp only [evX] at he⊢;rw [←v1 x (fun t ht=>ht)];exact he
 |alloc zs=>exact he
 |bsl a b c d=>simp only [evX] at he⊢;rw [←wu (st:=st) (st':=st') h];exact he
 |app a b x y=>
  simp only [evX] at he⊢
  rw [←v1 x (fun t ht=>by simp [AOp.z9,ht]),←v1 y (fun t ht=>by simp [AOp.z9,ht])]
  rcases hs with hs|hs
  ·generalize (Ar.u st y).zA=cy at he⊢;generalize Ar.u st x=vx at he⊢
   cases cy with
   |none=>exact he
   |some z=>
    cases z with
    |lst ys=>
     cases vx with
     |zI=>exact he
     |own k s xs=>
      exfalso;simp only at he;split at he
      ·obtain ⟨_,_,_,_,_,rfl⟩:=he;simp at hs
      ·exact he
     |_=>exact he
    |_=>exact he
  ·rw [←hs];exact he
 |z3k a b c n=>simp only [evX] at he⊢;rw [←v1 n (fun t ht=>ht)];exact he
 |call f args=>simp only [evX] at he⊢;rw [←we (st:=st) (st':=st') h];exact z7C hs he
 |z18 x args=>
  simp only [evX] at he⊢
  rw [←v1 x (fun t ht=>by simp [AOp.z9,ht]),←we (st:=st) (st':=st') (fun t ht=>h t (by simp [AOp.z9,ht]))]
  generalize Ar.u st x=vx at he⊢
  cases vx with
  |t z=>
   cases z with
   |fn f=>exact z1j hs he
   |_=>exact he
  |fn f caps=>exact z1j hs he
  |_=>exact he
 |z2p a b=>exact he
 |qu x=>
  simp only [evX] at he⊢;rw [←v1 x (fun t ht=>ht)]
  rcases hs with hs|hs
  ·exfalso;split at he
   ·split at he
    ·subst he;simp at hs
    ·exact he
   ·exact he
  ·rw [←hs];exact he
 |z7t x=>
  simp only [evX] at he⊢;rw [←v1 x (fun t ht=>ht)]
  rcases hs with hs|hs
  ·exfalso;split at he
   ·subst he;simp at hs
   ·split at he
    ·subst he;simp at hs
    ·exact he
   ·exact he
  ·rw [←hs];exact he
 |nw op=>
  have u1:∀(x:Ar),(∀t∈x.z9,t∈op.z9)->x.u st=x.u st':=fun x hx=>Q4 fun t ht=>h t (by simp only [AOp.z9];exact hx t ht)
  have hrd:out.rd=true:=by
   simp only [evX] at he;unfold yf at he
   (repeat' split at he)<;>first |exact he.elim|(obtain ⟨_,rfl⟩:=he;rfl)|(subst he;rfl)
  have hs':st.s.sto=st'.s.sto:=by
   rcases hs with hs|hs
   ·rw [hrd] at hs;cases hs
   ·exact hs
  simp only [evX] at he⊢
  cases op with
  |zb3 ks kag x k v=>simp only [yf] at he⊢;rw [←u1 x (fun t ht=>by simp [NOp.z9,ht]),←u1 k (fun t ht=>by simp [NOp.z9,ht]),←u1 v (fun t ht=>by simp [NOp.z9,ht]),←hs'];exact he
  |zam ks kag x k=>simp only [yf] at he⊢;rw [←u1 x (fun t ht=>by simp [NOp.z9,ht]),←u1 k (fun t ht=>by simp [NOp.z9,ht]),←hs'];exact he
  |zdm x=>simp only [yf] at he⊢;rw [←u1 x (fun t ht=>ht),←hs'];exact he
  |zcx ks kag zv x k=>simp only [yf] at he⊢;rw [←u1 x (fun t ht=>by simp [NOp.z9,ht]),←u1 k (fun t ht=>by simp [NOp.z9,ht]),←hs'];exact he
  |zaE x s v=>simp only [yf] at he⊢;rw [←u1 x (fun t ht=>by simp [NOp.z9,ht]),←u1 s (fun t ht=>by simp [NOp.z9,ht]),←u1 v (fun t ht=>by simp [NOp.z9,ht]),←hs'];exact he
  |_=>exact he.elim
 |_=>exact he.elim
theorem qk {sz:Nat}:∀{ps:List (Nat×Ar)} {cs:List V},(∀t∈yB ps,look st.env t=look st'.env t)->Yw st sz cs ps=Yw st' sz cs ps
 |[],_,_=>rfl
 |(i,x)::r,cs,h=>by
  simp only [Yw];rw [Q4 (st:=st) (st':=st') (fun t ht=>h t (by simp [yB,ht]))];have ih:=fun cs=>qk (sz:=sz) (ps:=r) (cs:=cs) (fun t ht=>h t (by simp [yB,ht]));simp only [ih]
theorem z32 {sz:Nat} {y:V} (hs:st.s.sto=st'.s.sto):z1F st sz y=z1F st' sz y:=by unfold z1F;rw [hs]
theorem z7K {base:Nat} {op:AOp} {out:Out} (h:∀t∈op.z9,look st.env t=look st'.env t) (hs:out.rd=false∨st.s.sto=st'.s.sto) (he:q9 st base op out):q9 st' base op out:=by
 have v1:∀(x:Ar),(∀t∈x.z9,t∈op.z9)->x.u st=x.u st':=fun x hx=>Q4 fun t ht=>h t (hx t ht)
 cases he with
 |@stG n x v _ _ _ _ _ _ hx hk hw hv hn ho hc=>
  have e:=hs.resolve_left (by simp)
  exact .stG (v1 x (fun t ht=>by simp [AOp.z9,ht])▸hx) (e▸hk) hw (v1 v (fun t ht=>by simp [AOp.z9,ht])▸hv) hn ho hc
 |@stF n x v _ _ _ _ _ _ hx hk hi hv hn ho hc=>
  have e:=hs.resolve_left (by simp)
  exact .stF (v1 x (fun t ht=>by simp [AOp.z9,ht])▸hx) (e▸hk) hi (v1 v (fun t ht=>by simp [AOp.z9,ht])▸hv) hn ho hc
 |@zb6 n x _ _ _ hk hv hn hc=>
  have e:=hs.resolve_left (by simp)
  exact .zb6 (e▸hk) (v1 x (fun t ht=>by simp [AOp.z9,ht])▸hv) hn hc
 |z52 hk=>
  have e:=hs.resolve_left (by simp);exact .z52 (e▸hk)
 |@zba _ _ x y _ _ _ _ _ hx hy hk hi hl h1 h2=>
  have e:=hs.resolve_left (by simp)
  exact .zba (v1 x (fun t ht=>by simp [AOp.z9,ht])▸hx) (v1 y (fun t ht=>by simp [AOp.z9,ht])▸hy) (e▸hk) hi hl h1 h2
 |@zbR _ _ x y _ _ hx hy hc h1 h2=>
  have e:=hs.resolve_left (by simp)
  exact .zbR (v1 x (fun t ht=>by simp [AOp.z9,ht])▸hx) (by rw [←z32 e,←v1 y (fun t ht=>by simp [AOp.z9,ht])];exact hy) hc h1 h2
 |@z9r _ _ x y _ _ _ _ _ _ _ hx hk hw hl hy hc h1 h2=>
  have e:=hs.resolve_left (by simp)
  exact .z9r (v1 x (fun t ht=>by simp [AOp.z9,ht])▸hx) (e▸hk) hw hl (by rw [←z32 e,←v1 y (fun t ht=>by simp [AOp.z9,ht])];exact hy) hc h1 h2
 |z9D hp=>
  exact .z9D (by rw [←qk (st:=st) (st':=st') (fun t ht=>h t (by simpa [AOp.z9] using ht))];exact hp)
 |zb2 hp hk h0=>
  have e:=hs.resolve_left (by simp);exact .zb2 (by rw [←wu (st:=st) (st':=st') (fun t ht=>h t (by simpa [AOp.z9] using ht))];exact hp) (e▸hk) h0
 |@z7j _ _ x _ _ _ _ _ _ hx hk hw ho=>
  have e:=hs.resolve_left (by simp)
  exact .z7j (v1 x (fun t ht=>by simp [AOp.z9,NOp.z9,ht])▸hx) (e▸hk) hw ho
theorem z31 {base:Nat} {op:AOp} {out:Out} (h:∀t∈op.z9,look st.env t=look st'.env t) (hs:out.rd=false∨st.s.sto=st'.s.sto) (he:evX P base st (· =out) op∨evY base st (· =out) op):evX P base st' (· =out) op∨evY base st' (· =out) op:=by
 rcases he with he|⟨o',he,rfl⟩
 ·exact .inl (z9E h hs he)
 ·exact .inr ⟨_,z7K h hs he,rfl⟩
theorem z3i {base:Nat} {op:AOp} {out:Out} (he:evX P base st (· =out) op∨evY base st (· =out) op):Za st op=false:=by
 rcases he with he|⟨o',he,rfl⟩
 ·cases op with
  |nw op=>cases op<;>simp_all [Za,evX,yf]
  |_=>simp_all [Za,evX]
 ·cases he<;>rfl
theorem z3B {base:Nat} {ao:AO} {out:Out} (h:∀t∈ao.reads,look st.env t=look st'.env t) (hs:out.rd=false∨st.s.sto=st'.s.sto) (he:evO P base st ao (· =out)):evO P base st' ao (· =out):=by
 have hop:∀t∈ao.op.z9,look st.env t=look st'.env t:=fun t ht=>h t (by simp [AO.reads,ht]);unfold evO at he⊢
 cases hg:ao.g with
 |none=>
  simp only [hg] at he⊢;unfold evU at he⊢
  cases hev:zh true st ao.op with
  |some r=>
   obtain ⟨v,ps⟩:=r;simp only [hev] at he;obtain ⟨h1,rfl⟩:=he;rw [←wk hop (by simpa using hs),hev];simp only
   exact ⟨h1,by rw [WN (st:=st) (st':=st') hop]⟩
  |none=>
   simp only [hev] at he
   have:zh true st' ao.op=none:=by
    rw [←wk hop (.inl (z3i he))];exact hev
   rw [this];exact z31 hop hs he
 |some g=>
  obtain ⟨s,want⟩:=g;simp only [hg] at he⊢;rw [←h s (by simp [AO.reads,hg])]
  cases hc:z4p want (look st.env s) with
  |none=>simp only [hc] at he
  |some gc=>
   simp only [hc] at he⊢
   cases hev:zh gc st ao.op with
   |some r=>
    obtain ⟨v,ps⟩:=r;simp only [hev] at he;obtain ⟨h1,rfl⟩:=he;rw [←wk hop (by simpa using hs),hev];simp only
    exact ⟨h1,by rw [WN (st:=st) (st':=st') hop]⟩
   |none=>
    simp only [hev] at he
    rcases he with he|he
    ·have hcg:qo P gc base st' (· =out) ao.op:=by
      cases hao:ao.op<;>rw [hao] at he<;>try (exact he.elim)
      rename_i f args;simp only [qo] at he⊢;rw [hao] at hop;rw [←we (st:=st) (st':=st') hop];obtain ⟨o,h1,h2,rfl⟩:=he;refine ⟨o,fun hg=>?_,h2,rfl⟩;have:=h1 hg
      rcases hs with hs|hs
      ·simp only at hs;simp only [hs,Bool.false_eq_true,if_false] at this⊢;exact this
      ·rw [←hs];exact this
     have hnone:zh gc st' ao.op=none:=by
      cases hao:ao.op<;>rw [hao] at hcg<;>first |exact hcg.elim|rfl
     rw [hnone];exact Or.inl hcg
    cases gc with
    |false=>
     have hout:=he.2 rfl;subst hout;rw [←wk hop (by simpa using hs),hev]
     exact Or.inr ⟨by simp,fun _=>by rw [WN (st:=st) (st':=st') hop]⟩
    |true=>
     have hx:=he.1 rfl
     have:zh true st' ao.op=none:=by
      rw [←wk hop (.inl (z3i hx))];exact hev
     simp only [this]
     exact Or.inr ⟨fun _=>z31 hop hs hx,by simp⟩
end
def stD (D:Nat->Bool):Nat->St->List AO->List Out->St
 |i,st,ao::r,out::os=>stD D (i+1) (if D i then st.app ao.dst out else st) r os
 |_,st,_,_=>st
def wc:List Out->Nat
 |[]=>0
 |o::r=>o.n+wc r
def z5w:List (List Nat)->List Nat->List Nat
 |[],acc=>acc
 |l::r,acc=>z5w r (acc++[l.foldl (fun s j=>s|||(2 ^ j|||acc.getD j 0)) 0])
def AO.zeh (a b:AO):Bool:=
 match a.dst with
 |some d=>b.reads.contains d
 |none=>false
def AO.same (a b:AO):Bool:=
 match a.dst with
 |some d=>b.dst==some d
 |none=>false
def AO.z1e (a b:AO):Bool:=(a.zeh b||b.zeh a)||(a.same b||b.same a)
def AO.wq (a:AO):Bool:=
 match a.g,a.op with
 |none,.ld _ _ (.s _)=>true
 |none,.nw (.lookup _ _ _ _ (.s _) _)=>true
 |none,.ia _ (.s _) _=>true
 |none,.fa _ (.s _)=>true
 |_,_=>false
def AO.z1k (a:AO):Bool:=
 match a.g,a.op with
 |none,.call _ _=>true
 |_,_=>false
theorem z7m {a:AO} (h:a.wq=true):a.z1k=false:=by
 obtain ⟨d,g,op⟩:=a;unfold AO.wq at h;unfold AO.z1k
 cases g with
 |some _=>rfl
 |none=>cases op<;>first |rfl|cases h
def Ar.still (env:List (Nat×V)) (rest:List AO):Ar->Bool
 | .c _=>true
 | .s t=>(match look env t with| .t _=>true|_=>false)&&rest.all (fun o=>!(o.dst==some t))
def z4E (env:List (Nat×V)) (rest:List AO) (a:AO):Option Nat:=
 match a.g,a.op with
 |none,.ld _ _ (.s t)=>
  match ((look env t).un true).1,rest.all (fun o=>!(o.dst==some t)) with
  | .ptr k _,true=>some k
  | .gpt k _ _,true=>some k
  | .fpt k _ _,true=>some k
  |_,_=>none
 |none,.fa _ (.s t)=>
  match ((look env t).un true).1,rest.all (fun o=>!(o.dst==some t)) with
  | .gpt k _ _,true=>some k
  |_,_=>none
 |none,.ia _ (.s t) i=>
  match ((look env t).un true).1,rest.all (fun o=>!(o.dst==some t)),i.still env rest with
  | .gsl k _ _ _ _,true,true=>some k
  |_,_,_=>none
 |_,_=>none
def storeAt (env:List (Nat×V)) (rest:List AO) (a:AO):Option Nat:=
 match a.g,a.op with
 |none,.st _ (.s t) _=>
  match (look env t).ug,rest.all (fun o=>!(o.dst==some t)) with
  | .ptr k _,true=>some k
  | .gpt k _ _,true=>some k
  | .fpt k _ _,true=>some k
  |_,_=>none
 |none,.app _ _ (.s t) _=>
  match (look env t).ug,rest.all (fun o=>!(o.dst==some t)) with
  | .own k _ _,true=>some k
  | .fow k _ _ _,true=>some k
  | .gsl k _ _ _ _,true=>some k
  |_,_=>none
 |none,.bsl _ _ _ _=>
  match a.dst with
  |some d=>
   match look env d,rest.tail.all (fun o=>!(o.dst==some d)) with
   | .fow k _ _ _,true=>some k
   |_,_=>none
  |none=>none
 |none,.box _ _=>
  match a.dst with
  |some d=>
   match look env d,rest.tail.all (fun o=>!(o.dst==some d)) with
   | .fpt k _ _,true=>some k
   |_,_=>none
  |none=>none
 |_,_=>none
def z4O (aos:List AO) (env:List (Nat×V)) (a b:Nat):Bool:=
 match z4E env (aos.drop a) (aos.getD a ⟨none,none,.cst .top⟩),storeAt env (aos.drop b) (aos.getD b ⟨none,none,.cst .top⟩) with
 |some k,some q=>!(k==q)
 |_,_=>false
def z7A (bm:List Nat) (aos:List AO) (fl:List (Bool×Bool)) (env:List (Nat×V)) (j i:Nat):Bool:=
 (bm.getD i 0).testBit j||
  (!((aos.getD j ⟨none,none,.cst .top⟩).z1e (aos.getD i ⟨none,none,.cst .top⟩))&&!((fl.getD j (false,false)).1&&(fl.getD i (false,false)).2&&!((aos.getD j ⟨none,none,.cst .top⟩).wq&&!(fl.getD i (false,false)).1)&&!((aos.getD j ⟨none,none,.cst .top⟩).z1k&&!(fl.getD i (false,false)).1)&&!(z4O aos env j i))&&
   !((fl.getD i (false,false)).1&&(fl.getD j (false,false)).2&&!((aos.getD i ⟨none,none,.cst .top⟩).wq&&!(fl.getD j (false,false)).1)&&!(z4O aos env i j)))
def indep (aos:List AO) (after:List (List Nat)) (fl:List (Bool×Bool)) (env:List (Nat×V)):Bool:=
 (after.zipIdx.all fun p=>p.1.all fun j=>decide (j<p.2))&&
 (List.range aos.length).all fun i=>(List.range i).all fun j=>z7A (z5w after []) aos fl env j i
theorem z5I {aos:List AO} {env:List (Nat×V)} {a b:Nat} (h:z4O aos env a b=true):∃k q,z4E env (aos.drop a) (aos.getD a ⟨none,none,.cst .top⟩)=some k/\storeAt env (aos.drop b) (aos.getD b ⟨none,none,.cst .top⟩)=some q/\k≠q:=by
 unfold z4O at h;split at h
 ·rename_i k q h1 h2;exact ⟨k,q,h1,h2,by simpa using h⟩
 ·cases h
theorem z7h {base:Nat} {st:St} {K:Out->Prop} {ag:Bool} {n:Nat} {x:Ar}:evY base st K (.ld ag n x)↔False:=⟨(by rintro ⟨_,h,_⟩;cases h),False.elim⟩
theorem QA {base:Nat} {st:St} {K:Out->Prop} {ks:List KSh} {kag:Bool} {zv:V} {ok:Bool} {x k:Ar}:evY base st K (.nw (.lookup ks kag zv ok x k))↔False:=⟨(by rintro ⟨_,h,_⟩;cases h),False.elim⟩
theorem z6V {base:Nat} {st:St} {K:Out->Prop} {sz:Nat} {x i:Ar}:evY base st K (.ia sz x i)↔False:=⟨(by rintro ⟨_,h,_⟩;cases h),False.elim⟩
theorem z7Y {base:Nat} {st:St} {K:Out->Prop} {off:Nat} {x:Ar}:evY base st K (.fa off x)↔False:=⟨(by rintro ⟨_,h,_⟩;cases h),False.elim⟩
theorem z3R {env:List (Nat×V)} {rest:List AO} {a:AO} {k:Nat} (h:z4E env rest a=some k):a.wq=true/\∀s∈a.reads,(∀o∈rest,o.dst≠some s)/\∀q ps,((∃o,(look env s).un true=(.ptr q o,ps))∨(look env s).un true=(.mp q,ps)∨(∃i o,(look env s).un true=(.fpt q i o,ps))∨(∃ver o,0<ver/\(look env s).un true=(.gpt q ver o,ps))∨∃ver o l z,0<ver/\(look env s).un true=(.gsl q ver o l z,ps))->q=k:=by
 have hall:∀t,rest.all (fun o=>!(o.dst==some t))=true->∀o∈rest,o.dst≠some t:=fun t h2 o ho=>by
  have:=List.all_eq_true.1 h2 o ho;simpa using this
 obtain ⟨dst,g,op⟩:=a;unfold z4E at h;split at h
 ·rename_i ag n t hg hop;simp only at hg hop;subst hg;subst hop;refine ⟨rfl,fun s hs=>?_⟩
  have hs':s=t:=by simpa [AO.reads,AOp.z9,Ar.z9] using hs
  subst hs';split at h
  ·rename_i q o h1 h2;simp only [Option.some.injEq] at h;subst h;refine ⟨hall _ h2,fun q' ps hq=>?_⟩
   rcases hq with ⟨o',hq⟩|hq|⟨_,_,hq⟩|⟨_,_,_,hq⟩|⟨_,_,_,_,_,hq⟩<;>rw [hq] at h1<;>simp at h1
   exact h1.1
  ·rename_i q r o h1 h2;simp only [Option.some.injEq] at h;subst h;refine ⟨hall _ h2,fun q' ps hq=>?_⟩
   rcases hq with ⟨o',hq⟩|hq|⟨_,_,hq⟩|⟨_,_,_,hq⟩|⟨_,_,_,_,_,hq⟩<;>rw [hq] at h1<;>simp at h1
   exact h1.1
  ·rename_i q r o h1 h2;simp only [Option.some.injEq] at h;subst h;refine ⟨hall _ h2,fun q' ps hq=>?_⟩
   rcases hq with ⟨o',hq⟩|hq|⟨_,_,hq⟩|⟨_,_,_,hq⟩|⟨_,_,_,_,_,hq⟩<;>rw [hq] at h1<;>simp at h1
   exact h1.1
  ·cases h
 ·rename_i off t hg hop;simp only at hg hop;subst hg;subst hop;refine ⟨rfl,fun s hs=>?_⟩
  have hs':s=t:=by simpa [AO.reads,AOp.z9,Ar.z9] using hs
  subst hs';split at h
  ·rename_i q r o h1 h2;simp only [Option.some.injEq] at h;subst h;refine ⟨hall _ h2,fun q' ps hq=>?_⟩
   rcases hq with ⟨o',hq⟩|hq|⟨_,_,hq⟩|⟨_,_,_,hq⟩|⟨_,_,_,_,_,hq⟩<;>rw [hq] at h1<;>simp at h1
   exact h1.1
  ·cases h
 ·rename_i sz t i hg hop;simp only at hg hop;subst hg;subst hop;refine ⟨rfl,fun s hs=>?_⟩;split at h
  ·rename_i q r o l z h1 h2 h3;simp only [Option.some.injEq] at h;subst h
   have hs':s=t∨s∈i.z9:=by simpa [AO.reads,AOp.z9,Ar.z9] using hs
   rcases hs' with rfl|hs'
   ·refine ⟨hall _ h2,fun q' ps hq=>?_⟩
    rcases hq with ⟨o',hq⟩|hq|⟨_,_,hq⟩|⟨_,_,_,hq⟩|⟨_,_,_,_,_,hq⟩<;>rw [hq] at h1<;>simp at h1
    exact h1.1
   ·cases i with
    |c v=>simp [Ar.z9] at hs'
    |s u=>
     have hu:s=u:=by simpa [Ar.z9] using hs'
     subst hu;simp only [Ar.still,Bool.and_eq_true] at h3;refine ⟨hall _ h3.2,fun q' ps hq=>?_⟩;have h4:=h3.1;split at h4
     ·rename_i x hx;rw [hx] at hq;simp [V.un] at hq
     ·cases h4
  ·cases h
 ·cases h
theorem zcR {base:Nat} {st:St} {out:Out} {n k:Nat} {x v:Ar} (hx:(∃o,x.u st= .ptr k o)∨(∃r o,x.u st= .gpt k r o)∨∃i o,x.u st= .fpt k i o) (h:q9 st base (.st n x v) out):∀q y,(q,y)∈out.ob->q=k:=by
 cases h with
 |stG h=>
  rcases hx with ⟨o,hx⟩|⟨r,o,hx⟩|⟨i,o,hx⟩<;>rw [hx] at h<;>simp at h
  intro q y hq;simp at hq;rw [hq.1,h.1]
 |stF h=>
  rcases hx with ⟨o,hx⟩|⟨r,o,hx⟩|⟨i,o,hx⟩<;>rw [hx] at h<;>simp at h
  intro q y hq;simp at hq;rw [hq.1,h.1]
theorem zaU {base:Nat} {st:St} {out:Out} {sz b k:Nat} {x v:Ar} (hx:(∃s xs,x.u st= .own k s xs)∨(∃i s xs,x.u st= .fow k i s xs)∨∃r o l s,x.u st= .gsl k r o l s) (h:q9 st base (.app sz b x v) out):∀q y,(q,y)∈out.ob->q=k:=by
 cases h with
 |zba h=>
  rcases hx with ⟨s,xs,hx⟩|⟨i,s,xs,hx⟩|⟨r,o,l,s,hx⟩<;>rw [hx] at h<;>simp at h
  intro q y hq;simp at hq;rw [hq.1,h.1]
 |zbR h=>rcases hx with ⟨s,xs,hx⟩|⟨i,s,xs,hx⟩|⟨r,o,l,s,hx⟩<;>rw [hx] at h<;>simp at h
 |z9r h=>
  rcases hx with ⟨s,xs,hx⟩|⟨i,s,xs,hx⟩|⟨r,o,l,s,hx⟩<;>rw [hx] at h<;>simp at h
  intro q y hq;simp at hq;rw [hq.1,h.1]
theorem z7H {P:Program} {env:List (Nat×V)} {rest:List AO} {a:AO} {k:Nat} (h:storeAt env rest a=some k):(∃t,(∀o∈rest,o.dst≠some t)/\
  ∀(base:Nat) (st:St) (out:Out),look st.env t=look env t->evO P base st a (· =out)->∀q x,(q,x)∈out.ob->q=k)∨
  ∃d,a.dst=some d/\(∀o∈rest.tail,o.dst≠some d)/\∀(base:Nat) (st:St) (out:Out),look env d=out.v->evO P base st a (· =out)->∀q x,(q,x)∈out.ob->q=k:=by
 have hall:∀t,rest.all (fun o=>!(o.dst==some t))=true->∀o∈rest,o.dst≠some t:=fun t h2 o ho=>by
  have:=List.all_eq_true.1 h2 o ho;simpa using this
 have hall2:∀t,rest.tail.all (fun o=>!(o.dst==some t))=true->∀o∈rest.tail,o.dst≠some t:=fun t h2 o ho=>by
  have:=List.all_eq_true.1 h2 o ho;simpa using this
 obtain ⟨dst,g,op⟩:=a;unfold storeAt at h;split at h
 ·rename_i n t w hg hop;simp only at hg hop;subst hg;subst hop
  have key:∀(base:Nat) (st:St) (out:Out),((∃o,(Ar.s t).u st= .ptr k o)∨(∃r o,(Ar.s t).u st= .gpt k r o)∨∃i o,(Ar.s t).u st= .fpt k i o)->evO P base st ⟨dst,none,.st n (.s t) w⟩ (· =out)->∀q x,(q,x)∈out.ob->q=k:=by
   intro base st out hu hev q' x hx;simp only [evO,evU,zh] at hev
   rcases hev with hev|⟨o,hy,rfl⟩
   ·simp only [evX] at hev
    rcases hu with ⟨o,hu⟩|⟨r,o,hu⟩|⟨i,o,hu⟩<;>rw [hu] at hev<;>simp only at hev
    split at hev
    ·split at hev
     ·obtain ⟨_,rfl⟩:=hev;simp at hx;exact hx.1
     ·exact hev.elim
    ·exact hev.elim
   ·exact zcR hu hy q' x hx
  split at h
  ·rename_i q o h1 h2;simp only [Option.some.injEq] at h;subst h;exact .inl ⟨t,hall _ h2,fun base st out he=>key base st out (.inl ⟨o,by rw [Ar.u,Ar.v,he];exact h1⟩)⟩
  ·rename_i q r o h1 h2;simp only [Option.some.injEq] at h;subst h;exact .inl ⟨t,hall _ h2,fun base st out he=>key base st out (.inr (.inl ⟨r,o,by rw [Ar.u,Ar.v,he];exact h1⟩))⟩
  ·rename_i q i o h1 h2;simp only [Option.some.injEq] at h;subst h;exact .inl ⟨t,hall _ h2,fun base st out he=>key base st out (.inr (.inr ⟨i,o,by rw [Ar.u,Ar.v,he];exact h1⟩))⟩
  ·cases h
 ·rename_i sz b t w hg hop;simp only at hg hop;subst hg;subst hop
  have key:∀(base:Nat) (st:St) (out:Out),((∃s xs,(Ar.s t).u st= .own k s xs)∨(∃i s xs,(Ar.s t).u st= .fow k i s xs)∨∃r o l s,(Ar.s t).u st= .gsl k r o l s)->evO P base st ⟨dst,none,.app sz b (.s t) w⟩ (· =out)->∀q x,(q,x)∈out.ob->q=k:=by
   intro base st out hu hev q' x hx;simp only [evO,evU,zh] at hev
   rcases hev with hev|⟨o,hy,rfl⟩
   ·simp only [evX] at hev;split at hev
    ·rcases hu with ⟨s,xs,hu⟩|⟨i,s,xs,hu⟩|⟨r,o,l,s,hu⟩<;>rw [hu] at hev<;>simp only at hev
     split at hev
     ·obtain ⟨_,_,_,_,_,rfl⟩:=hev;simp at hx;exact hx.1
     ·exact hev.elim
    ·exact hev.elim
   ·exact zaU hu hy q' x hx
  split at h
  ·rename_i q s xs h1 h2;simp only [Option.some.injEq] at h;subst h;exact .inl ⟨t,hall _ h2,fun base st out he=>key base st out (.inl ⟨s,xs,by rw [Ar.u,Ar.v,he];exact h1⟩)⟩
  ·rename_i q i s xs h1 h2;simp only [Option.some.injEq] at h;subst h;exact .inl ⟨t,hall _ h2,fun base st out he=>key base st out (.inr (.inl ⟨i,s,xs,by rw [Ar.u,Ar.v,he];exact h1⟩))⟩
  ·rename_i q r o l s h1 h2;simp only [Option.some.injEq] at h;subst h;exact .inl ⟨t,hall _ h2,fun base st out he=>key base st out (.inr (.inr ⟨r,o,l,s,by rw [Ar.u,Ar.v,he];exact h1⟩))⟩
  ·cases h
 ·rename_i ow sz zs ps hg hop;simp only at hg hop;subst hg;subst hop;split at h
  ·rename_i d hd;simp only at hd;subst hd;split at h
   ·rename_i q i s xs h1 h2;simp only [Option.some.injEq] at h;subst h;refine .inr ⟨d,rfl,hall2 _ h2,fun base st out he hev q' x hx=>?_⟩;rw [h1] at he;simp only [evO,evU,zh] at hev
    rcases hev with hev|⟨o,hy,rfl⟩
    ·simp only [evX] at hev;split at hev
     ·split at hev
      ·rcases hev.2 with hev|hev
       ·split at hev<;>subst hev<;>cases he
       ·subst hev;cases he
      ·have:=hev.2;subst this;cases he
     ·exact hev.elim
    ·cases hy with
     |z9D _=>cases he
     |zb2 _ _ _=>simp at he hx;rw [hx.1,he.1]
   ·cases h
  ·cases h
 ·rename_i nb xb hg hop;simp only at hg hop;subst hg;subst hop;split at h
  ·rename_i d hd;simp only at hd;subst hd;split at h
   ·rename_i q i o' h1 h2;simp only [Option.some.injEq] at h;subst h;refine .inr ⟨d,rfl,hall2 _ h2,fun base st out he hev q' x hx=>?_⟩;rw [h1] at he;simp only [evO,evU,zh] at hev
    rcases hev with hev|⟨o,hy,rfl⟩
    ·simp only [evX] at hev;split at hev
     ·obtain ⟨_,hev⟩:=hev;subst hev;cases he
     ·exact hev.elim
    ·cases hy with
     |zb6 _ _ _ _=>simp at he hx;rw [hx.1,he.1]
   ·cases h
  ·cases h
 ·cases h
section
variable {P:Program} {ops:Array Oper}
theorem zd5 {P:Program} {base:Nat} {st st':St} {ao:AO} {out:Out} (hc:ao.z1k=true) (h:∀t∈ao.reads,look st.env t=look st'.env t) (hs:∀k,k<base->zi st'.s.sto k=zi st.s.sto k) (he:evO P base st ao (· =out)):evO P base st' ao (· =out):=by
 obtain ⟨d,g,op⟩:=ao;unfold AO.z1k at hc;split at hc
 ·rename_i f args hg hop;simp only at hg hop;subst hg;subst hop;simp only [evO,evU,zh] at he⊢
  rcases he with he|⟨o,he,_⟩
  ·left;simp only [evX] at he⊢;rw [←we (st:=st) (st':=st') (fun t ht=>h t (by simpa [AO.reads,AOp.z9] using ht))];exact zbG hs he
  ·cases he
 ·cases hc
structure Eqv (s t:St):Prop where
 env:∀x,look s.env x=look t.env x
 sto:∀k,zi s.s.sto k=zi t.s.sto k
theorem Eqv.refl (s:St):Eqv s s:=⟨fun _=>rfl,fun _=>rfl⟩
theorem Eqv.trans {a b c:St} (h:Eqv a b) (k:Eqv b c):Eqv a c:=⟨fun x=>(h.env x).trans (k.env x),fun x=>(h.sto x).trans (k.sto x)⟩
theorem Eqv.symm {a b:St} (h:Eqv a b):Eqv b a:=⟨fun x=>(h.env x).symm,fun x=>(h.sto x).symm⟩
theorem Z5.eqv {Λ:L} {s t:S} (h:Z5 Λ s) (e:∀k,zi s.sto k=zi t.sto k):Z5 Λ t:=
 ⟨fun k o hk=>h.sto k o (by rw [e];exact hk),h.inj,h.new,h.bnd,h.frz,h.w9,h.wh,h.z1A⟩
theorem Rel.eqv {C:Ctx} {Λ:L} {s t:St} {a:Act} (h:Rel C Λ s a) (e:Eqv s t):Rel C Λ t a:=
 ⟨h.kp,h.size,h.defers,fun x=>by rw [←e.env];exact h.env x,h.s.eqv e.sto⟩
theorem Z9:∀(ob s:List (Nat×z6)) (k:Nat),(∀o,(k,o)∉ob)->zi (Zq s ob) k=zi s k
 |[],s,k,_=>rfl
 |(j,o)::r,s,k,h=>by
  have hj:j≠k:=by rintro rfl;exact h o (by simp)
  simp only [Zq];rw [Z9 r _ k (fun o' ho=>h o' (List.mem_cons_of_mem _ ho)),Zi];simp [hj]
theorem Ye:∀(ob s s':List (Nat×z6)) (k:Nat),(∃o,(k,o)∈ob)->zi (Zq s ob) k=zi (Zq s' ob) k
 |[],s,s',k,h=>by obtain ⟨o,h⟩:=h;simp at h
 |(j,o)::r,s,s',k,h=>by
  simp only [Zq];by_cases hr:∃o',(k,o')∈r
  ·exact Ye r _ _ k hr
  ·have hr':∀o',(k,o')∉r:=fun o' ho=>hr ⟨o',ho⟩;rw [Z9 r _ k hr',Z9 r _ k hr',Zi,Zi]
   have:j=k:=by
    obtain ⟨o',ho⟩:=h
    rcases List.mem_cons.1 ho with e|e
    ·simp at e;exact e.1.symm
    ·exact (hr' o' e).elim
   simp [this]
theorem z0y (ob s s':List (Nat×z6)) (h:∀k,zi s k=zi s' k) (k:Nat):zi (Zq s ob) k=zi (Zq s' ob) k:=by
 by_cases hk:∃o,(k,o)∈ob
 ·exact Ye ob s s' k hk
 ·have hk':∀o',(k,o')∉ob:=fun o' ho=>hk ⟨o',ho⟩;rw [Z9 ob _ k hk',Z9 ob _ k hk',h]
theorem Eqv.app {s t:St} (h:Eqv s t) (d:Option Nat) (o:Out):Eqv (s.app d o) (t.app d o):=by
 refine ⟨fun x=>?_,z0y _ _ _ h.sto⟩
 cases d with
 |none=>exact h.env x
 |some d=>simp only [St.app,Yo,h.env x]
theorem zbk (s:St) {d d':Option Nat} {o o':Out} (hd:∀x,d=some x->d'≠some x) (ho:∀k a b,(k,a)∈o.ob->(k,b)∉o'.ob):Eqv ((s.app d o).app d' o') ((s.app d' o').app d o):=by
 refine ⟨fun x=>?_,fun k=>?_⟩
 ·cases d with
  |none=>cases d'<;>simp [St.app,Yo]
  |some d=>
   cases d' with
   |none=>simp [St.app,Yo]
   |some d'=>
    have:d≠d':=by rintro rfl;exact hd d rfl rfl
    simp only [St.app,Yo];by_cases h1:d=x
    ·subst h1;simp [Ne.symm this]
    ·simp [h1]
 ·show zi (Zq (Zq s.s.sto o.ob) o'.ob) k=zi (Zq (Zq s.s.sto o'.ob) o.ob) k;by_cases hk:∃a,(k,a)∈o.ob
  ·obtain ⟨a,ha⟩:=hk;rw [Z9 o'.ob _ k (fun b=>ho k a b ha)];exact Ye _ _ _ k ⟨a,ha⟩
  ·have hk':∀a,(k,a)∉o.ob:=fun a ha=>hk ⟨a,ha⟩;rw [Z9 o.ob _ k hk'];by_cases hk2:∃b,(k,b)∈o'.ob
   ·exact Ye _ _ _ k hk2
   ·have hk2':∀b,(k,b)∉o'.ob:=fun b hb=>hk2 ⟨b,hb⟩;rw [Z9 o'.ob _ k hk2',Z9 o'.ob _ k hk2',Z9 o.ob _ k hk']
theorem z8w (D:Nat->Bool):∀(r:List AO) (os:List Out) (i:Nat) {s t:St},Eqv s t->Eqv (stD D i s r os) (stD D i t r os)
 |[],os,i,s,t,h=>by cases os<;>exact h
 |ao::r,[],i,s,t,h=>h
 |ao::r,o::os,i,s,t,h=>by
  simp only [stD];refine z8w D r os (i+1) ?_;split
  ·exact h.app _ _
  ·exact h
theorem z5e {D D':Nat->Bool}:∀(r:List AO) (os:List Out) (i:Nat) (s:St),(∀j,i<=j->j<i+r.length->D j=D' j)->stD D i s r os=stD D' i s r os
 |[],os,i,s,h=>by cases os<;>rfl
 |ao::r,[],i,s,h=>rfl
 |ao::r,o::os,i,s,h=>by
  simp only [stD,h i (Nat.le_refl _) (by simp)];exact z5e r os (i+1) _ (fun j h1 h2=>h j (by omega) (by simp;omega))
theorem qO {D:Nat->Bool}:∀(r:List AO) (os:List Out) (i:Nat) (s:St),(∀j,i<=j->D j=false)->stD D i s r os=s
 |[],os,i,s,h=>by cases os<;>rfl
 |ao::r,[],i,s,h=>rfl
 |ao::r,o::os,i,s,h=>by
  simp only [stD,h i (Nat.le_refl _),Bool.false_eq_true,if_false];exact qO r os (i+1) _ (fun j h1=>h j (by omega))
theorem z5Q:∀(r:List AO) (os:List Out) (i:Nat) (s:St) (n:Nat) (ao:AO) (o:Out),r[n]?=some ao->os[n]?=some o->stD (fun l=>decide (l<i+n+1)) i s r os=(stD (fun l=>decide (l<i+n)) i s r os).app ao.dst o
 |[],_,_,_,n,ao,o,h,_=>by simp at h
 |_::_,[],_,_,n,ao,o,_,h=>by simp at h
 |a::r,p::os,i,s,0,ao,o,h1,h2=>by
  simp at h1 h2;subst h1;subst h2
  have e1:decide (i<i+0+1)=true:=by simp
  have e2:decide (i<i+0)=false:=by simp
  simp only [stD,e1,e2,if_true]
  rw [qO _ _ _ _ (fun j hj=>by simp;omega),qO _ _ _ _ (fun j hj=>by simp;omega)]
  simp
 |a::r,p::os,i,s,n+1,ao,o,h1,h2=>by
  have e1:decide (i<i+(n+1)+1)=true:=by simp;omega
  have e2:decide (i<i+(n+1))=true:=by simp
  simp only [stD,e1,e2,if_true];have:=z5Q r os (i+1) (s.app a.dst p) n ao o (by simpa using h1) (by simpa using h2)
  have a1:i+1+n+1=i+(n+1)+1:=by omega
  have a2:i+1+n=i+(n+1):=by omega
  rw [a1,a2] at this;exact this
theorem z3j {D D':Nat->Bool} {t:Nat}:∀(r:List AO) (os:List Out) (i:Nat) (s s':St),(∀j ao,r[j]?=some ao->ao.dst=some t->D (i+j)=D' (i+j))->look s.env t=look s'.env t->look (stD D i s r os).env t=look (stD D' i s' r os).env t
 |[],os,i,s,s',h,e=>by cases os<;>exact e
 |ao::r,[],i,s,s',h,e=>e
 |ao::r,o::os,i,s,s',h,e=>by
  simp only [stD]
  refine z3j r os (i+1) _ _ (fun j a hj hd=>by have:=h (j+1) a (by simpa using hj) hd;rw [Nat.add_assoc,Nat.add_comm 1 j];exact this) ?_
  by_cases hd:ao.dst=some t
  ·have:=h 0 ao rfl hd;simp only [Nat.add_zero] at this;rw [this];split
   ·simp [St.app,hd,Yo]
   ·exact e
  ·have key:∀(u:St),look (u.app ao.dst o).env t=look u.env t:=by
    intro u
    cases hdd:ao.dst with
    |none=>rfl
    |some d=>
     have:d≠t:=by rintro rfl;exact hd hdd
     simp [St.app,Yo,this]
   have key2:∀(b:Bool) (u:St),look (if b then u.app ao.dst o else u).env t=look u.env t:=by
    intro b u;cases b
    ·rfl
    ·exact key u
   rw [key2,key2];exact e
theorem z94 {D D':Nat->Bool}:∀(r:List AO) (os:List Out) (i:Nat) (s s':St),(∀j o,os[j]?=some o->o.ob≠[]->D (i+j)=D' (i+j))->s.s.sto=s'.s.sto->(stD D i s r os).s.sto=(stD D' i s' r os).s.sto
 |[],os,i,s,s',h,e=>by cases os<;>exact e
 |ao::r,[],i,s,s',h,e=>e
 |ao::r,o::os,i,s,s',h,e=>by
  simp only [stD]
  refine z94 r os (i+1) _ _ (fun j a hj hd=>by have:=h (j+1) a (by simpa using hj) hd;rw [Nat.add_assoc,Nat.add_comm 1 j];exact this) ?_
  by_cases hob:o.ob=[]
  ·have key2:∀(b:Bool) (u:St),(if b then u.app ao.dst o else u).s.sto=u.s.sto:=by
    intro b u;cases b
    ·rfl
    ·simp [St.app,S.app,hob,Zq]
   rw [key2,key2];exact e
  ·have:=h 0 o rfl hob;simp only [Nat.add_zero] at this;rw [this];split
   ·simp only [St.app,S.app,e]
   ·exact e
def V.names (v:V) (k:Nat):Prop:=∃ps,Z7 ps/\((∃o,v.un true=(.ptr k o,ps))∨v.un true=(.mp k,ps)∨(∃i o,v.un true=(.fpt k i o,ps))∨(∃ver o,0<ver/\v.un true=(.gpt k ver o,ps))∨∃ver o l z,0<ver/\v.un true=(.gsl k ver o l z,ps))
theorem V.z7W {Λ:L} {u:Value} {v:V} {k:Nat} (h:zu Λ u v) (hn:v.names k) (hf:y3 Λ k):False:=by
 obtain ⟨ps,hp,hn⟩:=hn
 have key:∀y:V,zu Λ u y->((∃o,y= .ptr k o)∨y= .mp k∨(∃i o,y= .fpt k i o)∨(∃ver o,0<ver/\y= .gpt k ver o)∨∃ver o l z,0<ver/\y= .gsl k ver o l z)->False:=by
  intro y hy hh
  rcases hh with ⟨o,rfl⟩|rfl|⟨i,o,rfl⟩|⟨ver,o,hv,rfl⟩|⟨ver,o,l,z,hv,rfl⟩
  ·cases hy;exact hf.obj _ ‹_›
  ·cases hy;exact hf.obj _ ‹_›
  ·cases hy;exact hf.fob _ _ ‹_›
  ·cases hy with
   |gpt _ _ h3 _=>have:=hf.frf 0;omega
  ·cases hy with
   |gsl _ _ h3 _=>have:=hf.frf 0;omega
 cases v<;>simp only [V.un,Prod.mk.injEq] at hn
 case gd c x=>
  have hc:c=true:=by
   rcases hn with ⟨o,_,rfl⟩|⟨_,rfl⟩|⟨_,_,_,rfl⟩|⟨_,_,_,_,rfl⟩|⟨_,_,_,_,_,_,rfl⟩<;>simpa [Z7] using hp
  subst hc
  cases h with
  |gd h _=>
   refine key x (h Z) ?_
   rcases hn with ⟨o,h1,_⟩|⟨h1,_⟩|⟨i,o,h1,_⟩|⟨ver,o,h0,h1,_⟩|⟨ver,o,l,z,h0,h1,_⟩
   ·exact .inl ⟨o,h1⟩
   ·exact .inr (.inl h1)
   ·exact .inr (.inr (.inl ⟨i,o,h1⟩))
   ·exact .inr (.inr (.inr (.inl ⟨ver,o,h0,h1⟩)))
   ·exact .inr (.inr (.inr (.inr ⟨ver,o,l,z,h0,h1⟩)))
 all_goals
  refine key _ h ?_
  rcases hn with ⟨o,h1,_⟩|⟨h1,_⟩|⟨i,o,h1,_⟩|⟨ver,o,h0,h1,_⟩|⟨ver,o,l,z,h0,h1,_⟩
  ·exact .inl ⟨o,h1⟩
  ·exact .inr (.inl h1)
  ·exact .inr (.inr (.inl ⟨i,o,h1⟩))
  ·exact .inr (.inr (.inr (.inl ⟨ver,o,h0,h1⟩)))
  ·exact .inr (.inr (.inr (.inr ⟨ver,o,l,z,h0,h1⟩)))
theorem Wq {a b:List Bool} (h:Z7 (a++b)):Z7 a:=by
 induction a with
 |nil=>trivial
 |cons x r ih=>exact ⟨h.1,ih h.2⟩
theorem z7o {ao:AO} {base:Nat} {st st':St} {out:Out} (hn:ao.wq=true) (h:∀t∈ao.reads,look st.env t=look st'.env t) (he:evO P base st ao (· =out))
  (hk:∀t,t∈ao.reads->∀k,(look st.env t).names k->zi st.s.sto k≠none->zi st.s.sto k=zi st'.s.sto k):evO P base st' ao (· =out):=by
 obtain ⟨dst,g,op⟩:=ao;unfold AO.wq at hn;split at hn
 ·rename_i ag n t hg hop;simp only at hg hop;subst hg;subst hop;have ht:=h t (by simp [AO.reads,AOp.z9,Ar.z9]);have hkt:=hk t (by simp [AO.reads,AOp.z9,NOp.z9,Ar.z9]);simp only [evO,evU,evX,z7h,or_false,Za,zh,rd,Ar.v] at he⊢;rw [←ht];generalize look st.env t=v at*
  cases hv:v.un true with
  |mk x p=>
   rw [hv] at he
   cases x with
   |ptr k o=>
    simp only at he⊢
    have:zi st.s.sto k=zi st'.s.sto k:=by
     cases ha:zi st.s.sto k with
     |none=>rw [ha] at he;exact he.elim
     |some ob=>
      rw [←ha];rw [ha] at he;refine hkt k ⟨p,?_,.inl ⟨o,hv⟩⟩ (by rw [ha];simp)
      cases ob with
      |cells cs=>
       simp only at he
       cases ag with
       |true=>
        simp only [if_true] at he;split at he
        ·rename_i v ps h1;split at h1
         ·simp at h1;obtain ⟨_,rfl⟩:=h1;exact he.1
         ·cases h1
        ·exact he.elim
       |false=>
        simp only [Bool.false_eq_true,if_false] at he;split at he
        ·rename_i v ps h1;split at h1
         ·simp at h1;obtain ⟨_,rfl⟩:=h1;exact he.1
         ·cases h1
        ·exact he.elim
      |map a b c=>exact he.elim
      |arr a=>exact he.elim
      |iter a b c d=>exact he.elim
      |gro _ _=>exact he.elim
      |yu _=>exact he.elim
      |y9 _=>exact he.elim
      |Wl _ _=>exact he.elim
    rw [←this];exact he
   |fpt k i o=>
    simp only at he⊢
    have:zi st.s.sto k=zi st'.s.sto k:=by
     cases ha:zi st.s.sto k with
     |none=>rw [ha] at he;exact he.elim
     |some ob=>
      rw [←ha];rw [ha] at he;refine hkt k ⟨p,?_,.inr (.inr (.inl ⟨i,o,hv⟩))⟩ (by rw [ha];simp)
      cases ob with
      |yu os=>
       simp only at he
       cases hos:os[i]? with
       |none=>rw [hos] at he;exact he.elim
       |some cs=>
        rw [hos] at he;simp only at he
        cases ag with
        |true=>
         simp only [if_true] at he;split at he
         ·rename_i v ps h1;split at h1
          ·simp at h1;obtain ⟨_,rfl⟩:=h1;exact he.1
          ·cases h1
         ·exact he.elim
        |false=>
         simp only [Bool.false_eq_true,if_false] at he;split at he
         ·rename_i v ps h1;split at h1
          ·simp at h1;obtain ⟨_,rfl⟩:=h1;exact he.1
          ·cases h1
         ·exact he.elim
      |_=>exact he.elim
    rw [←this];exact he
   |gpt k ver o=>
    simp only at he⊢
    have:zi st.s.sto k=zi st'.s.sto k:=by
     cases ha:zi st.s.sto k with
     |none=>rw [ha] at he;exact he.elim
     |some ob=>
      rw [←ha];rw [ha] at he
      cases ob with
      |gro w cs=>
       simp only at he
       have hpp:Z7 (p++[decide (0<w),decide (ver=w)]):=by
        cases ag with
        |true=>
         simp only [if_true] at he;split at he
         ·rename_i v ps h1;split at h1
          ·simp at h1;obtain ⟨_,rfl⟩:=h1;simpa using he.1
          ·cases h1
         ·exact he.elim
        |false=>
         simp only [Bool.false_eq_true,if_false] at he;split at he
         ·rename_i v ps h1;split at h1
          ·simp at h1;obtain ⟨_,rfl⟩:=h1;simpa using he.1
          ·cases h1
         ·exact he.elim
       have hm:=wP hpp;have m1:=zDT (hm (decide (0<w)) (by simp));have m2:=zDT (hm (decide (ver=w)) (by simp));exact hkt k ⟨p,Wq hpp,.inr (.inr (.inr (.inl ⟨ver,o,by omega,hv⟩)))⟩ (by rw [ha];simp)
      |_=>exact he.elim
    rw [←this];exact he
   |t z=>cases z<;>exact he
   |_=>exact he
 ·rename_i ks kag zv ok t y hg hop;simp only at hg hop;subst hg;subst hop;have ht:=h t (by simp [AO.reads,AOp.z9,NOp.z9,Ar.z9]);have hy:rd true st y=rd true st' y:=ZT fun s hs=>h s (by simp [AO.reads,AOp.z9,NOp.z9,hs]);have hkt:=hk t (by simp [AO.reads,AOp.z9,NOp.z9,Ar.z9]);have e1:rd true st (.s t)=(look st.env t).un true:=rfl
  have e2:rd true st' (.s t)=(look st.env t).un true:=by rw [ht];rfl
  have e3:Ar.v st' (.s t)=look st.env t:=by rw [ht];rfl
  have e4:Ar.v st (.s t)=look st.env t:=rfl;simp only [evO,evU,evX,yf,QA,or_false,Za,zh,Zr,←hy,e1,e2,e3,e4] at he⊢;generalize look st.env t=v at*
  cases hv:v.un true with
  |mk x p=>
   rw [hv] at he
   cases hyv:rd true st y with
   |mk vk p2=>
    simp only [hyv] at he⊢
    cases hc:q7 ks kag vk with
    |none=>simp only [hc] at he
    |some cs=>
     simp only [hc] at he⊢
     cases x with
     |mp k=>
      simp only at he⊢
      have:zi st.s.sto k=zi st'.s.sto k:=by
       cases ha:zi st.s.sto k with
       |none=>rw [ha] at he;exact he.elim
       |some ob=>
        rw [←ha];rw [ha] at he;refine hkt k ⟨p,?_,.inr (.inl hv)⟩ (by rw [ha];simp)
        cases ob with
        |map a es c=>
         simp only at he
         cases hm:z3t cs es with
         |some w=>rw [hm] at he;exact Wq he.1
         |none=>rw [hm] at he;exact Wq he.1
        |cells a=>exact he.elim
        |arr a=>exact he.elim
        |iter a b c d=>exact he.elim
        |gro _ _=>exact he.elim
        |yu _=>exact he.elim
        |y9 _=>exact he.elim
        |Wl _ _=>exact he.elim
      rw [←this];exact he
     |t z=>cases z<;>exact he
     |_=>exact he
 ·rename_i sz t y hg hop;simp only at hg hop;subst hg;subst hop;have ht:=h t (by simp [AO.reads,AOp.z9,Ar.z9]);have hy:rd true st y=rd true st' y:=ZT fun s hs=>h s (by simp [AO.reads,AOp.z9,hs]);have hkt:=hk t (by simp [AO.reads,AOp.z9,Ar.z9]);have e1:rd true st (.s t)=(look st.env t).un true:=rfl
  have e2:rd true st' (.s t)=(look st.env t).un true:=by rw [ht];rfl
  have e3:Ar.v st' (.s t)=look st.env t:=by rw [ht];rfl
  have e4:Ar.v st (.s t)=look st.env t:=rfl;simp only [evO,evU,evX,z6V,or_false,Za,zh,←hy,e1,e2,e3,e4] at he⊢;generalize look st.env t=v at*
  cases hv:v.un true with
  |mk x p=>
   rw [hv] at he
   cases hyv:rd true st y with
   |mk vk p2=>
    simp only [hyv] at he⊢
    cases x with
    |gsl k ver off len sz'=>
     cases vk with
     |t z=>
      cases z with
      |int kd z=>
       simp only at he⊢
       have:zi st.s.sto k=zi st'.s.sto k:=by
        cases ha:zi st.s.sto k with
        |none=>rw [ha] at he;exact he.elim
        |some ob=>
         rw [←ha];rw [ha] at he
         cases ob with
         |gro w cs=>
          simp only at he
          have hpp:Z7 (p++(p2++[decide (0<=z),decide (z<(len:Int)),decide (0<w),decide (ver=w)])):=by
           split at he
           ·rename_i v ps h1;split at h1
            ·simp at h1;obtain ⟨_,rfl⟩:=h1;simpa using he.1
            ·cases h1
           ·exact he.elim
          have hm:=wP hpp;have m1:=zDT (hm (decide (0<w)) (by simp));have m2:=zDT (hm (decide (ver=w)) (by simp));exact hkt k ⟨p,Wq hpp,.inr (.inr (.inr (.inr ⟨ver,off,len,sz',by omega,hv⟩)))⟩ (by rw [ha];simp)
         |_=>exact he.elim
       rw [←this];exact he
      |_=>exact he
     |_=>exact he
    |_=>
     cases vk with
     |t z=>cases z<;>exact he
     |_=>exact he
 ·rename_i off t hg hop;simp only at hg hop;subst hg;subst hop;have ht:=h t (by simp [AO.reads,AOp.z9,Ar.z9]);have hkt:=hk t (by simp [AO.reads,AOp.z9,Ar.z9]);have e1:rd true st (.s t)=(look st.env t).un true:=rfl
  have e2:rd true st' (.s t)=(look st.env t).un true:=by rw [ht];rfl
  have e3:Ar.v st' (.s t)=look st.env t:=by rw [ht];rfl
  have e4:Ar.v st (.s t)=look st.env t:=rfl;simp only [evO,evU,evX,z7Y,or_false,Za,zh,e1,e2,e3,e4] at he⊢;generalize look st.env t=v at*
  cases hv:v.un true with
  |mk x p=>
   rw [hv] at he
   cases x with
   |gpt k ver o=>
    simp only at he⊢
    have:zi st.s.sto k=zi st'.s.sto k:=by
     cases ha:zi st.s.sto k with
     |none=>rw [ha] at he;exact he.elim
     |some ob=>
      rw [←ha];rw [ha] at he
      cases ob with
      |gro w cs=>
       simp only at he
       have hpp:Z7 (p++[decide (0<w),decide (ver=w)]):=by simpa using he.1
       have hm:=wP hpp;have m1:=zDT (hm (decide (0<w)) (by simp));have m2:=zDT (hm (decide (ver=w)) (by simp));exact hkt k ⟨p,Wq hpp,.inr (.inr (.inr (.inl ⟨ver,o,by omega,hv⟩)))⟩ (by rw [ha];simp)
      |_=>exact he.elim
    rw [←this];exact he
   |t z=>cases z<;>exact he
   |_=>exact he
 ·cases hn
theorem z74 {ao:AO} {base:Nat} {st:St} {out:Out} {o:Oper} {i:Nat} (ho:ops[i]?=some o) (hres:z3v P ops o=some ao) (hn:ao.wq=true) (h:evO P base st ao (· =out)) {C:Ctx} {Λ:L} {a:Act} {next:Act->World->Prop} {Q:Exit->Act->World->Prop} (hC:C.P=P) (hr:Rel C Λ st a)
  (hle:base+out.n<=Λ.nxt) (hfree:∀k,base<=k->k<base+out.n->k<Λ.nxt/\y3 Λ k/\zi st.s.sto k=none)
  (hnext:∀v Λ',Kp Λ Λ'->Λ'.nxt=Λ.nxt->Z5 Λ' (st.s.app out)->zu Λ' v out.v->(∀k,y3 Λ k->zi st.s.sto k=none->(base+out.n<=k∨k<base)->y3 Λ' k)->next (a.put o.dst v) Λ'.w):
  ao.dst=o.dst/\wpOp P ops Q i next a Λ.w:=by
 obtain ⟨dst,g,op⟩:=ao
 have hg:g=none:=by
  unfold AO.wq at hn;split at hn
  ·rename_i h1 _;exact h1
  ·rename_i h1 _;exact h1
  ·rename_i h1 _;exact h1
  ·rename_i h1 _;exact h1
  ·cases hn
 subst hg
 have hev:∃v ps,zh true st op=some (v,ps)/\Z7 ps/\({v:=v,rd:=Za st op}:Out)=out:=by
  simp only [evO,evU] at h;split at h
  ·rename_i v ps he;exact ⟨v,ps,he,h.1,h.2⟩
  ·unfold AO.wq at hn;split at hn
   ·rename_i hop;simp only at hop;subst hop;exact (h.elim (fun h=>h) z7h.1).elim
   ·rename_i hop;simp only at hop;subst hop;exact (h.elim (fun h=>h) QA.1).elim
   ·rename_i hop;simp only at hop;subst hop;exact (h.elim (fun h=>h) z6V.1).elim
   ·rename_i hop;simp only at hop;subst hop;exact (h.elim (fun h=>h) z7Y.1).elim
   ·cases hn
 obtain ⟨v,ps,h1,h2,rfl⟩:=hev;unfold z3v at hres;split at hres
 ·simp at hres
 ·rename_i aop hop;split at hres
  ·rename_i hg;simp only [Option.some.injEq,AO.mk.injEq] at hres;obtain ⟨e1,_,e2⟩:=hres;subst e2;refine ⟨e1.symm,?_⟩
   have hw:Region.wanted o (yielded ops a.tmps)=true:=by simp [Region.wanted,hg]
   simp only [wpOp,ho,hw,if_true];refine .inl ?_
   exact Z0.zfj (r:=false) (base:=base) (z0M hop h1 (wP h2)) C Λ a next Q hC hr hle hfree (fun u Λ' k1 k2 k3 k4 k5=>hnext u Λ' k1 k2 k3 k4 fun k f1 f2 hc=>k5 k f1 f2 (by
    rcases hc with hc|hc
    ·exact .inl hc
    ·exact .inr ⟨hc,rfl⟩))
  ·split at hres
   ·simp at hres
   ·cases hres
theorem z8U {ao:AO} {base:Nat} {st:St} {out:Out} (hn:ao.wq=true) (h:evO P base st ao (· =out)):out.ob=[]:=by
 obtain ⟨dst,g,op⟩:=ao
 have hg:g=none:=by
  unfold AO.wq at hn;split at hn
  ·rename_i h1 _;exact h1
  ·rename_i h1 _;exact h1
  ·rename_i h1 _;exact h1
  ·rename_i h1 _;exact h1
  ·cases hn
 subst hg;simp only [evO,evU] at h;split at h
 ·rw [←h.2]
 ·unfold AO.wq at hn;split at hn
  ·rename_i hop;simp only at hop;subst hop;exact (h.elim (fun h=>h) z7h.1).elim
  ·rename_i hop;simp only at hop;subst hop;exact (h.elim (fun h=>h) QA.1).elim
  ·rename_i hop;simp only at hop;subst hop;exact (h.elim (fun h=>h) z6V.1).elim
  ·rename_i hop;simp only at hop;subst hop;exact (h.elim (fun h=>h) z7Y.1).elim
  ·cases hn
theorem z7S {ao:AO} {base:Nat} {st:St} {out:Out} {o:Oper} {i:Nat} (ho:ops[i]?=some o) (hres:z3v P ops o=some ao) (h:evO P base st ao (· =out)) {C:Ctx} {Λ:L} {a:Act} {next:Act->World->Prop} {Q:Exit->Act->World->Prop} (hC:C.P=P) (hr:Rel C Λ st a)
  (hdst:∀(j:Nat) (p:Oper) (d:Nat),ops[j]?=some p->p.dst=some d->d<C.n)
  (hle:base+out.n<=Λ.nxt) (hfree:∀k,base<=k->k<base+out.n->k<Λ.nxt/\y3 Λ k/\zi st.s.sto k=none)
  (hnext:∀v Λ',Kp Λ Λ'->Λ'.nxt=Λ.nxt->Z5 Λ' (st.s.app out)->zu Λ' v out.v->(∀k,y3 Λ k->zi st.s.sto k=none->(base+out.n<=k∨(k<base/\(out.rd=false∨ao.wq=true)))->y3 Λ' k)->next (a.put o.dst v) Λ'.w):
  ao.dst=o.dst/\wpOp P ops Q i next a Λ.w:=by
 cases hn:ao.wq with
 |true=>
  refine z74 ho hres hn h hC hr hle hfree fun v Λ' k1 k2 k3 k4 k5=>hnext v Λ' k1 k2 k3 k4 fun k f1 f2 hc=>k5 k f1 f2 ?_
  rcases hc with hc|hc
  ·exact .inl hc
  ·exact .inr hc.1
 |false=>
  refine z0X ho hres h hC hr hdst hle hfree fun v Λ' k1 k2 k3 k4 k5=>hnext v Λ' k1 k2 k3 k4 fun k f1 f2 hc=>k5 k f1 f2 ?_
  rcases hc with hc|⟨hc,hd⟩
  ·exact .inl hc
  ·rcases hd with hd|hd
   ·exact .inr ⟨hc,hd⟩
   ·rw [hn] at hd;cases hd
theorem z2c {D D':Nat->Bool} {k:Nat}:∀(r:List AO) (os:List Out) (i:Nat) (s s':St),(∀j o,os[j]?=some o->(∃x,(k,x)∈o.ob)->D (i+j)=D' (i+j))->zi s.s.sto k=zi s'.s.sto k->zi (stD D i s r os).s.sto k=zi (stD D' i s' r os).s.sto k
 |[],os,i,s,s',h,e=>by cases os<;>exact e
 |ao::r,[],i,s,s',h,e=>e
 |ao::r,o::os,i,s,s',h,e=>by
  simp only [stD]
  refine z2c r os (i+1) _ _ (fun j a hj hd=>by have:=h (j+1) a (by simpa using hj) hd;rw [Nat.add_assoc,Nat.add_comm 1 j];exact this) ?_
  by_cases hob:∃x,(k,x)∈o.ob
  ·have:=h 0 o rfl hob;simp only [Nat.add_zero] at this;rw [this];split
   ·exact Ye o.ob _ _ k hob
   ·exact e
  ·have key2:∀(b:Bool) (u:St),zi (if b then u.app ao.dst o else u).s.sto k=zi u.s.sto k:=by
    intro b u;cases b
    ·rfl
    ·exact Z9 o.ob _ k fun x hx=>hob ⟨x,hx⟩
   rw [key2,key2];exact e
theorem z6f {D:Nat->Bool} {k:Nat}:∀(r:List AO) (os:List Out) (i:Nat) (s:St),zi (stD D i s r os).s.sto k≠none->zi s.s.sto k≠none∨∃(j:Nat) (o:Out),os[j]?=some o/\j<r.length/\D (i+j)=true/\∃x,(k,x)∈o.ob
 |[],os,i,s,h=>by cases os<;>exact .inl h
 |ao::r,[],i,s,h=> .inl h
 |ao::r,o::os,i,s,h=>by
  simp only [stD] at h
  rcases z6f r os (i+1) _ h with h|⟨j,p,h1,h2,h3,h4⟩
  ·by_cases hD:D i=true
   ·by_cases hob:∃x,(k,x)∈o.ob
    ·exact .inr ⟨0,o,rfl,by simp,by simpa using hD,hob⟩
    ·left;simp only [hD,if_true,St.app,S.app] at h;rw [Z9 o.ob _ k fun x hx=>hob ⟨x,hx⟩] at h;exact h
   ·left;simpa [hD] using h
  ·exact .inr ⟨j+1,p,by simpa using h1,by simp;omega,by rw [←Nat.add_assoc,Nat.add_right_comm];exact h3,h4⟩
structure ze0 (ao:AO) (o:Out) (bo:AO) (p:Out):Prop where
 dst:∀x,ao.dst=some x->bo.dst≠some x
 ob:∀k a b,(k,a)∈o.ob->(k,b)∉p.ob
theorem z8g {D:Nat->Bool} {ao:AO} {o:Out}:∀(r:List AO) (os:List Out) (i:Nat) (s:St),(∀j bo p,r[j]?=some bo->os[j]?=some p->D (i+j)=true->ze0 ao o bo p)->
  Eqv (stD D i (s.app ao.dst o) r os) ((stD D i s r os).app ao.dst o)
 |[],os,i,s,h=>by cases os<;>exact Eqv.refl _
 |bo::r,[],i,s,h=>Eqv.refl _
 |bo::r,p::os,i,s,h=>by
  simp only [stD];have ih:=fun u=>z8g (D:=D) (ao:=ao) (o:=o) r os (i+1) u (fun j b q hb hq hD=>h (j+1) b q (by simpa using hb) (by simpa using hq) (by rw [Nat.add_assoc,Nat.add_comm 1 j] at hD;exact hD));by_cases hD:D i=true
  ·simp only [hD,if_true];have hap:=h 0 bo p rfl rfl (by simpa using hD);exact (z8w D r os (i+1) (zbk s hap.dst hap.ob)).trans (ih _)
  ·simp only [hD,Bool.false_eq_true,if_false];exact ih s
theorem z2j {D D':Nat->Bool} {n:Nat} {ao:AO} {o:Out}:∀(r:List AO) (os:List Out) (i:Nat) (s:St),r[n]?=some ao->os[n]?=some o->D (i+n)=false->D' (i+n)=true->(∀j,j≠i+n->D' j=D j)->
  (∀j bo p,r[j]?=some bo->os[j]?=some p->n<j->D (i+j)=true->ze0 ao o bo p)->Eqv (stD D' i s r os) ((stD D i s r os).app ao.dst o)
 |[],os,i,s,h1,_,_,_,_,_=>by simp at h1
 |bo::r,[],i,s,_,h2,_,_,_,_=>by simp at h2
 |bo::r,p::os,i,s,h1,h2,h3,h4,h5,h6=>by
  cases n with
  |zero=>
   simp at h1 h2;subst h1;subst h2;simp only [Nat.add_zero] at h3 h4 h5;simp only [stD,h3,h4,if_true,Bool.false_eq_true,if_false];rw [z5e (D:=D') (D':=D) r os (i+1) _ (fun j h1 _=>h5 j (by omega))];exact z8g r os (i+1) s (fun j b q hb hq hD=>h6 (j+1) b q (by simpa using hb) (by simpa using hq) (by omega) (by rw [Nat.add_assoc,Nat.add_comm 1 j] at hD;exact hD))
  |succ n=>
   simp only [stD,h5 i (by omega)]
   have e:i+1+n=i+(n+1):=by omega
   exact z2j r os (i+1) _ (by simpa using h1) (by simpa using h2) (by rw [e];exact h3) (by rw [e];exact h4) (fun j hj=>h5 j (by omega)) (fun j b q hb hq hlt hD=>h6 (j+1) b q (by simpa using hb) (by simpa using hq) (by omega) (by rw [Nat.add_assoc,Nat.add_comm 1 j] at hD;exact hD))
theorem Ch.at:∀{r:List AO} {os:List Out} {i base:Nat} {s:St} {b':Nat} {s':St},Ch P base s r os b' s'->r.length=os.length/\b'=base+wc os/\s'=stD (fun _=>true) i s r os/\
  ∀(j:Nat) (ao:AO) (o:Out),r[j]?=some ao->os[j]?=some o->evO P (base+wc (os.take j)) (stD (fun l=>decide (l<i+j)) i s r os) ao (· =o)
 |[],[],i,base,s,b',s',h=>by obtain ⟨rfl,rfl⟩:=h;exact ⟨rfl,rfl,rfl,by simp⟩
 |ao::r,o::os,i,base,s,b',s',h=>by
  obtain ⟨h1,h2⟩:=h;obtain ⟨i1,i2,i3,i4⟩:=Ch.at (i:=i+1) h2
  refine ⟨by simp [i1],by simp only [wc];omega,by simp only [stD,if_true];exact i3,fun j a p ha hp=>?_⟩
  cases j with
  |zero=>
   simp at ha hp;subst ha;subst hp
   have:stD (fun l=>decide (l<i+0)) i s (ao::r) (o::os)=s:=qO _ _ _ _ (fun j hj=>by simp;omega)
   rw [this];simpa [wc] using h1
  |succ j=>
   have:=i4 j a p (by simpa using ha) (by simpa using hp)
   have e1:base+o.n+wc (os.take j)=base+wc ((o::os).take (j+1)):=by simp [wc];omega
   have e2:i+1+j=i+(j+1):=by omega
   rw [e1,e2] at this
   have e3:decide (i<i+(j+1))=true:=by simp
   simp only [stD,e3,if_true];exact this
 |[],_::_,_,_,_,_,_,h=>h.elim
 |_::_,[],_,_,_,_,_,h=>h.elim
end
section
variable {P:Program} {ops:Array Oper}
theorem z4h (f:Nat->Nat) (x:Nat):∀(l:List Nat) (s:Nat),(l.foldl (fun s j=>s|||f j) s).testBit x=(s.testBit x||l.any fun j=>(f j).testBit x)
 |[],s=>by simp
 |j::r,s=>by simp only [List.foldl_cons,List.any_cons];rw [z4h f x r];simp [Nat.testBit_or,Bool.or_assoc]
theorem z2O {D:Nat->Bool} {after:List (List Nat)} (hcl:∀i,D i=true->∀j∈after.getD i [],D j=true):∀(suf pre:List (List Nat)) (acc:List Nat),after=pre++suf->acc.length=pre.length->
  (∀i,(∀j∈after.getD i [],D j=true)->∀j,(acc.getD i 0).testBit j=true->D j=true)->∀i,(∀j∈after.getD i [],D j=true)->∀j,((z5w suf acc).getD i 0).testBit j=true->D j=true
 |[],pre,acc,_,_,h=>h
 |l::suf,pre,acc,e,hl,h=>by
  refine z2O hcl suf (pre++[l]) _ (by simp [e]) (by simp [hl]) fun i hi j hj=>?_;by_cases h1:i<acc.length
  ·rw [List.getD_eq_getElem?_getD,List.getElem?_append_left h1,←List.getD_eq_getElem?_getD] at hj;exact h i hi j hj
  ·by_cases h2:i=acc.length
   ·subst h2;rw [List.getD_eq_getElem?_getD,List.getElem?_append_right (Nat.le_refl _)] at hj;simp only [Nat.sub_self,List.getElem?_cons_zero,Option.getD_some] at hj;rw [z4h (fun j=>2 ^ j|||acc.getD j 0)] at hj;simp only [Nat.zero_testBit,Bool.false_or,List.any_eq_true] at hj;obtain ⟨q,hq,hb⟩:=hj
    have hlq:after.getD acc.length []=l:=by rw [e,hl,List.getD_eq_getElem?_getD];simp
    rw [hlq] at hi;have hDq:=hi q hq;simp only [Nat.testBit_or,Bool.or_eq_true,Nat.testBit_two_pow,decide_eq_true_eq] at hb
    rcases hb with rfl|hb
    ·exact hDq
    ·exact h q (hcl q hDq) j hb
   ·rw [List.getD_eq_getElem?_getD,List.getElem?_eq_none (by simp;omega)] at hj;simp at hj
theorem zcE {st:St} {op:NOp} {out:Out} (h:yf st (· =out) op):out.rd=true:=by
 unfold yf at h;split at h
 ·split at h
  ·split at h
   ·obtain ⟨_,rfl⟩:=h;rfl
   ·exact h.elim
  ·exact h.elim
 ·split at h
  ·split at h
   ·obtain ⟨_,rfl⟩:=h;rfl
   ·exact h.elim
  ·exact h.elim
 ·split at h
  ·split at h
   ·subst h;rfl
   ·exact h.elim
  ·exact h.elim
 ·split at h
  ·split at h
   ·split at h
    ·split at h
     ·obtain ⟨_,rfl⟩:=h;rfl
     ·exact h.elim
    ·obtain ⟨_,rfl⟩:=h;rfl
   ·exact h.elim
  ·exact h.elim
 ·split at h
  ·split at h
   ·split at h
    ·subst h;rfl
    ·exact h.elim
   ·exact h.elim
  ·exact h.elim
 ·exact h.elim
theorem zdR {base:Nat} {st:St} {aop:AOp} {out:Out} (h:evX P base st (· =out) aop) (hr:out.rd=false):∀k o,(k,o)∈out.ob->base<=k/\k<base+out.n:=by
 have fnev:∀{f:FuncId} {vs:List V} {sto:List (Nat×z6)},QP P f vs base sto (· =out)->∀k o,(k,o)∈out.ob->base<=k/\k<base+out.n:=by
  intro f vs sto h k o hk;obtain ⟨out',h1,rfl⟩:=h;rw [hr] at h1;simp only [Bool.false_eq_true,if_false] at h1
  rcases (h1 []).2.1 k o hk with h|h
  ·simp [zi] at h
  ·exact h
 have fnevS:∀{f:FuncId} {vs:List V} {sto:List (Nat×z6)},qi P f vs base sto (· =out)->∀k o,(k,o)∈out.ob->base<=k/\k<base+out.n:=by
  intro f vs sto h k o hk;obtain ⟨out',h1,rfl⟩:=h;rw [hr] at h1;simp only [Bool.false_eq_true,if_false] at h1
  rcases (h1 []).2.1 k o hk with h|h
  ·simp [zi] at h
  ·exact h
 unfold evX at h;split at h
 ·split at h
  ·split at h
   ·split at h
    ·obtain ⟨_,rfl⟩:=h;simp at hr
    ·exact h.elim
   ·exact h.elim
  ·exact h.elim
 ·split at h
  ·obtain ⟨_,rfl⟩:=h;intro j ob hj;simp at hj;simp;omega
  ·exact h.elim
 ·subst h;intro j ob hj;simp at hj;simp;omega
 ·split at h
  ·obtain ⟨_,h⟩:=h;split at h
   ·rcases h with h|h
    ·split at h
     ·subst h;intro j ob hj;simp at hj
     ·subst h;intro j ob hj;simp at hj;simp;omega
    ·subst h;intro j ob hj;simp at hj
   ·subst h;intro j ob hj;simp at hj
  ·exact h.elim
 ·split at h
  ·split at h
   ·obtain ⟨_,_,_,rfl⟩:=h;intro j ob hj;simp at hj;simp;omega
   ·split at h
    ·obtain ⟨_,_,_,_,_,rfl⟩:=h;simp at hr
    ·exact h.elim
   ·exact h.elim
  ·exact h.elim
 ·split at h
  ·obtain ⟨_,rfl⟩:=h;intro j ob hj;simp at hj;simp;omega
  ·exact h.elim
 ·exact fnev h
 ·split at h
  ·exact fnevS h
  ·exact fnevS h
  ·exact h.elim
 ·subst h;intro j ob hj;simp at hj;simp;omega
 ·split at h
  ·split at h
   ·subst h;simp at hr
   ·exact h.elim
  ·exact h.elim
 ·split at h
  ·subst h;simp at hr
  ·split at h
   ·subst h;simp at hr
   ·exact h.elim
  ·exact h.elim
 ·rename_i op;exact absurd hr (by rw [zcE h];simp)
 ·exact h.elim
theorem z6h {base:Nat} {st:St} {aop:AOp} {out:Out} (h:evX P base st (· =out) aop∨evY base st (· =out) aop) (hr:out.rd=false):∀k o,(k,o)∈out.ob->base<=k/\k<base+out.n:=by
 rcases h with h|⟨o',h,rfl⟩
 ·exact zdR h hr
 ·cases h with
  |z9D _=>intro j ob hj;simp at hj;simp;omega
  |_=>simp at hr
theorem z4x {base:Nat} {st:St} {ao:AO} {out:Out} (h:evO P base st ao (· =out)) (hr:out.rd=false):∀k o,(k,o)∈out.ob->base<=k/\k<base+out.n:=by
 unfold evO at h;split at h
 ·unfold evU at h;split at h
  ·obtain ⟨_,rfl⟩:=h;intro j ob hj;simp at hj
  ·exact z6h h hr
 ·split at h
  ·exact h.elim
  ·rename_i gc _;split at h
   ·obtain ⟨_,rfl⟩:=h;intro j ob hj;simp at hj
   ·rcases h with h|h
    ·unfold qo at h;split at h
     ·obtain ⟨out0,_,⟨k2,_⟩,rfl⟩:=h;intro j ob hj;simp [k2] at hj
     ·exact h.elim
    cases gc with
    |true=>exact z6h (h.1 rfl) hr
    |false=>have:=h.2 rfl;subst this;intro j ob hj;simp at hj
theorem Ws:∀(os:List Out) (j:Nat) (o:Out),os[j]?=some o->(flags os).getD j (false,false)=(o.rd,!o.ob.isEmpty||decide (0<o.n))
 |[],j,o,h=>by simp at h
 |p::r,0,o,h=>by simp at h;subst h;rfl
 |p::r,j+1,o,h=>by simp only [flags,List.getD_cons_succ];exact Ws r j o (by simpa using h)
theorem wC:∀(os:List Out) (j:Nat) (o:Out),os[j]?=some o->wc (os.take (j+1))=wc (os.take j)+o.n
 |[],j,o,h=>by simp at h
 |p::r,0,o,h=>by simp at h;subst h;simp [wc]
 |p::r,j+1,o,h=>by have:=wC r j o (by simpa using h);simp [wc,this];omega
theorem yt:∀(os:List Out) (i j:Nat),i<=j->wc (os.take i)<=wc (os.take j)
 |[],i,j,_=>by simp
 |p::r,0,j,_=>by simp [wc]
 |p::r,i+1,0,h=>by omega
 |p::r,i+1,j+1,h=>by have:=yt r i j (by omega);simp [wc];omega
theorem z4P (os:List Out) (j:Nat):wc (os.take j)<=wc os:=by
 rcases Nat.le_total j os.length with h|h
 ·have:=yt os j os.length h;rwa [List.take_length] at this
 ·rw [List.take_of_length_le h];exact Nat.le_refl _
def dOf (listed:Array Bool):Nat->Bool:=fun j=>listed.getD j false
theorem zcZ (listed:Array Bool) {i:Nat} (hi:i<listed.size) (j:Nat):dOf (listed.setIfInBounds i true) j=if j=i then true else dOf listed j:=by
 unfold dOf;simp only [Array.getD_eq_getD_getElem?,Array.getElem?_setIfInBounds];by_cases e:i=j
 ·subst e;simp [hi]
 ·simp [e,Ne.symm e]
theorem mem_ready {listed:Array Bool} (hs:listed.size=ops.size) {i:Nat}:i∈Region.ready .any ops listed↔i<ops.size/\dOf listed i=false/\∀j∈(w4 ops).getD i [],dOf listed j=true:=by
 unfold Region.ready;rw [List.mem_filter,List.mem_range];refine ⟨fun ⟨h1,h2⟩=>⟨h1,?_⟩,fun ⟨h1,h2,h3⟩=>⟨h1,?_⟩⟩
 all_goals
  have ho:ops[i]?=some ops[i]:=by simp [h1]
  have hg:(w4 ops).getD i []=(ops[i].after.toList.filter (Region.binds .any)).map (·.on):=by
   unfold w4;rw [List.getD_eq_getElem?_getD,List.getElem?_map];simp [h1]
 ·rw [ho] at h2;simp only [Option.map_some,Option.getD_some,Bool.and_eq_true,Bool.not_eq_true',Array.all_eq_true'] at h2;refine ⟨?_,fun j hj=>?_⟩
  ·unfold dOf;have:=h2.1;simp only [Array.getD_eq_getD_getElem?] at this⊢;rw [Array.getElem?_eq_getElem (by omega)] at this⊢;simpa using this
  ·rw [hg,List.mem_map] at hj;obtain ⟨e,he,rfl⟩:=hj;rw [List.mem_filter] at he;have:=h2.2 e (by simpa using he.1);simp only [he.2,Bool.not_true,Bool.false_or] at this;exact this
 ·rw [ho];simp only [Option.map_some,Option.getD_some,Bool.and_eq_true,Bool.not_eq_true',Array.all_eq_true'];refine ⟨?_,fun e he=>?_⟩
  ·unfold dOf at h2;simp only [Array.getD_eq_getD_getElem?] at h2⊢;rw [Array.getElem?_eq_getElem (by omega)] at h2⊢;simpa using h2
  ·by_cases hb:Region.binds .any e=true
   ·have:=h3 e.on (by rw [hg,List.mem_map];exact ⟨e,by rw [List.mem_filter];exact ⟨by simpa using he,hb⟩,rfl⟩);unfold dOf at this;simp [this]
   ·simp [hb]
def unl (D:Nat->Bool):Nat->Nat
 |0=>0
 |n+1=>unl D n+(if D n then 0 else 1)
theorem z6c {D:Nat->Bool}:∀{n:Nat},unl D n=0->∀j,j<n->D j=true
 |0,_,j,h=>by omega
 |n+1,h,j,hj=>by
  simp only [unl] at h;by_cases e:j=n
  ·subst e;by_cases hd:D j=true
   ·exact hd
   ·simp [hd] at h
  ·exact z6c (n:=n) (by omega) j (by omega)
theorem z6G {D D':Nat->Bool}:∀{n:Nat},(∀j,j<n->D' j=D j)->unl D' n=unl D n
 |0,_=>rfl
 |n+1,h=>by simp only [unl,h n (by omega),z6G (n:=n) (fun j hj=>h j (by omega))]
theorem z8p {D D':Nat->Bool} {i:Nat} (hi:D i=false) (hi':D' i=true) (h:∀j,j≠i->D' j=D j):∀{n:Nat},i<n->unl D' n+1=unl D n
 |0,hn=>by omega
 |n+1,hn=>by
  simp only [unl];by_cases e:i=n
  ·subst e;rw [z6G (D:=D) (D':=D') (fun j hj=>h j (by omega))];simp [hi,hi']
  ·have:=z8p hi hi' h (n:=n) (by omega);rw [h n (Ne.symm e)];omega
theorem z8T {D:Nat->Bool}:∀{n:Nat},(∀j,j<n->D j=false)->unl D n=n
 |0,_=>rfl
 |n+1,h=>by simp [unl,h n (by omega),z8T (n:=n) (fun j hj=>h j (by omega))]
theorem za4 {C:Ctx} (hC:C.P=P) (hd:z8W C ops) {aos:List AO} (hres:z1a P ops ops.toList=some aos) {Q:Exit->Act->World->Prop} {base b' m:Nat} {st st':St} {outs:List Out}
  (hch:Ch P base st aos outs b' st') (hind:indep aos (w4 ops) (flags outs) st'.env=true) (hm:b'<=m) (hno:∀k,base<=k->k<b'->zi st.s.sto k=none) (hq:∀(a':Act) (Λ':L),Rel C Λ' st' a'->Λ'.nxt=m->Q .normal a' Λ'.w):
  ∀(fuel:Nat) (listed:Array Bool) (Λ:L) (a:Act),listed.size=ops.size->unl (dOf listed) ops.size<=fuel->(∀i,dOf listed i=true->∀j∈(w4 ops).getD i [],dOf listed j=true)->
   Rel C Λ (stD (dOf listed) 0 st aos outs) a->Λ.nxt=m->
   (∀i o,outs[i]?=some o->dOf listed i=false->∀k,base+wc (outs.take i)<=k->k<base+wc (outs.take (i+1))->y3 Λ k/\zi (stD (dOf listed) 0 st aos outs).s.sto k=none)->
   wpAny P .any ops Q fuel listed a Λ.w:=by
 obtain ⟨hlen,hat⟩:=qt hres;obtain ⟨hlo,hb',hst',hev⟩:=Ch.at (i:=0) hch
 have hn:aos.length=ops.size:=by rw [←hlen];simp
 simp only [indep,Bool.and_eq_true,List.all_eq_true,decide_eq_true_eq] at hind;obtain ⟨hlt,hpair⟩:=hind
 have hafter:∀i,∀j∈(w4 ops).getD i [],j<i:=by
  intro i j hj;rw [List.getD_eq_getElem?_getD] at hj
  cases hg:(w4 ops)[i]? with
  |none=>rw [hg] at hj;simp at hj
  |some l=>
   rw [hg] at hj;have:=hlt (l,i) (by rw [List.mem_zipIdx_iff_getElem?];simpa using hg) j (by simpa using hj);exact this
 have hpre:∀(i:Nat),i<=outs.length->∀k,zi (stD (fun l=>decide (l<i)) 0 st aos outs).s.sto k≠none->zi st.s.sto k≠none∨k<base+wc (outs.take i):=by
  intro i
  induction i using Nat.strongRecOn with
  |_ i ih=>
   intro hi k hk
   rcases z6f aos outs 0 st hk with h|⟨j,o,h1,h2,h3,x,h4⟩
   ·exact .inl h
   ·simp only [Nat.zero_add,decide_eq_true_eq] at h3;have hoj:=hev j aos[j] o (by simp [h2]) h1;simp only [Nat.zero_add] at hoj
    rcases Qb hoj k x h4 with h|⟨_,h⟩
    ·rcases ih j h3 (by omega) k h with h|h
     ·exact .inl h
     ·right;have:=yt outs j i (by omega);omega
    ·right;have:=wC outs j o h1;have:=yt outs (j+1) i (by omega);omega
 have hall:∀(listed:Array Bool),listed.size=ops.size->Region.ready .any ops listed=[]->∀i,i<ops.size->dOf listed i=true:=by
  intro listed hs hr i
  induction i using Nat.strongRecOn with
  |_ i ih=>
   intro hi
   cases hD:dOf listed i with
   |true=>rfl
   |false=>
    exfalso;have:i∈Region.ready .any ops listed:=(mem_ready hs).2 ⟨hi,hD,fun j hj=>ih j (hafter i j hj) (by have:=hafter i j hj;omega)⟩;rw [hr] at this;simp at this
 have hfin:∀(listed:Array Bool) (Λ:L) (a:Act),(∀i,i<ops.size->dOf listed i=true)->Rel C Λ (stD (dOf listed) 0 st aos outs) a->Λ.nxt=m->Q .normal a Λ.w:=by
  intro listed Λ a hl hr hx;refine hq a Λ ?_ hx;rw [z5e (D':=fun _=>true) aos outs 0 st (fun j _ hj=>hl j (by omega)),←hst'] at hr;exact hr
 intro fuel
 induction fuel with
 |zero=>
  intro listed Λ a hs hu hcl hr hx _;have hl:=z6c (Nat.le_zero.1 hu);refine ⟨?_,hfin listed Λ a hl hr hx⟩
  cases hrd:Region.ready .any ops listed with
  |nil=>rfl
  |cons i r=>
   have:i∈Region.ready .any ops listed:=by rw [hrd];simp
   obtain ⟨h1,h2,_⟩:=(mem_ready hs).1 this;rw [hl i h1] at h2;cases h2
 |succ fuel ih=>
  intro listed Λ a hs hu hcl hr hx hfr;refine ⟨fun h0=>hfin listed Λ a (hall listed hs h0) hr hx,fun i hi=>?_⟩;obtain ⟨hi1,hi2,hi3⟩:=(mem_ready hs).1 hi
  have hanc:=z2O hcl (w4 ops) [] [] rfl rfl (fun i _ j hj=>by simp at hj)
  have hia:i<aos.length:=by omega
  have hio:i<outs.length:=by omega
  have hao:aos[i]?=some aos[i]:=by simp [hia]
  have hou:outs[i]?=some outs[i]:=by simp [hio]
  have ho:ops[i]?=some ops[i]:=by simp [hi1]
  have hro:=hat i ops[i] aos[i] (by simp) hao
  have hord:∀j ao o,aos[j]?=some ao->outs[j]?=some o->j≠i->(decide (j<i)=dOf listed j)∨
    (ao.z1e aos[i]=false/\aos[i].z1e ao=false/\(outs[i].rd&&(!o.ob.isEmpty||decide (0<o.n))&&!(aos[i].wq&&!o.rd)&&!(aos[i].z1k&&!o.rd&&decide (i<j))&&!(z4O aos st'.env i j))=false/\(o.rd&&(!outs[i].ob.isEmpty||decide (0<outs[i].n))&&!(ao.wq&&!outs[i].rd)&&!(ao.z1k&&!outs[i].rd&&decide (j<i))&&!(z4O aos st'.env j i))=false):=by
   intro j ao o hj ho' hne;have hjl:=(List.getElem?_eq_some_iff.1 hj).1
   have e1:aos.getD j ⟨none,none,.cst .top⟩=ao:=by rw [List.getD_eq_getElem?_getD,hj];rfl
   have e2:aos.getD i ⟨none,none,.cst .top⟩=aos[i]:=by rw [List.getD_eq_getElem?_getD,hao];rfl
   have clash_symm:∀x y:AO,x.z1e y=false->y.z1e x=false:=by
    intro x y h;unfold AO.z1e at h⊢;simp only [Bool.or_eq_false_iff] at h⊢;exact ⟨⟨h.1.2,h.1.1⟩,⟨h.2.2,h.2.1⟩⟩
   rcases Nat.lt_or_gt_of_ne hne with hlt|hlt
   ·have hp:=hpair i (List.mem_range.2 hia) j (List.mem_range.2 hlt);unfold z7A at hp;rw [Ws outs j o ho',Ws outs i outs[i] hou,e1,e2] at hp;simp only [Bool.or_eq_true,Bool.and_eq_true,Bool.not_eq_true'] at hp
    rcases hp with hp|⟨⟨h1,h2⟩,h3⟩
    ·left;rw [hanc i hi3 j hp];simpa using hlt
    ·right;refine ⟨h1,clash_symm _ _ h1,?_,?_⟩
     ·rw [show decide (i<j)=false from decide_eq_false (by omega),Bool.and_false,Bool.not_false,Bool.and_true];exact h3
     ·rw [show decide (j<i)=true from decide_eq_true hlt,Bool.and_true];exact h2
   ·have hp:=hpair j (List.mem_range.2 hjl) i (List.mem_range.2 hlt);unfold z7A at hp;rw [Ws outs j o ho',Ws outs i outs[i] hou,e1,e2] at hp;simp only [Bool.or_eq_true,Bool.and_eq_true,Bool.not_eq_true'] at hp
    rcases hp with hp|⟨⟨h1,h2⟩,h3⟩
    ·left
     cases hD:dOf listed j with
     |false=>simp;omega
     |true=>
      have:=hanc j (hcl j hD) i hp;rw [this] at hi2;cases hi2
    ·right;refine ⟨clash_symm _ _ h1,h1,?_,?_⟩
     ·rw [show decide (i<j)=true from decide_eq_true hlt,Bool.and_true];exact h2
     ·rw [show decide (j<i)=false from decide_eq_false (by omega),Bool.and_false,Bool.not_false,Bool.and_true];exact h3
  have hoffs:∀a b:Nat,∀ha:a<aos.length,aos[a].wq=false->z4O aos st'.env a b=false:=by
   intro a b ha hn
   cases ho:z4O aos st'.env a b with
   |false=>rfl
   |true=>
    obtain ⟨k1,q1,g1,_,_⟩:=z5I ho
    have e1:aos.getD a ⟨none,none,.cst .top⟩=aos[a]:=by rw [List.getD_eq_getElem?_getD];simp [ha]
    rw [e1] at g1;rw [(z3R g1).1] at hn;cases hn
  have hend:∀(a t:Nat),a<=aos.length->(∀o∈aos.drop a,o.dst≠some t)->look (stD (fun l=>decide (l<a)) 0 st aos outs).env t=look st'.env t:=by
   intro a t ha hw;rw [hst'];refine z3j aos outs 0 st st (fun j ao hj hdst=>?_) Z;simp only [Nat.zero_add,decide_eq_true_eq];apply Classical.byContradiction;intro hlt;refine hw ao ?_ hdst;rw [List.mem_iff_getElem?];refine ⟨j - a,?_⟩;rw [List.getElem?_drop]
   have:a+(j - a)=j:=by omega
   rw [this];exact hj
  have hself:decide (i<i)=dOf listed i:=by rw [hi2];simp
  have hidx:∀j:Nat,∃o:Out,∀ao:AO,aos[j]?=some ao->outs[j]?=some o:=by
   intro j;by_cases hj:j<outs.length
   ·exact ⟨outs[j],fun _ _=>by simp [hj]⟩
   ·exact ⟨outs[i],fun ao h=>by have:=(List.getElem?_eq_some_iff.1 h).1;omega⟩
  have hevi:=hev i aos[i] outs[i] hao hou;simp only [Nat.zero_add] at hevi
  have hlk:∀t∈aos[i].reads,look (stD (fun l=>decide (l<i)) 0 st aos outs).env t=look (stD (dOf listed) 0 st aos outs).env t:=by
   intro t ht;refine z3j aos outs 0 st st (fun j ao hj hdst=>?_) Z;simp only [Nat.zero_add];by_cases e:j=i
   ·subst e;exact hself
   ·obtain ⟨o,hoo⟩:=hidx j
    rcases hord j ao o hj (hoo ao hj) e with h|⟨h,_⟩
    ·exact h
    ·unfold AO.z1e at h;simp only [Bool.or_eq_false_iff] at h;have:=h.1.1;unfold AO.zeh at this;simp only [hdst,List.contains_eq_mem,decide_eq_false_iff_not] at this;exact (this ht).elim
  have hevD:evO P (base+wc (outs.take i)) (stD (dOf listed) 0 st aos outs) aos[i] (· =outs[i]):=by
   by_cases hrd:outs[i].rd=true
   ·cases hnear:aos[i].wq with
    |false=>
     cases hcall:aos[i].z1k with
     |true=>
      refine zd5 hcall hlk (fun k hk=>?_) hevi;refine (z2c aos outs 0 st st (fun j o hj hob=>?_) Z).symm;simp only [Nat.zero_add];by_cases e:j=i
      ·subst e;exact hself
      ·have hjl:j<aos.length:=by rw [hlo];exact (List.getElem?_eq_some_iff.1 hj).1
       rcases hord j aos[j] o (by simp [hjl]) hj e with h|⟨_,_,h,_⟩
       ·exact h
       ·exfalso;obtain ⟨x,hx⟩:=hob
        have hne:o.ob.isEmpty=false:=by cases hh:o.ob with|nil=>rw [hh] at hx;simp at hx|cons _ _=>rfl
        have hof:=hoffs i j hia hnear;simp [hrd,hne,hnear,hof,hcall] at h;have hoj:=hev j aos[j] o (by simp [hjl]) hj;simp only [Nat.zero_add] at hoj;have n1:=z4x hoj h.1 k x hx;have m1:=yt outs i j (by omega);omega
     |false=>
     refine z3B hlk (.inr (z94 aos outs 0 st st (fun j o hj hob=>?_) Z)) hevi;simp only [Nat.zero_add];by_cases e:j=i
     ·subst e;exact hself
     ·have hjl:j<aos.length:=by rw [hlo];exact (List.getElem?_eq_some_iff.1 hj).1
      rcases hord j aos[j] o (by simp [hjl]) hj e with h|⟨_,_,h,_⟩
      ·exact h
      ·have hof:=hoffs i j hia hnear;simp [hrd,hob,hnear,hof,hcall] at h
    |true=>
     refine z7o hnear hlk hevi fun t ht k hnm hsome=>?_;refine z2c aos outs 0 st st (fun j o hj hob=>?_) Z;simp only [Nat.zero_add];by_cases e:j=i
     ·subst e;exact hself
     ·have hjl:j<aos.length:=by rw [hlo];exact (List.getElem?_eq_some_iff.1 hj).1
      rcases hord j aos[j] o (by simp [hjl]) hj e with h|⟨_,_,h,_⟩
      ·exact h
      ·obtain ⟨x,hx⟩:=hob
       have hne:o.ob.isEmpty=false:=by cases hh:o.ob with|nil=>rw [hh] at hx;simp at hx|cons _ _=>rfl
       cases hof:z4O aos st'.env i j with
       |true=>
        exfalso;obtain ⟨k1,q1,g1,g2,hne1⟩:=z5I hof
        have e1:aos.getD i ⟨none,none,.cst .top⟩=aos[i]:=by rw [List.getD_eq_getElem?_getD,hao];rfl
        have e2:aos.getD j ⟨none,none,.cst .top⟩=aos[j]:=by rw [List.getD_eq_getElem?_getD];simp [hjl]
        rw [e1] at g1;rw [e2] at g2;obtain ⟨_,a1⟩:=z3R g1;obtain ⟨a2,a3⟩:=a1 t ht
        have hk1:k=k1:=by
         obtain ⟨ps,_,hnm⟩:=hnm;rw [hend i t (by omega) a2] at hnm;exact a3 k ps hnm
        have hoj:=hev j aos[j] o (by simp [hjl]) hj;simp only [Nat.zero_add] at hoj
        have hk2:k=q1:=by
         rcases z7H (P:=P) g2 with ⟨t2,b1,b2⟩|⟨d,b0,b1,b2⟩
         ·exact b2 _ _ _ (hend j t2 (by omega) b1) hoj k x hx
         ·refine b2 _ _ _ ?_ hoj k x hx;rw [←hend (j+1) d (by omega) (by rw [←List.tail_drop];exact b1)];have hjo:j<outs.length:=(List.getElem?_eq_some_iff.1 hj).1;have hs:=z5Q aos outs 0 st j aos[j] o (by simp [hjl]) hj;simp only [Nat.zero_add] at hs;rw [hs];simp only [St.app,b0,Yo,if_true]
        exact hne1 (hk1.symm.trans hk2)
       |false=>
        have hord':o.rd=false:=by simpa [hrd,hne,hnear,hof,z7m hnear] using h
        have hoj:=hev j aos[j] o (by simp [hjl]) hj;have n1:=z4x hoj hord' k x hx;have n2:=wC outs j o hj
        cases hD:dOf listed j with
        |false=>
         exfalso;have hf:=(hfr j o hj hD k n1.1 (by omega)).1;have hv:=hr.env t;rw [←hlk t ht] at hv;exact V.z7W hv hnm hf
        |true=>
         simp only [decide_eq_true_eq]
         rcases Nat.lt_or_gt_of_ne e with h|h
         ·exact h
         ·exfalso;have m1:=yt outs i j (by omega);have m2:=z4P outs (j+1)
          rcases hpre i (by omega) k hsome with g|g
          ·exact g (hno k (by omega) (by omega))
          ·omega
   ·exact z3B hlk (.inl (by simpa using hrd)) hevi
  have hdst:aos[i].dst=ops[i].dst:=by
   have:=hro;unfold z3v at this;split at this
   ·cases this
   ·split at this
    ·simp only [Option.some.injEq] at this;rw [←this]
    ·split at this
     ·simp only [Option.some.injEq] at this;rw [←this]
     ·cases this
  have hsucc:=wC outs i outs[i] hou;have hle1:=z4P outs (i+1);refine (z7S ho hro hevD hC hr hd (by omega) (fun k k1 k2=>?_) fun v Λ' k1 k2 k3 k4 k5=>?_).2
  ·obtain ⟨f1,f2⟩:=hfr i outs[i] hou hi2 k k1 (by omega)
   exact ⟨by omega,f1,f2⟩
  ·have hr1:Rel C Λ' ((stD (dOf listed) 0 st aos outs).app aos[i].dst outs[i]) (a.put aos[i].dst v):=hr.step k1 (fun x hx=>hd i _ x ho (by rw [←hdst];exact hx)) k4 k3;have hset:=zcZ listed (i:=i) (by omega)
   have heq:Eqv (stD (dOf (listed.setIfInBounds i true)) 0 st aos outs) ((stD (dOf listed) 0 st aos outs).app aos[i].dst outs[i]):=by
    refine z2j (n:=i) aos outs 0 st hao hou (by simpa using hi2) (by simp [hset]) (fun j hj=>by rw [hset];simp at hj;simp [hj]) (fun j bo p hb hp hlt hD=>?_)
    simp only [Nat.zero_add] at hD
    rcases hord j bo p hb hp (by omega) with h|⟨h1,h2,h3,h4⟩
    ·rw [hD] at h;simp at h;omega
    ·refine ⟨fun x hx hbx=>?_,fun k x y hx hy=>?_⟩
     ·unfold AO.z1e at h2;simp only [Bool.or_eq_false_iff] at h2;have:=h2.2.1;unfold AO.same at this;simp [hx,hbx] at this
     ·have hob:outs[i].ob.isEmpty=false:=by cases hh:outs[i].ob with|nil=>rw [hh] at hx;simp at hx|cons _ _=>rfl
      have hpb:p.ob.isEmpty=false:=by cases hh:p.ob with|nil=>rw [hh] at hy;simp at hy|cons _ _=>rfl
      have hni:aos[i].wq=false:=by
       cases hh:aos[i].wq with
       |false=>rfl
       |true=>have:=z8U hh hevi;rw [this] at hx;simp at hx
      have hnb:bo.wq=false:=by
       cases hh:bo.wq with
       |false=>rfl
       |true=>have:=z8U hh (hev j bo p hb hp);rw [this] at hy;simp at hy
      have hbl:j<aos.length:=(List.getElem?_eq_some_iff.1 hb).1;have hbe:aos[j]=bo:=(List.getElem?_eq_some_iff.1 hb).2;simp only [hpb,hni,hoffs i j hia hni,Bool.not_false,Bool.true_or,Bool.and_true,Bool.false_and] at h3;simp only [hob,hnb,hoffs j i hbl (by rw [hbe];exact hnb),show decide (j<i)=false from decide_eq_false (by omega),Bool.and_false,Bool.not_false,Bool.true_or,Bool.and_true,Bool.false_and] at h4;have n2:=z4x (hev j bo p hb hp) h4 k y hy;have m1:=yt outs (i+1) j (by omega);have m2:=z4P outs (j+1);have m3:=wC outs j p hp
      rcases Qb hevi k x hx with g|⟨_,g⟩
      ·rcases hpre i (by omega) k g with g|g
       ·exact g (hno k (by omega) (by omega))
       ·omega
      ·omega
   have hr2:=hr1.eqv heq.symm;rw [←hdst];have hnm:=Qb hevD;refine ih (listed.setIfInBounds i true) Λ' _ (by simpa using hs) ?_ (fun j hj l hl=>?_) hr2 (by omega) (fun j o hj hD k h1 h2=>?_)
   ·have:=z8p (D:=dOf listed) (D':=dOf (listed.setIfInBounds i true)) (i:=i) hi2 (by simp [hset]) (fun j hj=>by simp [hset,hj]) hi1
    omega
   ·rw [hset] at hj⊢;split
    ·rfl
    ·by_cases e:j=i
     ·subst e;exact hi3 l hl
     ·simp only [e,if_false] at hj;exact hcl j hj l hl
   ·rw [hset] at hD
    have hne:j≠i:=by rintro rfl;simp at hD
    simp only [hne,if_false] at hD;obtain ⟨f1,f2⟩:=hfr j o hj hD k h1 h2
    have hout:k<base+wc (outs.take i)∨base+wc (outs.take i)+outs[i].n<=k:=by
     rcases Nat.lt_or_gt_of_ne hne with h|h
     ·have:=yt outs (j+1) i (by omega);left;omega
     ·have:=yt outs (i+1) j (by omega);right;omega
    have hout':base+wc (outs.take i)+outs[i].n<=k∨(k<base+wc (outs.take i)/\(outs[i].rd=false∨aos[i].wq=true)):=by
     rcases hout with h|h
     ·right;refine ⟨h,?_⟩
      have hon:0<o.n:=by have:=wC outs j o hj;omega
      have hjl:j<aos.length:=by rw [hlo];exact (List.getElem?_eq_some_iff.1 hj).1
      rcases hord j aos[j] o (by simp [hjl]) hj hne with e|⟨_,_,e,_⟩
      ·rw [hD] at e;simp at e;have:=yt outs (i+1) j (by omega);omega
      ·cases hn1:outs[i].rd with
       |false=>exact .inl rfl
       |true=>
        cases hn2:aos[i].wq with
        |true=>exact .inr rfl
        |false=>
         rw [show decide (i<j)=false from decide_eq_false (by intro hlt;have:=yt outs (i+1) j (by omega);omega)] at e;simp [hn1,hn2,hon,hoffs i j hia hn2] at e
     ·exact .inl h
    exact ⟨k5 k f1 f2 hout',by rw [heq.sto];exact z2K hnm f2 hout _⟩
end
inductive Yz where
 |normal
 |exit (id:Nat)
 |ret
def Zw:Exit->Option Yz
 | .normal=>some .normal
 | .exit id=>some (.exit id)
 | .ret=>some .ret
 |_=>none
def codeOk (n:Nat):Code->Bool
 | .region _ ops _=>ops.all fun o=>match o.dst with|some d=>decide (d<n)|none=>true
 | .seq a b=>codeOk n a&&codeOk n b
 | .cond _ a b=>codeOk n a&&codeOk n b
 | .block _ c=>codeOk n c
 | .loop c=>codeOk n c
 | .scope c=>codeOk n c
 |_=>true
def W3 (live:List Nat):List (Nat×V)->List (Nat×V)
 |[]=>[]
 |(t,x)::r=>if live.contains t then (t,x)::W3 live r else W3 live r
theorem QM (live:List Nat):∀(e:List (Nat×V)) (t:Nat),look (W3 live e) t=look e t∨look (W3 live e) t= .top
 |[],t=> .inl rfl
 |(k,x)::r,t=>by
  simp only [W3];by_cases hk:live.contains k=true
  ·simp only [hk,if_true];by_cases e:k=t
   ·subst e;left;simp [look,zi]
   ·have:=QM live r t;simpa [look,zi,e] using this
  ·simp only [hk,Bool.false_eq_true,if_false];by_cases e:k=t
   ·subst e;right
    have:∀r:List (Nat×V),look (W3 live r) k= .top:=by
     intro r
     induction r with
     |nil=>rfl
     |cons h r ih=>
      obtain ⟨j,y⟩:=h;simp only [W3];by_cases hj:live.contains j=true
      ·have hne:j≠k:=by rintro rfl;exact hk hj
       simp only [hj,if_true];simpa [look,zi,hne] using ih
      ·simp only [hj,Bool.false_eq_true,if_false];exact ih
    exact this r
   ·have:=QM live r t;simpa [look,zi,e] using this
def z80 (C:Ctx) (Q:Yz->St->Prop):Exit->Act->World->Prop:=fun e a w=>∃x st Λ,Zw e=some x/\Q x st/\Rel C Λ st a/\Λ.nxt=st.s.nxt/\Λ.w=w
def Sat (P:Program) (n m:Nat) (c:zW) (st:St) (Q:Yz->St->Prop):Prop:=
 ∀(code:Code),Ys P code=some c.bare->codeOk n code=true->P.follows .mixedOrders=true->∀(C:Ctx) (Λ:L) (a:Act),C.P=P->C.n=n->C.Λ.nxt=m->Rel C Λ st a->Λ.nxt=st.s.nxt->
  code.wp P (z80 C Q) a Λ.w
section
variable {P:Program} {n m:Nat} {st:St} {Q:Yz->St->Prop}
theorem Sat.mono {c:zW} {Q':Yz->St->Prop} (h:Sat P n m c st Q) (hq:∀e st,Q e st->Q' e st):Sat P n m c st Q':=by
 intro code h1 h2 h3 C Λ a h4 h5 h6 h7 h8;exact wp_mono (h code h1 h2 h3 C Λ a h4 h5 h6 h7 h8) fun e a w ⟨x,s,Λ',k1,k2,k3⟩=>⟨x,s,Λ',k1,hq _ _ k2,k3⟩
theorem ZP {code:Code} {c:zW} (h:Ys P code=some c):
  match c with
  | .skip=>code= .skip
  | .region draw l after live=>∃id ops,code= .region id ops draw/\z1a P ops ops.toList=some l/\(draw=true->after=w4 ops)/\live=[]
  | .seq a b=>∃x y,code= .seq x y/\Ys P x=some a/\Ys P y=some b
  | .cond z a b=>∃c x y,code= .cond c x y/\opA c=some z/\Ys P x=some a/\Ys P y=some b
  | .block id a=>∃x,code= .block id x/\Ys P x=some a
  | .loop a=>∃x,code= .loop x/\Ys P x=some a
  | .exit id=>code= .exit id
  | .ret=>code= .ret
  | .scope a=>∃x,code= .scope x/\Ys P x=some a
  | .lbl=>∃l,code= .label l:=by
 cases code with
 |skip=>simp [Ys] at h;subst h;rfl
 |region id ops draw=>
  simp only [Ys] at h;split at h
  ·rename_i l hl;simp at h;subst h;refine ⟨id,ops,rfl,hl,fun hd=>?_,rfl⟩;simp [hd]
  ·cases h
 |seq a b=>
  simp only [Ys] at h;split at h
  ·rename_i x y h1 h2;simp at h;subst h;exact ⟨a,b,rfl,h1,h2⟩
  ·cases h
 |cond c a b=>
  simp only [Ys] at h;split at h
  ·rename_i z x y h1 h2 h3;simp at h;subst h;exact ⟨c,a,b,rfl,h1,h2,h3⟩
  ·cases h
 |block id c=>simp only [Ys,Option.map_eq_some_iff] at h;obtain ⟨x,h1,rfl⟩:=h;exact ⟨c,rfl,h1⟩
 |loop c=>simp only [Ys,Option.map_eq_some_iff] at h;obtain ⟨x,h1,rfl⟩:=h;exact ⟨c,rfl,h1⟩
 |exit id=>simp [Ys] at h;subst h;rfl
 |ret=>simp [Ys] at h;subst h;rfl
 |scope c=>simp only [Ys,Option.map_eq_some_iff] at h;obtain ⟨x,h1,rfl⟩:=h;exact ⟨c,rfl,h1⟩
 |label l=>simp [Ys] at h;subst h;exact ⟨l,rfl⟩
 |_=>simp [Ys] at h
theorem Sat.skip (h:Q .normal st):Sat P n m .skip st Q:=by
 intro code h1 h2 _ C Λ a h4 h5 h6 h7 h8;have:=ZP h1;simp only [zW.bare] at this;subst this;exact wp_skip ⟨.normal,st,Λ,rfl,h,h7,h8,rfl⟩
theorem Sat.lbl (h:Q .normal st):Sat P n m .lbl st Q:=by
 intro code h1 h2 _ C Λ a h4 h5 h6 h7 h8;have:=ZP h1;simp only [zW.bare] at this;obtain ⟨l,rfl⟩:=this;exact wp_label ⟨.normal,st,Λ,rfl,h,h7,h8,rfl⟩
theorem Sat.scope {a:zW} (h:Sat P n m a st Q):Sat P n m (.scope a) st Q:=by
 intro code h1 h2 h3 C Λ ac h4 h5 h6 h7 h8;have:=ZP h1;simp only [zW.bare] at this;obtain ⟨x,rfl,hx⟩:=this;simp only [codeOk] at h2;refine wp_scope_straight (wp_mono (h x hx h2 h3 C Λ ac h4 h5 h6 h7 h8) fun e a' w' hp=>?_);obtain ⟨z,st',Λ',k1,k2,k3,k4,rfl⟩:=hp
 cases e with
 |normal=>exact ⟨z,st',Λ',k1,k2,k3,k4,rfl⟩
 |exit id'=>exact ⟨z,st',Λ',k1,k2,k3,k4,rfl⟩
 |ret=>exact ⟨z,st',Λ',k1,k2,k3,k4,rfl⟩
 |goto l=>simp [Zw] at k1
 |panic c=>simp [Zw] at k1
 |outgrown=>simp [Zw] at k1
theorem Sat.ret (h:Q .ret st):Sat P n m .ret st Q:=by
 intro code h1 h2 _ C Λ a h4 h5 h6 h7 h8;have:=ZP h1;simp only [zW.bare] at this;subst this;exact wp_ret ⟨.ret,st,Λ,rfl,h,h7,h8,rfl⟩
theorem Sat.exit {id:Nat} (h:Q (.exit id) st):Sat P n m (.exit id) st Q:=by
 intro code h1 h2 _ C Λ a h4 h5 h6 h7 h8;have:=ZP h1;simp only [zW.bare] at this;subst this;exact wp_exit ⟨.exit id,st,Λ,rfl,h,h7,h8,rfl⟩
def z1q (K:St->Prop) (Q:Yz->St->Prop):Yz->St->Prop
 | .normal,st=>K st
 |e,st=>Q e st
theorem Sat.seq {a b:zW} (h:Sat P n m a st (z1q (fun st'=>Sat P n m b st' Q) Q)):Sat P n m (.seq a b) st Q:=by
 intro code h1 h2 h3 C Λ ac h4 h5 h6 h7 h8;have:=ZP h1;simp only [zW.bare] at this;obtain ⟨x,y,rfl,hx,hy⟩:=this;simp only [codeOk,Bool.and_eq_true] at h2;refine wp_seq (wp_mono (h x hx h2.1 h3 C Λ ac h4 h5 h6 h7 h8) fun e a' w' hp=>?_);obtain ⟨z,st',Λ',k1,k2,k3,k4,rfl⟩:=hp
 cases e with
 |normal=>
  simp [Zw] at k1;subst k1;exact k2 y hy h2.2 h3 C Λ' a' h4 h5 h6 k3 k4
 |exit id=>simp [Zw] at k1;subst k1;exact ⟨_,st',Λ',rfl,k2,k3,k4,rfl⟩
 |ret=>simp [Zw] at k1;subst k1;exact ⟨_,st',Λ',rfl,k2,k3,k4,rfl⟩
 |goto l=>simp [Zw] at k1
 |panic c=>simp [Zw] at k1
 |outgrown=>simp [Zw] at k1
theorem Sat.cond {z:Ar} {a b:zW} {t:Bool} (hz:z.v st= .t (.bool t)) (h:Sat P n m (if t then a else b) st Q):Sat P n m (.cond z a b) st Q:=by
 intro code h1 h2 h3 C Λ ac h4 h5 h6 h7 h8;have:=ZP h1;simp only [zW.bare] at this;obtain ⟨c,x,y,rfl,hc,hx,hy⟩:=this;simp only [codeOk,Bool.and_eq_true] at h2;have hv:=h7.opd hc;rw [hz] at hv;refine wp_cond hv.ZQ.Yf ?_
 cases t with
 |true=>exact h x hx h2.1 h3 C Λ ac h4 h5 h6 h7 h8
 |false=>exact h y hy h2.2 h3 C Λ ac h4 h5 h6 h7 h8
def z5U (id:Nat) (Q:Yz->St->Prop):Yz->St->Prop
 | .exit id',st=>if id'=id then Q .normal st else Q (.exit id') st
 |e,st=>Q e st
theorem Sat.block {id:Nat} {a:zW} (h:Sat P n m a st (z5U id Q)):Sat P n m (.block id a) st Q:=by
 intro code h1 h2 h3 C Λ ac h4 h5 h6 h7 h8;have:=ZP h1;simp only [zW.bare] at this;obtain ⟨x,rfl,hx⟩:=this;simp only [codeOk] at h2;refine wp_block (wp_mono (h x hx h2 h3 C Λ ac h4 h5 h6 h7 h8) fun e a' w' hp=>?_);obtain ⟨z,st',Λ',k1,k2,k3,k4,rfl⟩:=hp
 cases e with
 |normal=>simp [Zw] at k1;subst k1;exact ⟨_,st',Λ',rfl,k2,k3,k4,rfl⟩
 |exit id'=>
  simp [Zw] at k1;subst k1;simp only [z5U] at k2;simp only [Exit.inBlock];split
  ·rename_i e;simp only [e,if_true] at k2;exact ⟨_,st',Λ',rfl,k2,k3,k4,rfl⟩
  ·rename_i e;simp only [e,if_false] at k2;exact ⟨_,st',Λ',rfl,k2,k3,k4,rfl⟩
 |ret=>simp [Zw] at k1;subst k1;exact ⟨_,st',Λ',rfl,k2,k3,k4,rfl⟩
 |goto l=>simp [Zw] at k1
 |panic c=>simp [Zw] at k1
 |outgrown=>simp [Zw] at k1
def zdo (P:Program) (c:Code) (Q:Exit->Act->World->Prop) (a:Act) (w:World):Prop:=
 ∀(b:Frame) (k:List Item) (cs:List Frame),∃e a' w',Q e a' w'/\Arrives P (lone (b.at a (.code c:: .inLoop c::k)) cs w) b k cs e a' w'
theorem zcf {c:Code} {Q:Exit->Act->World->Prop} {a:Act} {w:World} (h:zdo P c Q a w):(Code.loop c).wp P Q a w:=by
 intro b k cs;obtain ⟨e,a',w',hq,harr⟩:=h b k cs;exact ⟨e,a',w',hq,.of_steps (.one step_loop) harr⟩
theorem za0 {c:Code} {Q:Exit->Act->World->Prop} {a:Act} {w:World} (h:c.wp P (Exit.then (zdo P c Q) Q) a w):zdo P c Q a w:=by
 intro b k cs;obtain ⟨e,a₁,w₁,hq,harr⟩:=h b (.inLoop c::k) cs
 cases e with
 |normal=>
  obtain ⟨e₂,a₂,w₂,hq₂,harr₂⟩:=hq b k cs;exact ⟨e₂,a₂,w₂,hq₂,.of_steps (Steps.trans harr (.one step_inLoop)) harr₂⟩
 |exit id=>exact ⟨_,a₁,w₁,hq,.pass (x:= .inLoop c) rfl (fun _ _=> .inl (by simp)) harr⟩
 |goto l=>exact ⟨_,a₁,w₁,hq,.pass (x:= .inLoop c) rfl (fun _ _=> .inl (by simp)) harr⟩
 |ret=>exact ⟨_,a₁,w₁,hq,.pass (x:= .inLoop c) rfl (fun _ _=> .inl (by simp)) harr⟩
 |panic ch=>exact ⟨_,a₁,w₁,hq,.pass (x:= .inLoop c) rfl (fun _ _=> .inl (by simp)) harr⟩
 |outgrown=>exact ⟨_,a₁,w₁,hq,.pass (x:= .inLoop c) rfl (fun _ _=> .inl (by simp)) harr⟩
def z3s (P:Program) (n m:Nat) (c:zW) (st:St) (Q:Yz->St->Prop):Prop:=
 ∀(code:Code),Ys P code=some c.bare->codeOk n code=true->P.follows .mixedOrders=true->∀(C:Ctx) (Λ:L) (a:Act),C.P=P->C.n=n->C.Λ.nxt=m->Rel C Λ st a->Λ.nxt=st.s.nxt->
  zdo P code (z80 C Q) a Λ.w
theorem Sat.loop {c:zW} (h:z3s P n m c st Q):Sat P n m (.loop c) st Q:=by
 intro code h1 h2 h3 C Λ ac h4 h5 h6 h7 h8;have:=ZP h1;simp only [zW.bare] at this;obtain ⟨x,rfl,hx⟩:=this;simp only [codeOk] at h2;exact zcf (h x hx h2 h3 C Λ ac h4 h5 h6 h7 h8)
theorem z3s.wO {c:zW} (h:Sat P n m c st (z1q (fun st'=>z3s P n m c st' Q) Q)):z3s P n m c st Q:=by
 intro code h1 h2 h3 C Λ ac h4 h5 h6 h7 h8;refine za0 (wp_mono (h code h1 h2 h3 C Λ ac h4 h5 h6 h7 h8) fun e a' w' hp=>?_);obtain ⟨z,st',Λ',k1,k2,k3,k4,rfl⟩:=hp
 cases e with
 |normal=>
  simp [Zw] at k1;subst k1;exact k2 code h1 h2 h3 C Λ' a' h4 h5 h6 k3 k4
 |exit id=>simp [Zw] at k1;subst k1;exact ⟨_,st',Λ',rfl,k2,k3,k4,rfl⟩
 |ret=>simp [Zw] at k1;subst k1;exact ⟨_,st',Λ',rfl,k2,k3,k4,rfl⟩
 |goto l=>simp [Zw] at k1
 |panic c=>simp [Zw] at k1
 |outgrown=>simp [Zw] at k1
theorem Sat.Qj {c:zW} {st':St} (k:Nat) (h:Sat P n m c st' Q) (h1:m<=k) (h2:k<=st.s.nxt) (h3:k<=st'.s.nxt) (he:LeE k st'.s.nxt st.env st'.env) (hs:LeS k st'.s.nxt st.s.sto st'.s.sto):Sat P n m c st Q:=by
 intro code e1 e2 e3 C Λ a e4 e5 e6 e7 e8;exact h code e1 e2 e3 C (Λ.cut k st'.s.nxt) a e4 e5 e6 (e7.Qj (by omega) (by omega) h3 he hs) Z
theorem z3s.Qj {c:zW} {st':St} (k:Nat) (h:z3s P n m c st' Q) (h1:m<=k) (h2:k<=st.s.nxt) (h3:k<=st'.s.nxt) (he:LeE k st'.s.nxt st.env st'.env) (hs:LeS k st'.s.nxt st.s.sto st'.s.sto):z3s P n m c st Q:=by
 intro code e1 e2 e3 C Λ a e4 e5 e6 e7 e8;exact h code e1 e2 e3 C (Λ.cut k st'.s.nxt) a e4 e5 e6 (e7.Qj (by omega) (by omega) h3 he hs) Z
def z1y (live:List Nat) (b:Nat) (st:St):St:={env:=W3 live st.env,s:={st.s with nxt:=b}}
theorem Rel.yo {C:Ctx} {Λ:L} {a:Act} (h:Rel C Λ st a) (live:List Nat) (b:Nat):Rel C Λ (z1y live b st) a:=by
 refine ⟨h.kp,h.size,h.defers,fun t=>?_,⟨h.s.sto,h.s.inj,h.s.new,h.s.bnd,h.s.frz,h.s.w9,h.s.wh,h.s.z1A⟩⟩
 rcases QM live st.env t with e|e
 ·simp only [z1y,e];exact h.env t
 ·simp only [z1y,e];exact .top
def z4j (draw:Bool) (ops:List AO) (after:List (List Nat)) (fl:List (Bool×Bool)) (env:List (Nat×V)):Prop:=draw=true->indep ops after fl env=true
theorem Sat.region {draw:Bool} {ops:List AO} {after:List (List Nat)} {live:List Nat} (h:evR P st.s.nxt st ops [] (fun b st' fl=>z4j draw ops after fl st'.env/\Q .normal (z1y live b st'))):Sat P n m (.region draw ops after live) st Q:=by
 intro code h1 h2 h3 C Λ a h4 h5 h6 h7 h8;have:=ZP h1;simp only [zW.bare] at this;obtain ⟨id,os,rfl,hres,haft,_⟩:=this;obtain ⟨outs,b',st',hch,hok,hq⟩:=z0C h;simp only [List.nil_append] at hok
 have hd:z8W C os:=by
  intro j p d hp hpd;simp only [codeOk,Array.all_eq_true'] at h2;have:=h2 p (Array.mem_of_getElem? hp);rw [hpd] at this;rw [h5];simpa using this
 have hle:=Ch.le hch;have hr':=h7.up (m:=b') (by omega)
 have hfree:∀k,st.s.nxt<=k->y3 Λ k/\zi st.s.sto k=none:=by
  intro k hk;refine ⟨h7.s.free (by omega),?_⟩
  cases ha:zi st.s.sto k with
  |none=>rfl
  |some o=>have:=(h7.s.sto k o ha).1;omega
 have hfin:∀(a':Act) (Λ':L),Rel C Λ' st' a'->Λ'.nxt=b'->z80 C Q .normal a' Λ'.w:=fun a' Λ' k1 k2=>⟨.normal,_,Λ',rfl,hq,k1.yo live b',k2,rfl⟩;obtain ⟨hlen,_⟩:=qt hres
 cases draw with
 |false=>
  refine wp_region ?_;have:=z59 (Q:=z80 C Q) h4 hd hres b' ops 0 st.s.nxt st outs (Λ.up b') a rfl hch hr' rfl (Nat.le_refl _) (fun k k1 k2=>⟨⟨(hfree k k1).1.obj,(hfree k k1).1.arr,(hfree k k1).1.fro,(hfree k k1).1.fob,(hfree k k1).1.far,(hfree k k1).1.frf⟩,(hfree k k1).2⟩) hfin;rw [List.range_eq_range'];rw [←hlen,Array.length_toList] at this;exact this
 |true=>
  refine wp_region_any h3 ?_;rw [haft rfl] at hok
  have h0:∀j,dOf (Array.replicate os.size false) j=false:=by
   intro j;unfold dOf;simp [Array.getD_eq_getD_getElem?,Array.getElem?_replicate]
   split<;>rfl
  have hst0:stD (dOf (Array.replicate os.size false)) 0 st ops outs=st:=qO _ _ _ _ (fun j _=>h0 j)
  have hdrew:Rel C {Λ.up b' with w:={Λ.w with drawn:=Λ.w.drawn+1}} st a:=by
   have hk:Kp (Λ.up b') {Λ.up b' with w:={Λ.w with drawn:=Λ.w.drawn+1}}:=
    ⟨⟨rfl,rfl,rfl,Nat.le_refl _,fun _ _ _ h=>⟨h,rfl⟩,fun _ _ _ _ h o ho=>⟨by simp [Rd,h,ho],rfl⟩,fun _ _ _ _ _ h o ho=>⟨by simp [Rd,h,ho],rfl⟩⟩,Nat.le_refl _,fun _ _ _ h=>h,fun _ _ _ _ _ h _=>⟨h,rfl⟩,fun _ _=>Nat.le_refl _,fun _ _ _ _ h=>⟨h,fun _ h=>h⟩,fun _ _ _ _ _ _ h _=>⟨h,rfl⟩,fun _ _ _=>Nat.le_refl _,fun _ _ _ _ _ _ h=>h⟩
   refine ⟨hr'.kp.trans hk,hr'.size,hr'.defers,fun t=>(hr'.env t).mono hk,hr'.s.step hk Z (fun k o ho=> .inl ⟨ho,fun _ _=>rfl,rfl⟩) hr'.s.inj hr'.s.new hr'.s.bnd hr'.s.frz ⟨fun _ _ _=>Iff.rfl,fun _ _ _ _=>Iff.rfl,rfl,fun _ _ _ _=>rfl,fun _ _ _ _ _ _=>rfl⟩⟩
  have:=za4 (Q:=z80 C Q) h4 hd hres hch (hok rfl) (Nat.le_refl _) (fun k k1 _=>(hfree k (by omega)).2) hfin os.size (Array.replicate os.size false) {Λ.up b' with w:={Λ.w with drawn:=Λ.w.drawn+1}} a (by simp) (by rw [z8T (fun j _=>h0 j)];exact Nat.le_refl _)
   (fun i hi=>by rw [h0] at hi;cases hi) (by rw [hst0];exact hdrew) rfl (fun i o _ _ k k1 k2=>by
    rw [hst0]
    have hk:st.s.nxt<=k:=by omega
    exact ⟨⟨(hfree k hk).1.obj,(hfree k hk).1.arr,(hfree k hk).1.fro,(hfree k hk).1.fob,(hfree k hk).1.far,(hfree k hk).1.frf⟩,(hfree k hk).2⟩)
  exact this
end
inductive q8 where
 |tmp (t:Nat)
 |cell (a:Nat) (ag:Bool) (n:Nat)
def z5H (P:Program):ResultVar->Option q8
 | .tmp t=>some (.tmp t)
 | .cell a t=>
  match ZE P t,P.underlying t with
  |some n,some _=>some (.cell a (Ze P t) n)
  |_,_=>none
def q8.v (st:St):q8->Option V
 | .tmp t=>some (look st.env t)
 | .cell a ag n=>
  match look st.env a with
  | .ptr k o=>
   match zi st.s.sto k with
   |some (.cells cs)=>if ag then (if o+n<=cs.length then some (.agg ((cs.drop o).take n)) else none) else cs[o]?
   |_=>none
  |_=>none
def z1d (st:St):List q8->Option V
 |[]=>some (.tup [])
 |[r]=>r.v st
 |[r,q]=>match r.v st,q.v st with|some x,some y=>some (.tup [x,y])|_,_=>none
 |[r,q,p]=>match r.v st,q.v st,p.v st with|some x,some y,some z=>some (.tup [x,y,z])|_,_,_=>none
 |_=>none
def zd (P:Program) (f:FuncId):Option (Nat×zW×List q8):=
 match P.funcs[f]? with
 |some fn=>
  match fn.body with
  |some c=>
   match Ys P c,fn.results.toList.mapM (z5H P) with
   |some a,some rs=>if codeOk fn.ntmps c&&!(fn.name== "runtime.NumGoroutine") then some (fn.ntmps,a,rs) else none
   |_,_=>none
  |none=>none
 |none=>none
def qG:Nat->List V->List (Nat×V)
 |_,[]=>[]
 |i,x::r=>(i,x)::qG (i+1) r
theorem z2Q:∀(vs:List V) (i t:Nat),look (qG i vs) t=if i<=t then (vs[t - i]?).getD .top else .top
 |[],i,t=>by simp [qG,look,zi]
 |x::r,i,t=>by
  simp only [qG];by_cases e:i=t
  ·subst e;simp [look,zi]
  ·have:=z2Q r (i+1) t;simp only [look,zi,e,if_false] at this⊢;rw [this];by_cases h:i<=t
   ·have:t - i=(t - (i+1))+1:=by omega
    rw [if_pos (by omega),if_pos h,this];simp
   ·rw [if_neg (by omega),if_neg h]
def z7 (P:Program) (f:FuncId) (vs:List V) (s:S) (out:Out):Prop:=
 zfd P f/\∀(Λ:L) (args:Array Value),Z5 Λ s->Λ.nxt=s.nxt->args.size=vs.length->(∀(j:Nat) (v:Value) (x:V),args[j]?=some v->vs[j]?=some x->zu Λ v x)->
  Calls P f args Λ.w fun e w'=>∃v Λ',e= .returned v/\Λ'.w=w'/\Kp Λ Λ'/\Λ'.nxt=s.nxt+out.n/\Z5 Λ' ⟨Zq s.sto out.ob,0⟩/\zu Λ' v out.v
def LeR (m:Nat) (s:S) (r r':V):Prop:=∀(Λ:L) (v:Value),m<=Λ.nxt->Z5 Λ s->zu Λ v r->zu (Λ.cut m m) v r'
theorem LeR.le {m:Nat} {s:S} {r r':V} (h:LeX m m r r'):LeR m s r r':=fun _ _ hm _ hr=>h.cut (Nat.le_refl _) hm hr
inductive z6Y (m:Nat) (s:S):List V->List V->Prop
 |nil:z6Y m s [] []
 |cons {x y:V} {xs ys:List V} (h:LeR m s x y) (t:z6Y m s xs ys):z6Y m s (x::xs) (y::ys)
theorem z6Y.spec {m:Nat} {s:S} {xs ys:List V} (h:z6Y m s xs ys):xs.length=ys.length/\∀(j:Nat) (c d:V),xs[j]?=some c->ys[j]?=some d->LeR m s c d:=by
 induction h with
 |nil=>exact ⟨rfl,fun j c d h=>by simp at h⟩
 |cons h _ ih=>
  refine ⟨by simp [ih.1],fun j c d h1 h2=>?_⟩
  cases j with
  |zero=>simp at h1 h2;subst h1;subst h2;exact h
  |succ j=>exact ih.2 j c d (by simpa using h1) (by simpa using h2)
theorem LeR.tup {m:Nat} {s:S} {xs ys:List V} (h:z6Y m s xs ys):LeR m s (.tup xs) (.tup ys):=by
 intro Λ v hm hr hv;obtain ⟨h1,h2⟩:=h.spec
 cases hv with
 |tup hs hv=>
  refine .tup (hs.trans h1) fun j u d hj hd=>?_
  have hlt:j<xs.length:=by rw [h1];exact (List.getElem?_eq_some_iff.1 hd).1
  exact h2 j xs[j] d (by simp [hlt]) hd Λ u hm hr (hv j u _ hj (by simp [hlt]))
theorem LeR.agg {m:Nat} {s:S} {xs ys:List V} (h:z6Y m s xs ys):LeR m s (.agg xs) (.agg ys):=by
 intro Λ v hm hr hv;obtain ⟨h1,h2⟩:=h.spec
 cases hv with
 |agg hs hv=>
  refine .agg (hs.trans h1) fun j u d hj hd=>?_
  have hlt:j<xs.length:=by rw [h1];exact (List.getElem?_eq_some_iff.1 hd).1
  exact h2 j xs[j] d (by simp [hlt]) hd Λ u hm hr (hv j u _ hj (by simp [hlt]))
section
variable {P:Program}
def zeU (tmps:Array Value):ResultVar->Sem Value
 | .tmp t=>pure (tmps.getD t undef)
 | .cell a t=>do loadVar t (←asAddr (tmps.getD a undef))
theorem Qw (fn:Func) (tmps:Array Value):results fn tmps=(do let vs ←fn.results.mapM (zeU tmps);pure (if h:vs.size=1 then vs[0] else .tuple vs)):=by
 unfold results;congr 2
theorem Qd {C:Ctx} {Λ:L} {st:St} {a:Act} (hr:Rel C Λ st a) {rv:ResultVar} {r:q8} {x:V} (h1:z5H P rv=some r) (h2:r.v st=some x):
  ∃v,(zeU a.tmps rv).run P Λ.w= .ok v Λ.w/\zu Λ v x:=by
 cases rv with
 |tmp t=>simp [z5H] at h1;subst h1;simp [q8.v] at h2;subst h2;exact ⟨_,rfl,hr.env t⟩
 |cell ad t=>
  simp only [z5H] at h1;split at h1
  ·rename_i n d hn hu;simp at h1;subst h1;simp only [q8.v] at h2;split at h2
   ·rename_i k o hl;split at h2
    ·rename_i cs hk;have hx:=hr.env ad;rw [hl] at hx;simp only [zeU];generalize a.tmps.getD ad undef=u at hx⊢
     cases hx with
     |@ptr b _ _ _ hb=>
      obtain ⟨arr,e,e1,e2,e3⟩:=hr.s.qN hk hb;split at h2
      ·rename_i hag;split at h2
       ·rename_i hle;simp at h2;subst h2
        have hvl:((arr.toList.drop o).take n).length=n:=by simp;omega
        have hcell:∀(j:Nat) (v:Value),((arr.toList.drop o).take n)[j]?=some v->Λ.w.cell? ⟨b,o+j,none⟩=some v:=by
         intro j v hj;rw [List.getElem?_take] at hj;split at hj
         ·rw [List.getElem?_drop] at hj;rw [cell_of_row Λ.w b _ arr e _ e1];simpa using hj
         ·cases hj
        have:=YL (P:=P) hn hag hvl hcell;simp [Instr.loadAt,Instr.sureAddr] at this
        exact ⟨.agg ((arr.toList.drop o).take n).toArray,by simp [asAddr,this],zu.zfb (vs:=arr.toList) (fun j v c a1 a2=>e3 j v c (by simpa using a1) a2) (by simpa using e2) o n⟩
       ·cases h2
      ·rename_i hag;have hlt:o<cs.length:=(List.getElem?_eq_some_iff.1 h2).1
       have hcell:Λ.w.cell? ⟨b,o,none⟩=some (arr[o]'(by omega)):=by rw [cell_of_row Λ.w b o arr e _ e1];simp [e2,hlt]
       have:=YG (P:=P) hu (by simpa using hag) hcell;simp [Instr.loadAt,Instr.sureAddr] at this
       exact ⟨arr[o]'(by omega),by simp [asAddr,this],e3 o _ x (by simp) h2⟩
    ·cases h2
   ·cases h2
  ·cases h1
theorem z67 {C:Ctx} {Λ:L} {st:St} {a:Act} (hr:Rel C Λ st a) {fn:Func} {rs:List q8} {x:V} (h1:fn.results.toList.mapM (z5H P)=some rs) (h2:z1d st rs=some x):
  ∃v,(results fn a.tmps).run P Λ.w= .ok v Λ.w/\zu Λ v x:=by
 have hmap:∀(l:List ResultVar) (rs:List q8),l.mapM (z5H P)=some rs->l.length=rs.length/\∀(j:Nat) (x:ResultVar) (y:q8),l[j]?=some x->rs[j]?=some y->z5H P x=some y:=by
  intro l
  induction l with
  |nil=>intro c h;simp at h;subst h;simp
  |cons d cs ih=>
   intro c h;simp only [List.mapM_cons,Option.bind_eq_bind,Option.pure_def,Option.bind_eq_some_iff] at h;obtain ⟨y,hy,c',hc',h⟩:=h;simp at h;subst h;obtain ⟨i1,i2⟩:=ih c' hc'
   refine ⟨by simp [i1],fun j e z h1 h2=>?_⟩
   cases j with
   |zero=>simp at h1 h2;subst h1;subst h2;exact hy
   |succ j=>exact i2 j e z (by simpa using h1) (by simpa using h2)
 obtain ⟨k1,k2⟩:=hmap _ _ h1;unfold z1d at h2;split at h2
 ·simp at h2;subst h2
  have:fn.results=#[]:=by simpa using k1
  exact ⟨.tuple #[],by simp [results,this],.tup rfl (by simp)⟩
 ·rename_i r
  have:∃x0,fn.results=#[x0]:=by
   match hfn:fn.results.toList,k1 with
   |[x0],_=>exact ⟨x0,by apply Array.ext';simpa using hfn⟩
  obtain ⟨x0,he⟩:=this;have hr0:=k2 0 x0 r (by simp [he]) rfl;obtain ⟨v,e1,e2⟩:=Qd hr hr0 h2;refine ⟨v,?_,e2⟩;rw [Qw];simp [he,e1]
 ·rename_i r q
  have:∃x0 x1,fn.results=#[x0,x1]:=by
   match hfn:fn.results.toList,k1 with
   |[x0,x1],_=>exact ⟨x0,x1,by apply Array.ext';simpa using hfn⟩
  obtain ⟨x0,x1,he⟩:=this;split at h2
  ·rename_i y0 y1 g0 g1;simp at h2;subst h2;obtain ⟨v0,a1,a2⟩:=Qd hr (k2 0 x0 r (by simp [he]) rfl) g0;obtain ⟨v1,b1,b2⟩:=Qd hr (k2 1 x1 q (by simp [he]) rfl) g1;refine ⟨.tuple #[v0,v1],?_,.tup Z fun j v c hv hc=>?_⟩
   ·rw [Qw];simp [he,a1,b1]
   ·match j,hv,hc with
    |0,hv,hc=>simp at hv hc;subst hv;subst hc;exact a2
    |1,hv,hc=>simp at hv hc;subst hv;subst hc;exact b2
  ·cases h2
 ·rename_i r q p
  have:∃x0 x1 x2,fn.results=#[x0,x1,x2]:=by
   match hfn:fn.results.toList,k1 with
   |[x0,x1,x2],_=>exact ⟨x0,x1,x2,by apply Array.ext';simpa using hfn⟩
  obtain ⟨x0,x1,x2,he⟩:=this;split at h2
  ·rename_i y0 y1 y2 g0 g1 g2;simp at h2;subst h2;obtain ⟨v0,a1,a2⟩:=Qd hr (k2 0 x0 r (by simp [he]) rfl) g0;obtain ⟨v1,b1,b2⟩:=Qd hr (k2 1 x1 q (by simp [he]) rfl) g1;obtain ⟨v2,c1,c2⟩:=Qd hr (k2 2 x2 p (by simp [he]) rfl) g2;refine ⟨.tuple #[v0,v1,v2],?_,.tup Z fun j v c hv hc=>?_⟩
   ·rw [Qw];simp [he,a1,b1,c1]
   ·match j,hv,hc with
    |0,hv,hc=>simp at hv hc;subst hv;subst hc;exact a2
    |1,hv,hc=>simp at hv hc;subst hv;subst hc;exact b2
    |2,hv,hc=>simp at hv hc;subst hv;subst hc;exact c2
  ·cases h2
 ·cases h2
def z3D (m:Nat) (s:S) (sto':List (Nat×z6)):Prop:=∀(Λ:L),m<=Λ.nxt->Z5 Λ s->Z5 (Λ.cut m m) ⟨sto',0⟩
theorem z3D.le {m:Nat} {s:S} {sto':List (Nat×z6)} (h:LeS m m s.sto sto'):z3D m s sto':=fun _ hm hr=>hr.Qj (s':=⟨sto',0⟩) hm (Nat.le_refl _) h
def z6.bd (m:Nat):z6->Bool
 | .cells cs=>V.bds m cs
 | .map _ es _=>V.bds m (es.map (·.2))
 | .arr _=>true
 | .iter q _ _ _=>decide (q<m)
 | .gro _ cs=>V.bds m cs
 | .yu os=>os.all (V.bds m)
 | .y9 _=>true
 | .Wl _ _=>true
def zR (m:Nat):List (Nat×z6)->Bool
 |[]=>true
 |(k,o)::r=>decide (k<m)&&o.bd m&&zR m r
theorem qh {m:Nat}:∀{s:List (Nat×z6)},zR m s=true->∀k o,zi s k=some o->k<m/\o.bd m=true
 |[],_,k,o,h=>by simp [zi] at h
 |(j,x)::r,hb,k,o,h=>by
  simp only [zR,Bool.and_eq_true,decide_eq_true_eq] at hb;by_cases e:j=k
  ·subst e;simp [zi] at h;subst h;exact ⟨hb.1.1,hb.1.2⟩
  ·simp only [zi,e,if_false] at h;exact qh hb.2 k o h
theorem Wx.cut {Λ:L} {m m' k:Nat} {o:z6} (hm:m<=m') (hk:k<m) (hb:o.bd m=true) (h:Wx Λ k o):Wx (Λ.cut m m') k o:=by
 cases o with
 |cells cs=>
  obtain ⟨b,arr,e,e1,e2,e3,e4⟩:=h;exact ⟨b,arr,e,yp e1 hk,e2,e3,fun j v c a1 a2=>(e4 j v c a1 a2).cut hm (V.ZH (by simpa [z6.bd] using hb) j c a2)⟩
 |map kag es sx=>
  obtain ⟨b,ents,clock,e1,e2,e3⟩:=h;exact ⟨b,ents,clock,yp e1 hk,e2,e3.yo (fun _ _ h=>h.cut) (fun i kv v hi hv=>hv.cut hm (V.ZH (by simpa [z6.bd] using hb) i kv.2 (by simp [hi])))⟩
 |arr n=>unfold Wx at*;simp [L.cut,hk,h]
 |iter q s seen c=>
  have hq:q<m:=by simpa [z6.bd] using hb
  obtain ⟨b,bm,e1,e2,e3,e4⟩:=h;exact ⟨b,bm,yp e1 hk,e2,yp e3 hq,Nat.lt_of_lt_of_le hq hm⟩
 |gro r cs=>
  obtain ⟨h0,hr⟩:=h
  refine ⟨by simp [L.cut,hk,h0],?_⟩
  rcases hr with ⟨e1,e2⟩|⟨b,arr,e,⟨i,e1,e1'⟩,e2,e3,e4⟩
  ·exact .inl ⟨e1,fun b i hb=>e2 b i (Z1 hb).1⟩
  ·exact .inr ⟨b,arr,e,⟨i,wx e1 hk,fun b' i' h'=>e1' b' i' (Z1 h').1⟩,e2,e3,fun j v c a1 a2=>(e4 j v c a1 a2).cut hm (V.ZH (by simpa [z6.bd] using hb) j c a2)⟩
 |yu os=>
  obtain ⟨h0,hr⟩:=h;refine ⟨fun b i hbi=>h0 b i (Z1 hbi).1,fun i cs hi=>?_⟩;obtain ⟨b,arr,e,e1,e2,e3,e4⟩:=hr i cs hi
  have hbs:V.bds m cs=true:=by
   have:=hb;simp only [z6.bd,List.all_eq_true] at this;exact this cs (zMG hi)
  exact ⟨b,arr,e,wx e1 hk,e2,e3,fun j v c a1 a2=>(e4 j v c a1 a2).cut hm (V.ZH hbs j c a2)⟩
 |y9 ns=>intro i;have:=h i;simpa [L.cut,hk] using this
 |Wl kag I=>
  obtain ⟨b,ents,clock,e1,e2,e3,e4,e5⟩:=h;refine ⟨b,ents,clock,yp e1 hk,e2,e3,e4,fun i e hi=>?_⟩;obtain ⟨cs,v,g1,g2,g3⟩:=e5 i e hi;exact ⟨cs,v,g1.yo fun _ _ h=>h.cut,g2.cut,g3⟩
theorem z3D.same {m:Nat} {s:S} {sto':List (Nat×z6)} (h:∀k o,zi sto' k=some o->zi s.sto k=some o/\k<m/\o.bd m=true):z3D m s sto':=by
 intro Λ hm hr
 refine ⟨fun k o hk=>?_,fun b b' k h1 h2=>hr.inj b b' k (Yp h1).1 (Yp h2).1,fun b hb=>z1K (hr.new b hb),fun b k hb=>?_,fun k hk=>by have hk':m<=k:=hk;simp [L.cut];omega,fun b b' k i h1 h2=>hr.w9 b b' k i (Z1 h1).1 (Z1 h2).1,fun b k hb=>?_,fun k i hk=>by have hk':m<=k:=hk;simp [L.cut];omega⟩
 ·obtain ⟨h1,h2,h3⟩:=h k o hk;exact ⟨h2,(hr.sto k o h1).2.cut (Nat.le_refl _) h2 h3⟩
 ·rcases hb with hb|⟨n,hb⟩
  ·exact (Yp hb).2
  ·exact (z15 hb).2
 ·rcases hb with ⟨i,hb⟩|⟨i,n,hb⟩
  ·exact (Z1 hb).2
  ·exact (z1p hb).2
def z3 (s:S) (out:Out) (rs:List q8):Yz->St->Prop
 | .exit _,_=>False
 |_,st=>∃r,z1d st rs=some r/\s.nxt+out.n<=st.s.nxt/\LeR (s.nxt+out.n) st.s r out.v/\z3D (s.nxt+out.n) st.s (Zq s.sto out.ob)
theorem z6K {f:FuncId} {n:Nat} {ac:zW} {rs:List q8} (h:zd P f=some (n,ac,rs)):∃fn c,P.funcs[f]?=some fn/\fn.body=some c/\Ys P c=some ac/\fn.results.toList.mapM (z5H P)=some rs/\codeOk n c=true/\fn.ntmps=n/\zfd P f:=by
 unfold zd at h;split at h
 ·rename_i fn hfn;split at h
  ·rename_i c hc;split at h
   ·rename_i a r h1 h2;split at h
    ·rename_i hok;simp at h;obtain ⟨rfl,rfl,rfl⟩:=h;simp only [Bool.and_eq_true,Bool.not_eq_true'] at hok;refine ⟨fn,c,hfn,hc,h1,h2,hok.1,rfl,fun args w=>?_⟩;simp only [callFunc];simp [program,Sem.run,hfn,hc];have:=hok.2;simp at this;simp [this]
    ·cases h
   ·cases h
  ·cases h
 ·cases h
theorem z7.zf4 {f:FuncId} {n:Nat} {ac:zW} {rs:List q8} {vs:List V} {s:S} {out:Out} (hi:zd P f=some (n,ac.bare,rs)) (hm:P.follows .mixedOrders=true) (hn:vs.length<=n)
  (h:Sat P n s.nxt ac {env:=qG 0 vs,s:=s} (z3 s out rs)):z7 P f vs s out:=by
 obtain ⟨fn,c,h1,h2,h3,h4,h5,h6,h7⟩:=z6K hi;refine ⟨h7,fun Λ args hs hx hsz hargs=>?_⟩;refine calls_of_wp h1 h2 ?_
 have hrel:Rel {P:=P,n:=n,Λ:=Λ} Λ {env:=qG 0 vs,s:=s} {tmps:=args++Array.replicate (fn.ntmps - args.size) undef,defers:=[]}:=by
  refine ⟨Kp.refl _,by simp [h6];omega,rfl,fun t=>?_,hs⟩
  simp only;rw [z2Q,if_pos (Nat.zero_le _),Nat.sub_zero]
  cases hv:vs[t]? with
  |none=>exact .top
  |some x=>
   have hlt:t<args.size:=by rw [hsz];exact (List.getElem?_eq_some_iff.1 hv).1
   have he:(args++Array.replicate (fn.ntmps - args.size) undef).getD t undef=args[t]:=by
    rw [Array.getD_eq_getD_getElem?,Array.getElem?_append_left hlt];simp [hlt]
   rw [he];exact hargs t args[t] x (by simp [hlt]) hv
 refine wp_mono (h c h3 h5 hm {P:=P,n:=n,Λ:=Λ} Λ _ Z Z hx hrel hx) fun e a' w' hp=>?_;obtain ⟨x,st',Λ',k1,k2,k3,k4,rfl⟩:=hp
 have fin:(∃r,z1d st' rs=some r/\s.nxt+out.n<=st'.s.nxt/\LeR (s.nxt+out.n) st'.s r out.v/\z3D (s.nxt+out.n) st'.s (Zq s.sto out.ob))->
   a'.defers=[]/\∃v,(results fn a'.tmps).run P Λ'.w= .ok v Λ'.w/\∃v' Λ'',Ending.returned v= .returned v'/\Λ''.w=Λ'.w/\Kp Λ Λ''/\Λ''.nxt=s.nxt+out.n/\Z5 Λ'' ⟨Zq s.sto out.ob,0⟩/\zu Λ'' v' out.v:=by
  rintro ⟨r,e1,e2,e3,e4⟩;obtain ⟨v,f1,f2⟩:=z67 k3 h4 e1;refine ⟨k3.defers,v,f1,v,Λ'.cut (s.nxt+out.n) (s.nxt+out.n),rfl,rfl,k3.kp.cut (by simp;omega) (Nat.le_refl _),rfl,?_,e3 Λ' v (by omega) k3.s f2⟩;exact e4 Λ' (by omega) k3.s
 cases e with
 |normal=>simp [Zw] at k1;subst k1;exact fin k2
 |ret=>simp [Zw] at k1;subst k1;exact fin k2
 |exit id=>simp [Zw] at k1;subst k1;exact k2.elim
 |goto l=>simp [Zw] at k1
 |panic ch=>simp [Zw] at k1
 |outgrown=>simp [Zw] at k1
def L.qg (Λ:L):L where
 lab:=fun b=>match Λ.lab b with
  | .obj _=> .fix (some 0)
  | .arr _ fr=> .fix (some fr)
  | .fob _ _=> .fix (some 0)
  | .far _ _ fr=> .fix (some fr)
  |x=>x
 fro:=fun _=>0
 nxt:=0
 w:=Λ.w
 frf:=fun _ _=>0
theorem qR (Λ:L) (b:Nat):∃fr,Λ.qg.lab b= .fix fr:=by
 simp only [L.qg]
 cases Λ.lab b with
 |fix fr=>exact ⟨_,rfl⟩
 |obj k=>exact ⟨_,rfl⟩
 |arr k n=>exact ⟨_,rfl⟩
 |fob k i=>exact ⟨_,rfl⟩
 |far k i n=>exact ⟨_,rfl⟩
theorem z8i {Λ:L} {b o:Nat}:Rd Λ.qg.lab b o↔Rd Λ.lab b o:=by
 unfold Rd;simp only [L.qg]
 cases Λ.lab b with
 |fix fr=>exact Iff.rfl
 |obj k=>simp
 |arr k n=>simp
 |fob k i=>simp
 |far k i n=>simp
theorem zP.qg {Λ:L} {v:Value} {x:T} (h:zP Λ.lab Λ.w v x):zP Λ.qg.lab Λ.qg.w v x:=h.yo fun _ _ _ _ hr=>⟨z8i.2 hr,rfl⟩
theorem zu.qg {Λ:L} {v:Value} {x:V} (h:zu Λ v x) (hb:x.bd 0=true):zu Λ.qg v x:=by
 induction h with
 |t h=>exact .t h.qg
 |zI=>exact .zI
 |own _ _ _ _ _=>simp [V.bd] at hb
 |slc _ _ _=>simp [V.bd] at hb
 |agg hs _ ih=>exact .agg hs fun j v c h1 h2=>ih j v c h1 h2 (V.ZH (by simpa [V.bd] using hb) j c h2)
 |tup hs _ ih=>exact .tup hs fun j v c h1 h2=>ih j v c h1 h2 (V.ZH (by simpa [V.bd] using hb) j c h2)
 |ptr _ _=>simp [V.bd] at hb
 |mp _ _=>simp [V.bd] at hb
 |@fn f vs cs hs h=>
  refine .fn hs fun j v c h1 h2=>?_;simp only [V.bd,List.all_eq_true] at hb;have:=hb c (zMG h2);simp at this
 |gd _ h' ih=>exact .gd (fun hc=>ih hc (by simpa [V.bd] using hb)) h'
 |top=>exact .top
 |ub h h'=>exact .ub h h'
 |fpt _ _=>simp [V.bd] at hb
 |gpt _ _ _ _=>simp [V.bd] at hb
 |gsl _ _ _ _=>simp [V.bd] at hb
 |fow _ _ _ _ _=>simp [V.bd] at hb
theorem Z5.qg {Λ:L} {sto:List (Nat×z6)} (h:Z5 Λ ⟨sto,Λ.nxt⟩):Z5 Λ.qg ⟨[],0⟩:=by
 refine ⟨by simp [zi],fun b b' k h1=>?_,fun b hb=>?_,fun b k hb=>?_,fun _ _=>rfl,fun b b' k i h1=>?_,fun b k hb=>?_,fun _ _ _=>rfl⟩
 ·obtain ⟨fr,e⟩:=qR Λ b;rw [e] at h1;simp at h1
 ·simp only [L.qg,h.new b hb]
 ·obtain ⟨fr,e⟩:=qR Λ b;rw [e] at hb;simp at hb
 ·obtain ⟨fr,e⟩:=qR Λ b;rw [e] at h1;simp at h1
 ·obtain ⟨fr,e⟩:=qR Λ b;rw [e] at hb;simp at hb
def L.back (Λ Λ':L):L where
 lab:=fun b=>if b<Λ.w.heap.size then Λ.lab b else Λ'.lab b
 fro:=Λ.fro
 nxt:=Λ.nxt
 w:=Λ'.w
 frf:=Λ.frf
theorem z7.pure {f:FuncId} {vs:List V} {x:V} {base:Nat} {s:List (Nat×z6)} (h:z7 P f vs ⟨[],0⟩ {v:=x}) (hb:V.bds 0 vs=true) (hx:x.bd 0=true):YS P f vs base s {v:=x}:=by
 refine ⟨h.1,by simp,fun Λ args hs _ _ hsz hargs=>?_⟩
 refine (h.2 Λ.qg args hs.qg Z hsz fun j v y h1 h2=>(hargs j v y h1 h2).qg (V.ZH hb j y h2)).mono fun e w' he=>?_;obtain ⟨v,Λ',rfl,rfl,k1,k2,k3,k4⟩:=he;simp only [Zq,Nat.add_zero] at k2 k3
 have hnl:∀b,∃fr,Λ'.lab b= .fix fr:=by
  intro b
  cases hl:Λ'.lab b with
  |fix fr=>exact ⟨fr,rfl⟩
  |obj k=>have:=k3.bnd b k (.inl hl);omega
  |arr k n=>have:=k3.bnd b k (.inr ⟨n,hl⟩);omega
  |fob k i=>have:=k3.wh b k (.inl ⟨i,hl⟩);omega
  |far k i n=>have:=k3.wh b k (.inr ⟨i,n,hl⟩);omega
 have hold:∀b,b<Λ.w.heap.size->Λ'.lab b=Λ.qg.lab b/\Λ'.w.heap[b]?=Λ.w.heap[b]?:=by
  intro b hb;obtain ⟨fr,e⟩:=qR Λ b;obtain ⟨e1,e2⟩:=k1.fr.fix b hb fr e
  exact ⟨by rw [e1,e],e2⟩
 have hlt:∀{b:Nat},b<Λ.w.heap.size->(Λ.back Λ').lab b=Λ.lab b:=fun h=>by simp [L.back,h]
 have hlow:∀{b:Nat} {x:Lab},Λ.lab b=x->x≠ .fix none->b<Λ.w.heap.size:=by
  intro b x hl hx
  rcases Nat.lt_or_ge b Λ.w.heap.size with h|h
  ·exact h
  ·rw [hs.new b h] at hl;exact absurd hl.symm hx
 have hinv:∀b,(∀fr,(Λ.back Λ').lab b≠ .fix fr)->(Λ.back Λ').lab b=Λ.lab b:=by
  intro b hb
  rcases Nat.lt_or_ge b Λ.w.heap.size with h|h
  ·exact hlt h
  ·exfalso;obtain ⟨fr,e⟩:=hnl b;exact hb fr (by simp [L.back,Nat.not_lt.2 h,e])
 have hinv':∀{b:Nat} {x:Lab},(Λ.back Λ').lab b=x->(∀fr,x≠ .fix fr)->Λ.lab b=x:=by
  intro b x hl hx;rw [←hl];exact (hinv b (fun fr e=>hx fr (hl.symm.trans e))).symm
 have hgo:∀{b:Nat} {x:Lab},Λ.lab b=x->x≠ .fix none->(Λ.back Λ').lab b=x/\(Λ.back Λ').w.heap[b]?=Λ.w.heap[b]?:=by
  intro b x hl hx;have hb:=hlow hl hx
  exact ⟨by rw [hlt hb];exact hl,(hold b hb).2⟩
 have hkp:Kp Λ (Λ.back Λ'):=by
  refine ⟨⟨k1.fr.os,k1.fr.tape,k1.fr.output,k1.fr.size,fun b hb fr hl=>⟨by rw [hlt hb];exact hl,(hold b hb).2⟩,fun b hb k fr hl o ho=>⟨by simp only [Rd,hlt hb,hl];exact ho,cell?_heap (hold b hb).2⟩,fun b hb k i fr hl o ho=>⟨by simp only [Rd,hlt hb,hl];exact ho,cell?_heap (hold b hb).2⟩⟩,Nat.le_refl _,fun b k _ hl=>(hgo hl (by simp)).1,fun b k n _ hb hl _=>⟨by rw [hlt hb];exact hl,(hold b hb).2⟩,fun _ _=>Nat.le_refl _,
   fun b k i _ hl=>⟨(hgo hl (by simp)).1,fun N hN=>by unfold Zs at hN⊢;rw [(hgo hl (by simp)).2];exact hN⟩,fun b k i n _ hb hl _=>hgo hl (by simp),fun _ _ _=>Nat.le_refl _,fun b k i _ _ _ hl=>hinv' hl (by simp)⟩
 have hF:Zf Λ (Λ.back Λ'):=⟨fun b k i=>⟨fun hl=>hinv' hl (by simp),fun hl=>(hgo hl (by simp)).1⟩,fun b k i n=>⟨fun hl=>hinv' hl (by simp),fun hl=>(hgo hl (by simp)).1⟩,rfl,fun b k i hl=>(hgo hl (by simp)).2,fun b k i n _ hl=>(hgo hl (by simp)).2⟩;refine ⟨v,Λ.back Λ',rfl,rfl,hkp,rfl,?_,?_,fun k hk _ _=>hk.yo hF (fun b hb=>hk.obj b (hinv' hb (by simp))) (fun b n hb=>hk.arr b n (hinv' hb (by simp))) hk.fro⟩
 ·refine hs.step hkp Z (fun k o ho=> .inl ⟨ho,fun b hb=>(hgo hb (by simp)).2,rfl⟩) (fun b b' k h1 h2=>hs.inj b b' k (hinv' h1 (by simp)) (hinv' h2 (by simp))) (fun b hb=>?_) (fun b k hb=>?_) hs.frz hF
  ·have hsz:Λ.w.heap.size<=b:=Nat.le_trans k1.fr.size hb
   have:(Λ.back Λ').lab b=Λ'.lab b:=by simp [L.back,Nat.not_lt.2 hsz]
   rw [this];exact k3.new b hb
  ·rcases hb with hb|⟨n,hb⟩
   ·exact hs.bnd b k (.inl (hinv' hb (by simp)))
   ·exact hs.bnd b k (.inr ⟨n,hinv' hb (by simp)⟩)
 ·have hrep:∀{u:Value} {y:T},zP Λ'.lab Λ'.w u y->zP (Λ.back Λ').lab (Λ.back Λ').w u y:=by
   intro u y hy;refine hy.yo fun b o _ _ hr=>⟨?_,rfl⟩
   rcases Nat.lt_or_ge b Λ.w.heap.size with h|h
   ·unfold Rd;rw [hlt h];have:Rd Λ'.lab b o:=hr;unfold Rd at this;rw [(hold b h).1] at this;exact z8i.1 this
   ·have e:(Λ.back Λ').lab b=Λ'.lab b:=by simp [L.back,Nat.not_lt.2 h]
    unfold Rd;rw [e];exact hr
  clear hb h
  simp only at k4⊢;generalize x=y at k4 hx
  induction k4 with
  |t h=>exact .t (hrep h)
  |zI=>exact .zI
  |own _ _ _ _ _=>simp [V.bd] at hx
  |slc _ _ _=>simp [V.bd] at hx
  |agg hs _ ih=>exact .agg hs fun j v c h1 h2=>ih j v c h1 h2 (V.ZH (by simpa [V.bd] using hx) j c h2)
  |tup hs _ ih=>exact .tup hs fun j v c h1 h2=>ih j v c h1 h2 (V.ZH (by simpa [V.bd] using hx) j c h2)
  |ptr _ _=>simp [V.bd] at hx
  |mp _ _=>simp [V.bd] at hx
  |@fn f vs cs hs h=>
   refine .fn hs fun j v c h1 h2=>?_;simp only [V.bd,List.all_eq_true] at hx;have:=hx c (zMG h2);simp at this
  |gd _ h' ih=>exact .gd (fun hc=>ih hc (by simpa [V.bd] using hx)) h'
  |top=>exact .top
  |ub h h'=>exact .ub h h'
  |fpt _ _=>simp [V.bd] at hx
  |gpt _ _ _ _=>simp [V.bd] at hx
  |gsl _ _ _ _=>simp [V.bd] at hx
  |fow _ _ _ _ _=>simp [V.bd] at hx
def L.zB (Λ:L) (m:Nat):L where
 lab:=fun b=>match Λ.lab b with
  | .obj k=>if k<m then .obj k else .fix (some 0)
  | .arr k fr=>if k<m then .arr k fr else .fix (some fr)
  | .fob k i=>if k<m then .fob k i else .fix (some 0)
  | .far k i fr=>if k<m then .far k i fr else .fix (some fr)
  |x=>x
 fro:=fun k=>if k<m then Λ.fro k else 0
 nxt:=m
 w:=Λ.w
 frf:=fun k i=>if k<m then Λ.frf k i else 0
def L.high (Λ:L) (m b:Nat):Bool:=
 match Λ.lab b with
 | .obj k=>decide (m<=k)
 | .arr k _=>decide (m<=k)
 | .fob k _=>decide (m<=k)
 | .far k _ _=>decide (m<=k)
 |_=>false
theorem z54 {Λ:L} {m b:Nat} (h:Λ.high m b=false):(Λ.zB m).lab b=Λ.lab b:=by
 unfold L.high at h;simp only [L.zB]
 cases hl:Λ.lab b with
 |fix fr=>rfl
 |obj k=>rw [hl] at h;simp at h;simp [h]
 |arr k fr=>rw [hl] at h;simp at h;simp [h]
 |fob k i=>rw [hl] at h;simp at h;simp [h]
 |far k i fr=>rw [hl] at h;simp at h;simp [h]
theorem z8Q {Λ:L} {m b:Nat} (h:Λ.high m b=true):∃fr,(Λ.zB m).lab b= .fix (some fr)/\((∃k,Λ.lab b= .obj k/\m<=k/\fr=0)∨(∃k,Λ.lab b= .arr k fr/\m<=k)∨(∃k i,Λ.lab b= .fob k i/\m<=k/\fr=0)∨∃k i,Λ.lab b= .far k i fr/\m<=k):=by
 unfold L.high at h;simp only [L.zB]
 cases hl:Λ.lab b with
 |fix fr=>rw [hl] at h;simp at h
 |obj k=>rw [hl] at h;simp at h;exact ⟨0,by simp;omega,.inl ⟨k,rfl,h,rfl⟩⟩
 |arr k fr=>rw [hl] at h;simp at h;exact ⟨fr,by simp;omega,.inr (.inl ⟨k,rfl,h⟩)⟩
 |fob k i=>rw [hl] at h;simp at h;exact ⟨0,by simp;omega,.inr (.inr (.inl ⟨k,i,rfl,h,rfl⟩))⟩
 |far k i fr=>rw [hl] at h;simp at h;exact ⟨fr,by simp;omega,.inr (.inr (.inr ⟨k,i,rfl,h⟩))⟩
theorem zg8 {Λ:L} {m b o:Nat}:Rd (Λ.zB m).lab b o↔Rd Λ.lab b o:=by
 cases hh:Λ.high m b with
 |false=>unfold Rd;rw [z54 hh]
 |true=>
  obtain ⟨fr,h1,h2⟩:=z8Q hh;unfold Rd
  rcases h2 with ⟨k,e,_,rfl⟩|⟨k,e,_⟩|⟨k,i,e,_,rfl⟩|⟨k,i,e,_⟩<;>rw [h1,e]<;>simp
theorem Wc {Λ:L} {m b k:Nat} (h:Λ.lab b= .obj k) (hk:k<m):(Λ.zB m).lab b= .obj k:=by simp [L.zB,h,hk]
theorem zcg {Λ:L} {m b k n:Nat} (h:Λ.lab b= .arr k n) (hk:k<m):(Λ.zB m).lab b= .arr k n:=by simp [L.zB,h,hk]
theorem QF {Λ:L} {m b k:Nat} (h:(Λ.zB m).lab b= .obj k):Λ.lab b= .obj k/\k<m:=by
 simp only [L.zB] at h
 cases hl:Λ.lab b with
 |fix fr=>simp [hl] at h
 |obj j=>simp only [hl] at h;split at h<;>simp_all
 |arr j n=>simp only [hl] at h;split at h<;>simp_all
 |fob j n=>simp only [hl] at h;split at h<;>simp_all
 |far j n q=>simp only [hl] at h;split at h<;>simp_all
theorem z0P {Λ:L} {m b k i:Nat} (h:Λ.lab b= .fob k i) (hk:k<m):(Λ.zB m).lab b= .fob k i:=by simp [L.zB,h,hk]
theorem zbJ {Λ:L} {m b k i n:Nat} (h:Λ.lab b= .far k i n) (hk:k<m):(Λ.zB m).lab b= .far k i n:=by simp [L.zB,h,hk]
theorem yM {Λ:L} {m b k i:Nat} (h:(Λ.zB m).lab b= .fob k i):Λ.lab b= .fob k i/\k<m:=by
 simp only [L.zB] at h
 cases hl:Λ.lab b with
 |fix fr=>simp [hl] at h
 |obj j=>simp only [hl] at h;split at h<;>simp_all
 |arr j n=>simp only [hl] at h;split at h<;>simp_all
 |fob j n=>simp only [hl] at h;split at h<;>simp_all
 |far j n q=>simp only [hl] at h;split at h<;>simp_all
theorem z7B {Λ:L} {m b k i n:Nat} (h:(Λ.zB m).lab b= .far k i n):Λ.lab b= .far k i n/\k<m:=by
 simp only [L.zB] at h
 cases hl:Λ.lab b with
 |fix fr=>simp [hl] at h
 |obj j=>simp only [hl] at h;split at h<;>simp_all
 |arr j n=>simp only [hl] at h;split at h<;>simp_all
 |fob j n=>simp only [hl] at h;split at h<;>simp_all
 |far j n q=>simp only [hl] at h;split at h<;>simp_all
theorem z7F {Λ:L} {m b k n:Nat} (h:(Λ.zB m).lab b= .arr k n):Λ.lab b= .arr k n/\k<m:=by
 simp only [L.zB] at h
 cases hl:Λ.lab b with
 |fix fr=>simp [hl] at h
 |obj j=>simp only [hl] at h;split at h<;>simp_all
 |arr j n=>simp only [hl] at h;split at h<;>simp_all
 |fob j n=>simp only [hl] at h;split at h<;>simp_all
 |far j n q=>simp only [hl] at h;split at h<;>simp_all
theorem zP.hf {Λ:L} {m:Nat} {v:Value} {x:T} (h:zP Λ.lab Λ.w v x):zP (Λ.zB m).lab (Λ.zB m).w v x:=h.yo fun _ _ _ _ hr=>⟨zg8.2 hr,rfl⟩
theorem zu.hf {Λ:L} {m:Nat} {v:Value} {x:V} (h:zu Λ v x) (hb:x.bd m=true):zu (Λ.zB m) v x:=by
 induction h with
 |t h=>exact .t h.hf
 |zI=>exact .zI
 |@own v k sz xs h hsz hl hn ho=>
  have hk:k<m:=by simpa [V.bd] using hb
  have hf:(Λ.zB m).fro k=Λ.fro k:=by simp [L.zB,hk]
  refine .own h.hf hsz hk (by rw [hf];exact hn) fun he=>?_
  rcases ho (by rw [←hf];exact he) with ho|⟨b,cap,arr,e,hv,hb',hh,hc,hn'⟩
  ·exact .inl ho
  ·exact .inr ⟨b,cap,arr,e,hv,zcg hb' hk,hh,hc,hn'⟩
 |@slc b k off len cap sz hl hc h=>
  have hk:k<m:=by simpa [V.bd] using hb
  exact .slc hk hc (Wc h hk)
 |agg hs _ ih=>exact .agg hs fun j v c h1 h2=>ih j v c h1 h2 (V.ZH (by simpa [V.bd] using hb) j c h2)
 |tup hs _ ih=>exact .tup hs fun j v c h1 h2=>ih j v c h1 h2 (V.ZH (by simpa [V.bd] using hb) j c h2)
 |@ptr b k off hl h=>
  have hk:k<m:=by simpa [V.bd] using hb
  exact .ptr hk (Wc h hk)
 |@mp b k hl h=>
  have hk:k<m:=by simpa [V.bd] using hb
  exact .mp hk (Wc h hk)
 |fn hs h=>
  refine .fn hs fun j v c h1 h2=>?_;obtain ⟨b,e1,e2,e3⟩:=h j v c h1 h2
  have hk:c.1<m:=by
   simp only [V.bd,List.all_eq_true,decide_eq_true_eq] at hb;exact hb c (zMG h2)
  exact ⟨b,e1,Wc e2 hk,hk⟩
 |gd _ h' ih=>exact .gd (fun hc=>ih hc (by simpa [V.bd] using hb)) h'
 |top=>exact .top
 |ub h h'=>exact .ub h h'
 |@fpt b k i off hl h=>
  have hk:k<m:=by simpa [V.bd] using hb
  exact .fpt hk (z0P h hk)
 |@gpt v k ver off hv hl hn h=>
  have hk:k<m:=by simpa [V.bd] using hb
  have hf:(Λ.zB m).frf k 0=Λ.frf k 0:=by simp [L.zB,hk]
  refine .gpt hv hk (by rw [hf];exact hn) fun he=>?_;obtain ⟨b,e1,i,e2,e3⟩:=h (by rw [←hf];exact he);exact ⟨b,e1,i,z0P e2 hk,fun b' i' h'=>e3 b' i' (yM h').1⟩
 |@gsl v k ver off len sz hv hl hn h=>
  have hk:k<m:=by simpa [V.bd] using hb
  have hf:(Λ.zB m).frf k 0=Λ.frf k 0:=by simp [L.zB,hk]
  refine .gsl hv hk (by rw [hf];exact hn) fun he=>?_
  rcases h (by rw [←hf];exact he) with h|⟨b,cap,N,hv,hc,⟨i,e2,e3⟩,hN,he'⟩
  ·exact .inl h
  ·exact .inr ⟨b,cap,N,hv,hc,⟨i,z0P e2 hk,fun b' i' h'=>e3 b' i' (yM h').1⟩,hN,he'⟩
 |@fow v k i sz xs h hsz hl hn ho=>
  have hk:k<m:=by simpa [V.bd] using hb
  have hf:(Λ.zB m).frf k i=Λ.frf k i:=by simp [L.zB,hk]
  refine .fow h.hf hsz hk (by rw [hf];exact hn) fun he=>?_
  rcases ho (by rw [←hf];exact he) with ho|⟨b,cap,arr,e,hv,hb',hh,hc,hn'⟩
  ·exact .inl ho
  ·exact .inr ⟨b,cap,arr,e,hv,zbJ hb' hk,hh,hc,hn'⟩
theorem Z5.hf {Λ:L} {m:Nat} {sto:List (Nat×z6)} (h:Z5 Λ ⟨sto,Λ.nxt⟩) (hs:zR m sto=true):Z5 (Λ.zB m) ⟨sto,m⟩:=by
 refine ⟨fun k o hk=>?_,fun b b' k h1 h2=>h.inj b b' k (QF h1).1 (QF h2).1,fun b hb=>?_,fun b k hb=>?_,fun k hk=>?_,fun b b' k i h1 h2=>h.w9 b b' k i (yM h1).1 (yM h2).1,fun b k hb=>?_,fun k i hk=>?_⟩
 ·obtain ⟨h1,h2⟩:=qh hs k o hk;refine ⟨h1,?_⟩;have hr:=(h.sto k o hk).2
  cases o with
  |cells cs=>
   obtain ⟨b,arr,e,e1,e2,e3,e4⟩:=hr;exact ⟨b,arr,e,Wc e1 h1,e2,e3,fun j v c a1 a2=>(e4 j v c a1 a2).hf (V.ZH (by simpa [z6.bd] using h2) j c a2)⟩
  |map kag es sx=>
   obtain ⟨b,ents,clock,e1,e2,e3⟩:=hr;exact ⟨b,ents,clock,Wc e1 h1,e2,e3.yo (fun _ _ h=>h.hf) (fun i kv v hi hv=>hv.hf (V.ZH (by simpa [z6.bd] using h2) i kv.2 (by simp [hi])))⟩
  |arr n=>unfold Wx at*;simp [L.zB,h1,hr]
  |iter q s seen c=>
   have hq:q<m:=by simpa [z6.bd] using h2
   obtain ⟨b,bm,e1,e2,e3,e4⟩:=hr;exact ⟨b,bm,Wc e1 h1,e2,Wc e3 hq,hq⟩
  |gro r cs=>
   obtain ⟨h0,hr⟩:=hr
   refine ⟨by simp [L.zB,h1,h0],?_⟩
   rcases hr with ⟨e1,e2⟩|⟨b,arr,e,⟨i,e1,e1'⟩,e2,e3,e4⟩
   ·exact .inl ⟨e1,fun b i hb=>e2 b i (yM hb).1⟩
   ·exact .inr ⟨b,arr,e,⟨i,z0P e1 h1,fun b' i' h'=>e1' b' i' (yM h').1⟩,e2,e3,fun j v c a1 a2=>(e4 j v c a1 a2).hf (V.ZH (by simpa [z6.bd] using h2) j c a2)⟩
  |yu os=>
   obtain ⟨h0,hr⟩:=hr;refine ⟨fun b i hbi=>h0 b i (yM hbi).1,fun i cs hi=>?_⟩;obtain ⟨b,arr,e,e1,e2,e3,e4⟩:=hr i cs hi
   have hbs:V.bds m cs=true:=by
    have:=h2;simp only [z6.bd,List.all_eq_true] at this;exact this cs (zMG hi)
   exact ⟨b,arr,e,z0P e1 h1,e2,e3,fun j v c a1 a2=>(e4 j v c a1 a2).hf (V.ZH hbs j c a2)⟩
  |y9 ns=>intro i;have:=hr i;simpa [L.zB,h1] using this
  |Wl kag I=>
   obtain ⟨b,ents,clock,e1,e2,e3,e4,e5⟩:=hr;refine ⟨b,ents,clock,Wc e1 h1,e2,e3,e4,fun i e hi=>?_⟩;obtain ⟨cs,v,g1,g2,g3⟩:=e5 i e hi;exact ⟨cs,v,g1.yo fun _ _ h=>h.hf,g2.hf,g3⟩
 ·simp only [L.zB,h.new b hb]
 ·rcases hb with hb|⟨n,hb⟩
  ·exact (QF hb).2
  ·exact (z7F hb).2
 ·have hk':m<=k:=hk;simp [L.zB];omega
 ·rcases hb with ⟨i,hb⟩|⟨i,n,hb⟩
  ·exact (yM hb).2
  ·exact (z7B hb).2
 ·have hk':m<=k:=hk;simp [L.zB];omega
end
section
variable {P:Program} {n m:Nat} {st:St} {Q:Yz->St->Prop}
theorem Sat.ite {z:Ar} {a b:zW} {t:Bool} (hz:z.v st= .t (.bool t)) (h1:t=true->Sat P n m a st Q) (h2:t=false->Sat P n m b st Q):Sat P n m (.cond z a b) st Q:=by
 refine Sat.cond hz ?_
 cases t with
 |true=>exact h1 rfl
 |false=>exact h2 rfl
theorem zaN {f:FuncId} {vs:List V} {x:V} {base:Nat} {sto:List (Nat×z6)} {K:Out->Prop} (h:z7 P f vs ⟨[],0⟩ {v:=x}) (hb:V.bds 0 vs=true) (hx:x.bd 0=true) (hk:K {v:=x}):QP P f vs base sto K:=
 ⟨{v:=x},by simp only [Bool.false_eq_true,if_false];exact fun s=>h.pure hb hx,hk⟩
theorem z7D {gc:Bool} {op:AOp} {base:Nat} {K:Out->Prop} (h1:gc=true->evX P base st K op) (h2:gc=false->K {v:= .gd false .top,rd:=Za st op}):zbu P gc base st K op:= .inr ⟨fun hg=> .inl (h1 hg),h2⟩
theorem z3.go {rs:List q8} {x:V} (h:match z1d st rs with|some r=>LeR 0 st.s r x|none=>False):z3 ⟨[],0⟩ {v:=x} rs .ret st:=by
 cases hr:z1d st rs with
 |none=>rw [hr] at h;exact h.elim
 |some r=>rw [hr] at h;exact ⟨r,hr,Nat.zero_le _,h,.le trivial⟩
theorem LeR.t {m:Nat} {s:S} {x y:T} (h:x=y):LeR m s (.t x) (.t y):= .le (.tEq h)
theorem LeR.own {m:Nat} {s:S} {k sz:Nat} {xs ys:List (List T)} (h:xs=ys):LeR m s (.own k sz xs) (.t (.lst ys)):= .le (h▸ .Zg)
theorem LeR.nil {m:Nat} {s:S} {ys:List (List T)} (h:[]=ys):LeR m s .zI (.t (.lst ys)):= .le (h▸ .Zh)
theorem LeR.wM {m:Nat} {s:S} {a b c d:V} (h1:LeR m s a c) (h2:LeR m s b d):LeR m s (.tup [a,b]) (.tup [c,d]):= .tup (.cons h1 (.cons h2 .nil))
end
theorem wrap64 {x:Int} (h1:-9223372036854775808<=x) (h2:x<=9223372036854775807):IntKind.i64.wrap x=x:=by rw [IntKind.wrap_i64];omega
theorem Qe {α:Type} {l:List α} {i:Nat} {x:α} {r:List α} (h:l.drop i=x::r):l[i]?=some x/\l.drop (i+1)=r/\i<l.length:=by
 have h1:l[i]?=some x:=by
  have:=List.getElem?_drop (xs:=l) (i:=i) (j:=0);rw [h] at this;simpa using this.symm
 refine ⟨h1,?_,(List.getElem?_eq_some_iff.1 h1).1⟩;rw [←List.drop_drop,h];rfl
theorem zaw {α:Type} {l:List α} {i:Nat} (h:l.drop i=[]):l.length<=i:=List.drop_eq_nil_iff.1 h
end Go.GB
