/-
  YtnmhhhnkjnhafaaGreatP2: lemmas. No conditions.
-/
import Derived.Test.YtnmhhhnkjnhafaaGreatP1
import Derived.LoopN
import Derived.Scope
set_option linter.all false
set_option maxRecDepth 100000
set_option maxHeartbeats 16000000
namespace Go.GB
section
variable {P:Program} {ops:Array Oper} {o:Oper} {base:Nat} {st:St}
theorem za3:∀(xs:List Operand) (ys:List Ar),xs.mapM opA=some ys->xs.length=ys.length/\∀(j:Nat) (x:Operand) (y:Ar),xs[j]?=some x->ys[j]?=some y->opA x=some y:=by
 intro xs
 induction xs with
 |nil=>intro c h;simp at h;subst h;simp
 |cons d cs ih=>
  intro c h;simp only [List.mapM_cons,Option.bind_eq_bind,Option.pure_def,Option.bind_eq_some_iff] at h;obtain ⟨y,hy,c',hc',h⟩:=h;simp at h;subst h;obtain ⟨i1,i2⟩:=ih c' hc'
  refine ⟨by simp [i1],fun j e z h1 h2=>?_⟩
  cases j with
  |zero=>simp at h1 h2;subst h1;subst h2;exact hy
  |succ j=>exact i2 j e z (by simpa using h1) (by simpa using h2)
theorem z31:∀(xs:List Ar) (j:Nat),(yk st xs)[j]?=(xs[j]?).map (Ar.u st)
 |[],j=>by simp [yk]
 |x::r,0=>by simp [yk]
 |x::r,j+1=>by simp [yk,z31 r j]
theorem z08:∀(xs:List Ar),(yk st xs).length=xs.length
 |[]=>rfl
 |x::r=>by simp [yk,z08 r]
theorem z3f:∀(xs:List (Nat×Nat)) (j:Nat),(Wy xs)[j]?=(xs[j]?).map fun c=>V.ptr c.1 c.2
 |[],j=>by simp [Wy]
 |x::r,0=>by simp [Wy]
 |x::r,j+1=>by simp [Wy,z3f r j]
theorem z2P:∀(xs:List (Nat×Nat)),(Wy xs).length=xs.length
 |[]=>rfl
 |x::r=>by simp [Wy,z2P r]
theorem z15 {C:Ctx} {Λ:L} {a:Act} (hr:Rel C Λ st a) {args:Array Operand} {args':List Ar} (h:args.toList.mapM opA=some args'):
  (args.map a.eval).size=(yk st args').length/\∀(j:Nat) (v:Value) (x:V),(args.map a.eval)[j]?=some v->(yk st args')[j]?=some x->zn Λ v x:=by
 obtain ⟨h1,h2⟩:=za3 _ _ h
 refine ⟨by simp [z08];simpa using h1,fun j v x hv hx=>?_⟩
 rw [z31,Option.map_eq_some_iff] at hx;obtain ⟨y,hy,rfl⟩:=hx;rw [Array.getElem?_map,Option.map_eq_some_iff] at hv;obtain ⟨z,hz,rfl⟩:=hv;exact hr.opu (h2 j z y (by simpa using hz) hy)
theorem z3K {f:FuncId} {vs:List V} {out:Out} (hf:YK P f vs base st.s.sto out)
  (hrun:∀(C:Ctx) (Λ:L) (a:Act),Rel C Λ st a->∃args:Array Value,(execOp a.eval o).run P Λ.w= .ok (.enter f args) Λ.w/\args.size=vs.length/\∀(j:Nat) (v:Value) (x:V),args[j]?=some v->vs[j]?=some x->zn Λ v x):
  zR P o base st out:=by
 intro C Λ a next Q hC hr hle hfree hnext;obtain ⟨args,h1,h2,h3⟩:=hrun C Λ a hr;unfold Oper.wp;rw [h1];refine (hf.2.2 Λ args ⟨hr.s.sto,hr.s.inj,hr.s.new,hr.s.bnd,hr.s.frz,hr.s.YO,hr.s.YM,hr.s.z0H⟩ hle hfree h2 h3).mono fun e w' h=>?_;obtain ⟨v,Λ',rfl,rfl,k1,k2,k3,k4,k5⟩:=h;exact hnext v Λ' k1 k2 ⟨k3.sto,k3.inj,k3.new,k3.bnd,k3.frz,k3.YO,k3.YM,k3.z0H⟩ k4 k5
theorem z9s {f:FuncId} {args:Array Operand} {ats:Array TypeId} {args':List Ar} {out:Out} (ho:o.op= .call {callee:= .value (.func f),args:=args,argTypes:=ats}) (ha:args.toList.mapM opA=some args')
  (hf:YK P f (yk st args') base st.s.sto out):zR P o base st out:=by
 refine z3K hf fun C Λ a hr=>?_;obtain ⟨h1,h2⟩:=z15 hr ha;refine ⟨args.map a.eval,?_,h1,h2⟩;have hb:=hf.1 (args.map a.eval) Λ.w;simp only [execOp,ho,resolve,Act.eval,Deferred.ofValue,Sem.run_bind,Sem.run_pure,Result.andThen_ok,invoke];simpa using hb
theorem zbB {f:FuncId} {t:Nat} {args:Array Operand} {ats:Array TypeId} {args':List Ar} {caps:List (Nat×Nat)} {out:Out} (ho:o.op= .call {callee:= .value (.tmp t),args:=args,argTypes:=ats}) (ha:args.toList.mapM opA=some args')
  (hv:(look st.env t).ug= .fn f caps) (hf:YK P f (yk st args'++Wy caps) base st.s.sto out):zR P o base st out:=by
 refine z3K hf fun C Λ a hr=>?_;obtain ⟨h1,h2⟩:=z15 hr ha;have ht:=(hr.env t).ug;rw [hv] at ht;generalize he:a.tmps.getD t undef=u at ht
 cases ht with
 |@fn _ vs _ hs hc=>
  refine ⟨args.map a.eval++vs,?_,by simp [z08,z2P] at h1⊢;omega,fun j v x hj hx=>?_⟩
  ·have hb:=hf.1 (args.map a.eval++vs) Λ.w;have he':a.eval (.tmp t)= .func (.func f) #[] vs:=he;simp only [execOp,ho,resolve,he',Deferred.ofValue,Sem.run_bind,Sem.run_pure,Result.andThen_ok,invoke];simpa using hb
  ·by_cases hjl:j<(args.map a.eval).size
   ·rw [Array.getElem?_append_left hjl] at hj;rw [List.getElem?_append_left (by omega)] at hx;exact h2 j v x hj hx
   ·rw [Array.getElem?_append_right (by omega)] at hj;rw [List.getElem?_append_right (by omega),z3f,Option.map_eq_some_iff] at hx;obtain ⟨c,hc1,rfl⟩:=hx;rw [←h1] at hc1;obtain ⟨b,e1,e2,e3⟩:=hc _ v c hj hc1;subst e1;exact .ptr e3 e2
theorem z9n {f:FuncId} {t:Nat} {args:Array Operand} {ats:Array TypeId} {args':List Ar} {out:Out} (ho:o.op= .call {callee:= .value (.tmp t),args:=args,argTypes:=ats}) (ha:args.toList.mapM opA=some args')
  (hv:(look st.env t).ug= .t (.fn f)) (hf:YK P f (yk st args') base st.s.sto out):zR P o base st out:=by
 refine z3K hf fun C Λ a hr=>?_;obtain ⟨h1,h2⟩:=z15 hr ha;have ht:=(hr.env t).ug;rw [hv] at ht
 have he:a.tmps.getD t undef= .func (.func f) #[] #[]:=by
  have:=ht.Zv;generalize a.tmps.getD t undef=u at this;cases this;rfl
 refine ⟨args.map a.eval,?_,h1,h2⟩;have hb:=hf.1 (args.map a.eval) Λ.w;have he':a.eval (.tmp t)= .func (.func f) #[] #[]:=he;simp only [execOp,ho,resolve,he',Deferred.ofValue,Sem.run_bind,Sem.run_pure,Result.andThen_ok,invoke];simpa using hb
theorem wc:∀{ps:List Bool},Zg ps->∀q∈ps,q=true
 |[],_,q,h=>by simp at h
 |p::r,h,q,hq=>by
  simp only [Zg] at h
  cases List.mem_cons.1 hq with
  |inl e=>subst e;exact h.1
  |inr e=>exact wc h.2 q e
theorem z9P {K:Out->Prop} {aop:AOp} (h:evX P base st K aop):∃out,evX P base st (· =out) aop/\K out:=by
 unfold evX at h;split at h
 ·split at h
  ·split at h
   ·split at h
    ·rename_i h1 _ _ h2 _ _ h3;refine ⟨_,?_,h.2⟩;simp only [evX,h1,h2,h3];exact ⟨h.1,by simp⟩
    ·exact h.elim
   ·exact h.elim
  ·exact h.elim
 ·split at h
  ·rename_i h1;refine ⟨_,?_,h.2⟩;simp only [evX,h1];exact ⟨h.1,by simp⟩
  ·exact h.elim
 ·exact ⟨_,by simp only [evX],h⟩
 ·split at h
  ·rename_i ow _ _ _ _ xs h1;cases ow
   ·refine ⟨_,?_,h.2⟩;simp only [evX,h1];exact ⟨h.1,by simp⟩
   ·obtain ⟨h2,h|h⟩:=h
    ·cases xs with
     |nil=>refine ⟨_,?_,h⟩;simp only [evX,h1];exact ⟨h2,by simp⟩
     |cons y ys=>refine ⟨_,?_,h⟩;simp only [evX,h1];exact ⟨h2,.inl (by simp)⟩
    ·refine ⟨_,?_,h⟩;simp only [evX,h1];exact ⟨h2,.inr (by trivial)⟩
  ·exact h.elim
 ·split at h
  ·split at h
   ·rename_i h1 _ h2;refine ⟨_,?_,h.2.2.2⟩;simp only [evX,h1,h2];exact ⟨h.1,h.2.1,h.2.2.1,by simp⟩
   ·split at h
    ·rename_i h1 _ _ _ _ h2 _ _ h3;refine ⟨_,?_,h.2.2.2.2.2⟩;simp only [evX,h1,h2,h3];exact ⟨h.1,h.2.1,h.2.2.1,h.2.2.2.1,h.2.2.2.2.1,by simp⟩
    ·exact h.elim
   ·exact h.elim
  ·exact h.elim
 ·split at h
  ·rename_i h1;refine ⟨_,?_,h.2⟩;simp only [evX,h1];exact ⟨h.1,by simp⟩
  ·exact h.elim
 ·obtain ⟨out,h1,h2⟩:=h;exact ⟨out,⟨out,h1,rfl⟩,h2⟩
 ·split at h
  ·rename_i h1;obtain ⟨out,h2,h3⟩:=h;refine ⟨out,?_,h3⟩;simp only [evX,h1];exact ⟨out,h2,rfl⟩
  ·rename_i h1;obtain ⟨out,h2,h3⟩:=h;refine ⟨out,?_,h3⟩;simp only [evX,h1];exact ⟨out,h2,rfl⟩
  ·exact h.elim
 ·exact ⟨_,by simp only [evX],h⟩
 ·split at h
  ·rename_i h1;split at h
   ·rename_i h2;exact ⟨_,by simp only [evX,h1,h2],h⟩
   ·exact h.elim
  ·exact h.elim
 ·split at h
  ·rename_i h1;exact ⟨_,by simp only [evX,h1],h⟩
  ·rename_i h1;split at h
   ·rename_i h2;exact ⟨_,by simp only [evX,h1,h2],h⟩
   ·exact h.elim
  ·exact h.elim
 ·rename_i op;simp only [evX];unfold ZE at h;split at h
  ·split at h
   ·rename_i h1 h2;split at h
    ·rename_i h3;exact ⟨_,by simp only [ZE,h1,h2,h3];exact ⟨h.1,by simp⟩,h.2⟩
    ·exact h.elim
   ·exact h.elim
  ·split at h
   ·rename_i h1 h2;split at h
    ·rename_i h3;exact ⟨_,by simp only [ZE,h1,h2,h3];exact ⟨h.1,by simp⟩,h.2⟩
    ·exact h.elim
   ·exact h.elim
  ·split at h
   ·rename_i h1;split at h
    ·rename_i h3;exact ⟨_,by simp only [ZE,h1,h3],h⟩
    ·exact h.elim
   ·exact h.elim
  ·split at h
   ·rename_i h1 h2;split at h
    ·rename_i h3;split at h
     ·rename_i h4;split at h
      ·rename_i h5 h6;exact ⟨_,by simp only [ZE,h1,h2,h3,h4,h5,h6];exact ⟨h.1,by simp⟩,h.2⟩
      ·exact h.elim
     ·rename_i h4;exact ⟨_,by simp only [ZE,h1,h2,h3,h4];exact ⟨h.1,by simp⟩,h.2⟩
    ·exact h.elim
   ·exact h.elim
  ·split at h
   ·rename_i h1 h2;split at h
    ·rename_i h3;split at h
     ·rename_i h4;exact ⟨_,by simp only [ZE,h1,h2,h3,h4],h⟩
     ·exact h.elim
    ·exact h.elim
   ·exact h.elim
  ·split at h
   ·rename_i h1 h2;split at h
    ·rename_i h3;split at h
     ·rename_i h4;exact ⟨_,by simp only [ZE,h1,h2,h3,h4],h⟩
     ·rename_i h4;exact ⟨_,by simp only [ZE,h1,h2,h3,h4],h⟩
     ·exact h.elim
    ·exact h.elim
   ·exact h.elim
  ·split at h
   ·rename_i h1 h2;split at h
    ·rename_i h3;split at h
     ·rename_i h4;exact ⟨_,by simp only [ZE,h1,h2,h3,h4],h⟩
     ·exact h.elim
    ·exact h.elim
   ·exact h.elim
  ·exact h.elim
 ·exact h.elim
theorem zag {n:Nat} {x v:Ar} (h:ZV P ops o=some (.st n x v)):∃t a b,o.op= .store t a b/\Zs P t=some n/\opA a=some x/\opA b=some v:=by
 unfold ZV at h
 (repeat' split at h)<;>simp [Option.bind_eq_some_iff] at h
 all_goals try (obtain ⟨_,_,_,_,h⟩:=h;split at h<;>simp [Option.bind_eq_some_iff] at h;done)
 rename_i t a b hop;obtain ⟨n',hn,a',ha,b',hb,rfl,rfl,rfl⟩:=h;exact ⟨t,a,b,hop,hn,ha,hb⟩
theorem zbW {n:Nat} {x:Ar} (h:ZV P ops o=some (.box n x)):∃t a,o.op= .box t a/\opA a=some x:=by
 unfold ZV at h
 (repeat' split at h)<;>simp [Option.bind_eq_some_iff] at h
 all_goals try (obtain ⟨_,_,_,_,h⟩:=h;split at h<;>simp [Option.bind_eq_some_iff] at h;done)
 rename_i t a hop;obtain ⟨hn,ha⟩:=h;exact ⟨t,a,hop,ha⟩
theorem z8I {zs:List V} (h:ZV P ops o=some (.alloc zs)):∃t,o.op= .alloc t/\ZK P t=some zs:=by
 unfold ZV at h
 (repeat' split at h)<;>simp [Option.bind_eq_some_iff] at h
 all_goals try (obtain ⟨_,_,_,_,h⟩:=h;split at h<;>simp [Option.bind_eq_some_iff] at h;done)
 rename_i t hop;exact ⟨t,hop,h⟩
theorem z7c {ow:Bool} {sz:Nat} {zs:List (List T)} {ps:List (Nat×Ar)} (h:ZV P ops o=some (.bsl ow sz zs ps)):Nonempty (z1S P o sz zs ps):=by
 unfold ZV at h
 (repeat' split at h)<;>simp [Option.bind_eq_some_iff] at h
 all_goals try (obtain ⟨_,_,_,_,h⟩:=h;split at h<;>simp [Option.bind_eq_some_iff] at h;done)
 rename_i t n parts hop _ e ht;obtain ⟨sz',hs,zv,hzv,z,hz,hle,ps',hps,_,rfl,rfl,rfl⟩:=h;exact ⟨⟨t,e,n,parts,zv,z,hop,ht,hs,hzv,hz,hle,rfl,hps⟩⟩
theorem z3q {sz bytes:Nat} {x y:Ar} (h:ZV P ops o=some (.app sz bytes x y)):Nonempty (z0j P o sz bytes x y):=by
 unfold ZV at h
 (repeat' split at h)<;>simp [Option.bind_eq_some_iff] at h
 all_goals try (obtain ⟨_,_,_,_,h⟩:=h;split at h<;>simp [Option.bind_eq_some_iff] at h;done)
 rename_i args ats hop _ _ x' y' t u ha hat htu _ e ht;obtain ⟨inf,hi,z,hz,hc,a',hx,b',hy,rfl,rfl,rfl,rfl⟩:=h;subst htu
 exact ⟨⟨x',y',args,ats,t,e,inf,z,hop,ha,hat,ht,hi,hz,rfl,rfl,by omega,by omega,hx,hy⟩⟩
theorem za2 {sz bytes:Nat} {z:List V} {n:Ar} (h:ZV P ops o=some (.z5D sz bytes z n)):∃t e l i,o.op= .makeSlice t (.tmp l) (.tmp l)/\P.underlying t=some (.slice e)/\P.info? e=some i/\ZK P e=some z/\i.size=sz/\i.bytes=bytes/\n= .s l:=by
 unfold ZV at h
 (repeat' split at h)<;>simp [Option.bind_eq_some_iff] at h
 all_goals try (obtain ⟨_,_,_,_,h⟩:=h;split at h<;>simp [Option.bind_eq_some_iff] at h;done)
 rename_i t l c hop _ e ht hlc;obtain ⟨inf,hi,z',hz,rfl,rfl,rfl,rfl⟩:=h;subst hlc;exact ⟨t,e,l,inf,hop,ht,hi,hz,rfl,rfl,rfl⟩
theorem z4j {f:FuncId} {args':List Ar} (h:ZV P ops o=some (.call f args')):∃args ats,o.op= .call {callee:= .value (.func f),args:=args,argTypes:=ats}/\args.toList.mapM opA=some args':=by
 unfold ZV at h
 (repeat' split at h)<;>simp [Option.bind_eq_some_iff] at h
 all_goals try (obtain ⟨_,_,_,_,h⟩:=h;split at h<;>simp [Option.bind_eq_some_iff] at h;done)
 obtain ⟨ha,rfl⟩:=h
 exact ⟨_,_,by assumption,ha⟩
theorem z8d {x:Ar} {args':List Ar} (h:ZV P ops o=some (.Qo x args')):∃t args ats,o.op= .call {callee:= .value (.tmp t),args:=args,argTypes:=ats}/\args.toList.mapM opA=some args'/\x= .s t:=by
 unfold ZV at h
 (repeat' split at h)<;>simp [Option.bind_eq_some_iff] at h
 all_goals try (obtain ⟨_,_,_,_,h⟩:=h;split at h<;>simp [Option.bind_eq_some_iff] at h;done)
 rename_i t args ats hop
 rcases h with ⟨h1,h2⟩
 first |exact ⟨t,args,ats,hop,h1,h2.symm⟩|exact ⟨t,args,ats,hop,h2,h1.symm⟩
theorem z7I {f:FuncId} {vs:List V} {sto:List (Nat×z3)} {out:Out} (h:z01 P f vs base sto (· =out)):YK P f vs base sto out:=by
 obtain ⟨out',h1,rfl⟩:=h;split at h1
 ·exact h1 sto fun _ _=>rfl
 ·exact h1 sto
theorem Qe {f:FuncId} {vs:List V} {sto:List (Nat×z3)} {out:Out} (h:Wr P f vs base sto (· =out)):YK P f vs base sto out:=by
 obtain ⟨out',h1,rfl⟩:=h;split at h1
 ·exact h1
 ·exact h1 sto
theorem z8s {kag vag:Bool} (h:ZV P ops o=some (.z0u kag vag)):∃t,o.op= .makeMap t none:=by
 unfold ZV at h
 (repeat' split at h)<;>simp [Option.bind_eq_some_iff] at h
 all_goals try (obtain ⟨_,_,_,_,h⟩:=h;split at h<;>simp [Option.bind_eq_some_iff] at h;done)
 exact ⟨_,by assumption⟩
theorem z5Z {x:Ar} (h:ZV P ops o=some (.z09 x)):∃t kt et a,o.op= .range t a/\P.underlying t=some (.map kt et)/\opA a=some x:=by
 unfold ZV at h
 (repeat' split at h)<;>simp [Option.bind_eq_some_iff] at h
 all_goals try (obtain ⟨_,_,_,_,h⟩:=h;split at h<;>simp [Option.bind_eq_some_iff] at h;done)
 exact ⟨_,_,_,_,by assumption,by assumption,h⟩
theorem z98 {x:Ar} (h:ZV P ops o=some (.z5z x)):∃args ats t kt et a,o.op= .call {callee:= .builtin .len,args:=args,argTypes:=ats}/\args[0]?=some a/\ats[0]?=some t/\P.underlying t=some (.map kt et)/\opA a=some x:=by
 unfold ZV at h
 (repeat' split at h)<;>simp [Option.bind_eq_some_iff] at h
 all_goals try (obtain ⟨_,_,_,_,h⟩:=h;split at h<;>simp [Option.bind_eq_some_iff] at h;done)
 exact ⟨_,_,_,_,_,_,by assumption,by assumption,by assumption,by assumption,h⟩
theorem z50 {gc:Bool} {nop:NOp} {v:V} {ps:List Bool} (hres:z5K P o=some nop) (he:Zl gc st nop=some (v,ps)) (hp:∀q∈ps,q):zC P o gc st v:=by
 unfold z5K at hres;split at hres
 ·rename_i t x k ok hop;split at hres
  ·rename_i kt et hu;simp only [Option.bind_eq_bind,Option.bind_eq_some_iff,Option.some.injEq] at hres;obtain ⟨⟨ks,kag⟩,h1,zv,h2,x',h3,k',h4,rfl⟩:=hres;exact zam hop hu h1 h2 h3 h4 he hp
  ·cases hres
 ·split at hres
  ·simp only [Option.bind_eq_bind,Option.bind_eq_some_iff,Option.some.injEq] at hres;obtain ⟨⟨ks,kag⟩,h1,x',h3,k',h4,v',h5,rfl⟩:=hres;simp [Zl] at he
  ·cases hres
 ·split at hres
  ·simp only [Option.bind_eq_bind,Option.bind_eq_some_iff,Option.some.injEq] at hres;obtain ⟨⟨ks,kag⟩,h1,zv,h2,x',h3,k',h4,rfl⟩:=hres;simp [Zl] at he
  ·cases hres
 ·simp only [Option.bind_eq_bind,Option.bind_eq_some_iff,Option.some.injEq] at hres;obtain ⟨_,_,_,_,_,_,rfl⟩:=hres;simp [Zl] at he
 ·rename_i op t x y ty hop;split at hres
  ·rename_i e hu;split at hres
   ·simp only [Option.bind_eq_bind,Option.bind_eq_some_iff,Option.some.injEq] at hres;obtain ⟨x',h3,rfl⟩:=hres;exact z92 (neg:=false) (by simpa using hop) Z hu h3 he hp
   ·simp only [Option.bind_eq_bind,Option.bind_eq_some_iff,Option.some.injEq] at hres;obtain ⟨x',h3,rfl⟩:=hres;exact z92 (neg:=true) (by simpa using hop) Z hu h3 he hp
   ·cases hres
  ·rename_i fs hu
   have kt:∀{ks:List KSh} {b:Bool},Yi P t=some (ks,b)->b=true:=by
    intro ks b h;unfold Yi at h;rw [hu] at h;simp only at h;split at h
    ·simp only [Option.map_eq_some_iff,Prod.mk.injEq] at h;obtain ⟨_,_,_,h⟩:=h;exact h.symm
    ·cases h
   split at hres
   ·rename_i ks b hk;simp only [Option.bind_eq_bind,Option.bind_eq_some_iff,Option.some.injEq] at hres;obtain ⟨x',h3,y',h4,rfl⟩:=hres;rw [kt hk] at hk;exact zal (neg:=false) (by simpa using hop) hk h3 h4 he hp
   ·rename_i ks b hk;simp only [Option.bind_eq_bind,Option.bind_eq_some_iff,Option.some.injEq] at hres;obtain ⟨x',h3,y',h4,rfl⟩:=hres;rw [kt hk] at hk;exact zal (neg:=true) (by simpa using hop) hk h3 h4 he hp
   ·cases hres
  ·cases hres
 ·split at hres
  ·split at hres
   ·simp only [Option.bind_eq_bind,Option.bind_eq_some_iff,Option.some.injEq] at hres;obtain ⟨⟨ks,kag⟩,h1,x',h3,k',h4,rfl⟩:=hres;simp [Zl] at he
   ·cases hres
  ·cases hres
 ·split at hres
  ·split at hres
   ·simp only [Option.bind_eq_bind,Option.bind_eq_some_iff,Option.some.injEq] at hres;obtain ⟨x',h3,rfl⟩:=hres;simp [Zl] at he
   ·split at hres
    ·split at hres
     ·simp only [Option.some.injEq] at hres;subst hres;simp [Zl] at he
     ·cases hres
    ·cases hres
   ·cases hres
  ·cases hres
 ·simp only [Option.bind_eq_bind,Option.bind_eq_some_iff,Option.some.injEq] at hres;obtain ⟨x',h3,rfl⟩:=hres;simp [Zl] at he
 ·rename_i x hop;simp only [Option.bind_eq_bind,Option.bind_eq_some_iff,Option.some.injEq] at hres;obtain ⟨x',h3,rfl⟩:=hres;exact zco hop h3 he hp
 ·rename_i f args ats hop;split at hres
  ·rename_i cnt x y hf ha;simp only [Option.bind_eq_bind,Option.bind_eq_some_iff,Option.some.injEq] at hres;obtain ⟨x',h3,y',h4,rfl⟩:=hres;exact zdM hop ha hf h3 h4 he hp
  ·rename_i x y hf ha;simp only [Option.bind_eq_bind,Option.bind_eq_some_iff,Option.some.injEq] at hres;obtain ⟨x',h3,y',h4,rfl⟩:=hres;exact zdP hop ha hf h3 h4 he hp
  ·cases hres
 ·rename_i src dst x hop;split at hres
  ·rename_i e hs hd;split at hres
   ·rename_i hu;simp only [Option.bind_eq_bind,Option.bind_eq_some_iff,Option.some.injEq] at hres;obtain ⟨x',h3,rfl⟩:=hres;exact zd8 hop hs hd hu h3 he hp
   ·simp only [Option.some.injEq] at hres;subst hres;simp [Zl] at he
  ·simp only [Option.some.injEq] at hres;subst hres;simp [Zl] at he
 ·simp only [Option.some.injEq] at hres;subst hres;simp [Zl] at he
theorem z6c {nop:NOp} {out:Out} (hres:z5K P o=some nop) (h:ZE st (· =out) nop):zR P o base st out:=by
 unfold z5K at hres;split at hres
 ·split at hres
  ·simp only [Option.bind_eq_bind,Option.bind_eq_some_iff,Option.some.injEq] at hres;obtain ⟨⟨ks,kag⟩,h1,zv,h2,x',h3,k',h4,rfl⟩:=hres;simp [ZE] at h
  ·cases hres
 ·rename_i t x k v hop;split at hres
  ·rename_i kt et hu;simp only [Option.bind_eq_bind,Option.bind_eq_some_iff,Option.some.injEq] at hres;obtain ⟨⟨ks,kag⟩,h1,x',h3,k',h4,v',h5,rfl⟩:=hres;simp only [ZE] at h;split at h
   ·rename_i q cs hx hk;split at h
    ·rename_i kag' es sx hes;obtain ⟨⟨rfl,h6⟩,rfl⟩:=h;exact zcF hop hu h1 h3 h4 h5 hx hk hes h6
    ·exact h.elim
   ·exact h.elim
  ·cases hres
 ·rename_i t x k hop;split at hres
  ·rename_i kt et hu;simp only [Option.bind_eq_bind,Option.bind_eq_some_iff,Option.some.injEq] at hres;obtain ⟨⟨ks,kag⟩,h1,zv,h2,x',h3,k',h4,rfl⟩:=hres;simp only [ZE] at h;split at h
   ·rename_i q cs hx hk;split at h
    ·rename_i kag' es c bs hes;split at h
     ·rename_i i hm;split at h
      ·rename_i e b he hb;obtain ⟨⟨rfl,h6⟩,rfl⟩:=h;exact (zar hop hu h1 h2 h3 h4 hx hk hes h6).1 i e b hm he hb
      ·exact h.elim
     ·rename_i hm;obtain ⟨⟨rfl,h6⟩,rfl⟩:=h;exact (zar hop hu h1 h2 h3 h4 hx hk hes h6).2 hm
    ·exact h.elim
   ·exact h.elim
  ·cases hres
 ·rename_i t x s v hop;simp only [Option.bind_eq_bind,Option.bind_eq_some_iff,Option.some.injEq] at hres;obtain ⟨x',h3,s',h4,v',h5,rfl⟩:=hres;simp only [ZE] at h;split at h
  ·rename_i q kd z hx hs;split at h
   ·rename_i kag es c bs hes;split at h
    ·rename_i i hi;subst h;exact zdm hop h3 h4 h5 hx hs hes hi
    ·exact h.elim
   ·exact h.elim
  ·exact h.elim
 ·split at hres
  ·split at hres
   ·simp only [Option.bind_eq_bind,Option.bind_eq_some_iff,Option.some.injEq] at hres;obtain ⟨x',h3,rfl⟩:=hres;simp [ZE] at h
   ·simp only [Option.bind_eq_bind,Option.bind_eq_some_iff,Option.some.injEq] at hres;obtain ⟨x',h3,rfl⟩:=hres;simp [ZE] at h
   ·cases hres
  ·split at hres
   ·simp only [Option.bind_eq_bind,Option.bind_eq_some_iff,Option.some.injEq] at hres;obtain ⟨x',h3,y',h4,rfl⟩:=hres;simp [ZE] at h
   ·simp only [Option.bind_eq_bind,Option.bind_eq_some_iff,Option.some.injEq] at hres;obtain ⟨x',h3,y',h4,rfl⟩:=hres;simp [ZE] at h
   ·cases hres
  ·cases hres
 ·rename_i args ats hop;split at hres
  ·rename_i x k ty ha hat;split at hres
   ·rename_i kt et hu;simp only [Option.bind_eq_bind,Option.bind_eq_some_iff,Option.some.injEq] at hres;obtain ⟨⟨ks,kag⟩,h1,x',h3,k',h4,rfl⟩:=hres;simp only [ZE] at h;split at h
    ·rename_i q cs hx hk;split at h
     ·rename_i kag' es sx hes;obtain ⟨⟨rfl,h6⟩,rfl⟩:=h;exact zdd hop ha hat hu h1 h3 h4 hx hk hes h6
     ·exact h.elim
    ·exact h.elim
   ·cases hres
  ·cases hres
 ·rename_i args ats hop;split at hres
  ·rename_i x ty ha hat;split at hres
   ·rename_i kt et hu;simp only [Option.bind_eq_bind,Option.bind_eq_some_iff,Option.some.injEq] at hres;obtain ⟨x',h3,rfl⟩:=hres;simp only [ZE] at h;split at h
    ·rename_i q hx;split at h
     ·rename_i kag es sx hes;subst h;exact zcO hop ha hat hu h3 hx hes
     ·exact h.elim
    ·exact h.elim
   ·split at hres
    ·split at hres
     ·simp only [Option.some.injEq] at hres;subst hres;simp [ZE] at h
     ·cases hres
    ·cases hres
   ·cases hres
  ·cases hres
 ·simp only [Option.bind_eq_bind,Option.bind_eq_some_iff,Option.some.injEq] at hres;obtain ⟨x',h3,rfl⟩:=hres;simp [ZE] at h
 ·simp only [Option.bind_eq_bind,Option.bind_eq_some_iff,Option.some.injEq] at hres;obtain ⟨x',h3,rfl⟩:=hres;simp [ZE] at h
 ·split at hres
  ·simp only [Option.bind_eq_bind,Option.bind_eq_some_iff,Option.some.injEq] at hres;obtain ⟨x',h3,y',h4,rfl⟩:=hres;simp [ZE] at h
  ·simp only [Option.bind_eq_bind,Option.bind_eq_some_iff,Option.some.injEq] at hres;obtain ⟨x',h3,y',h4,rfl⟩:=hres;simp [ZE] at h
  ·cases hres
 ·split at hres
  ·split at hres
   ·simp only [Option.bind_eq_bind,Option.bind_eq_some_iff,Option.some.injEq] at hres;obtain ⟨x',h3,rfl⟩:=hres;simp [ZE] at h
   ·simp only [Option.some.injEq] at hres;subst hres;simp [ZE] at h
  ·simp only [Option.some.injEq] at hres;subst hres;simp [ZE] at h
 ·simp only [Option.some.injEq] at hres;subst hres;simp [ZE] at h
theorem z68 {nop:NOp} {out:Out} (hres:z81 P o=some nop) (h:ZE st (· =out) nop):zR P o base st out:=by
 unfold z81 at hres;split at hres
 ·rename_i t x k hop;split at hres
  ·rename_i kt et hu;split at hres
   ·rename_i ha;simp only [Option.bind_eq_bind,Option.bind_eq_some_iff,Option.some.injEq] at hres;obtain ⟨ks,h1,zv,h2,x',h3,k',h4,rfl⟩:=hres;simp only [ZE] at h;split at h
    ·rename_i q cs hx hk;split at h
     ·rename_i es sx hes;split at h
      ·rename_i v hg;subst h;exact (z7h hop hu ha h1 h2 h3 h4 hx hk hes).1 v hg
      ·rename_i hg;subst h;exact (z7h hop hu ha h1 h2 h3 h4 hx hk hes).2 hg
      ·exact h.elim
     ·exact h.elim
    ·exact h.elim
   ·cases hres
  ·cases hres
 ·rename_i t x k v hop;split at hres
  ·rename_i kt et hu;split at hres
   ·rename_i ha;simp only [Option.bind_eq_bind,Option.bind_eq_some_iff,Option.some.injEq] at hres;obtain ⟨ks,h1,x',h3,k',h4,v',h5,rfl⟩:=hres;simp only [ZE] at h;split at h
    ·rename_i q cs hx hk;split at h
     ·rename_i es sx hes;split at h
      ·rename_i fs hg;subst h;exact zd1 hop hu ha h1 h3 h4 h5 hx hk hes hg
      ·exact h.elim
     ·exact h.elim
    ·exact h.elim
   ·cases hres
  ·cases hres
 ·cases hres
theorem z8z {aop:AOp} {out:Out} (hres:ZV P ops o=some aop) (h:evX P base st (· =out) aop):zR P o base st out:=by
 unfold evX at h;split at h
 ·obtain ⟨t,a,b,hop,hn,ha,hb⟩:=zag hres;split at h
  ·rename_i k off hx;split at h
   ·rename_i cs hk;split at h
    ·rename_i vs hvs;obtain ⟨⟨h1,h2⟩,rfl⟩:=h;exact zbw hop hn ha hb hx hk hvs (zDT h1) h2
    ·exact h.elim
   ·exact h.elim
  ·exact h.elim
 ·obtain ⟨t,a,hop,ha⟩:=zbW hres;split at h
  ·rename_i vs hvs;obtain ⟨_,rfl⟩:=h;exact zdT (n:=0) hop ha hvs
  ·exact h.elim
 ·obtain ⟨t,hop,hz⟩:=z8I hres;subst h;exact zaU hop hz
 ·obtain ⟨B⟩:=z7c hres;split at h
  ·rename_i hx;obtain ⟨_,h⟩:=h;split at h
   ·rcases h with h|h
    ·split at h
     ·next he=>subst h;exact z8w B hx (by simpa using he)
     ·subst h;exact z7V B hx
    ·subst h;exact zcg B hx
   ·subst h;exact zcg B hx
  ·exact h.elim
 ·obtain ⟨A⟩:=z3q hres;split at h
  ·rename_i ys hy;split at h
   ·rename_i hx;obtain ⟨h1,h2,h3,rfl⟩:=h;exact z7O A hx hy h1 h2 h3
   ·rename_i k s xs hx;split at h
    ·rename_i n hk;obtain ⟨rfl,rfl,h1,h2,h3,rfl⟩:=h;exact z8E A hx hk hy h1 h2 h3
    ·exact h.elim
   ·exact h.elim
  ·exact h.elim
 ·obtain ⟨t,e,l,i,hop,ht,hi,hz,rfl,rfl,rfl⟩:=za2 hres;split at h
  ·rename_i m hm;obtain ⟨⟨h1,h2,h3,h4⟩,rfl⟩:=h;exact zdb hop ht hi hz hm h1 h2 h3
  ·exact h.elim
 ·obtain ⟨args,ats,hop,ha⟩:=z4j hres;exact z9s hop ha (z7I h)
 ·obtain ⟨t,args,ats,hop,ha,rfl⟩:=z8d hres;split at h
  ·rename_i f hv;exact z9n hop ha hv (Qe h)
  ·rename_i f caps hv;exact zbB hop ha hv (Qe h)
  ·exact h.elim
 ·obtain ⟨t,hop⟩:=z8s hres;subst h;exact zc7 hop
 ·obtain ⟨t,kt,et,a,hop,hu,hx⟩:=z5Z hres;split at h
  ·rename_i q hv;split at h
   ·rename_i kag es c bs hes;subst h;exact z8Y hop hu hx hv hes
   ·exact h.elim
  ·exact h.elim
 ·obtain ⟨args,ats,t,kt,et,a,hop,ha,hat,hu,hx⟩:=z98 hres;split at h
  ·rename_i hv;subst h;exact za1 (n:=0) hop ha hat hu hx (.inl ⟨hv,rfl⟩)
  ·rename_i q hv;split at h
   ·rename_i kag es sx hes;subst h;exact za1 hop ha hat hu hx (.inr ⟨q,kag,es,sx,hv,hes,rfl⟩)
   ·exact h.elim
  ·exact h.elim
 ·exfalso;unfold ZV at hres
  (repeat' split at hres)<;>simp [Option.bind_eq_some_iff] at hres
  all_goals try (obtain ⟨_,_,_,_,hres⟩:=hres;split at hres<;>simp [Option.bind_eq_some_iff] at hres;done)
 ·exact h.elim
theorem wV {aop:AOp} (h:W9 P ops o=some aop):ZV P ops o=some aop∨∃nop,aop= .nw nop/\(z5K P o=some nop∨z81 P o=some nop):=by
 unfold W9 at h;split at h
 ·rename_i x hx;simp at h;subst h;exact .inl hx
 ·split at h
  ·rename_i n hn;simp at h;subst h;exact .inr ⟨_,rfl,.inl hn⟩
  ·simp only [Option.map_eq_some_iff] at h;obtain ⟨nop,h1,rfl⟩:=h;exact .inr ⟨nop,rfl,.inr h1⟩
theorem z2R {nop:NOp} (h:z81 P o=some nop):(∃ks zv x k,nop= .z2j ks zv x k)∨∃ks x k v,nop= .z83 ks x k v:=by
 unfold z81 at h
 (repeat' split at h)<;>simp [Option.bind_eq_some_iff] at h
 ·obtain ⟨_,_,_,_,_,_,_,_,rfl⟩:=h;exact .inl ⟨_,_,_,_,rfl⟩
 ·obtain ⟨_,_,_,_,_,_,_,_,rfl⟩:=h;exact .inr ⟨_,_,_,_,rfl⟩
theorem Wq {aop:AOp} (h:W9 P ops o=some aop) (hn:∀nop,aop≠ .nw nop):ZV P ops o=some aop:=by
 rcases wV h with h'|⟨nop,h0,_⟩
 ·exact h'
 ·exact absurd h0 (hn nop)
theorem z8V {sz:Nat} {z:List V} {x:Ar} (h:W9 P ops o=some (.nw (.zbS sz z x))):∃ty e a args ats,o.op= .call {callee:= .builtin .clear,args:=args,argTypes:=ats}/\args.toList=[a]/\ats[0]?=some ty/\P.underlying ty=some (.slice e)/\
  Zs P e=some sz/\ZK P e=some z/\z.all V.ZJ=true/\opA a=some x:=by
 rcases wV h with h'|⟨nop,h0,h'⟩
 ·exfalso;unfold ZV at h'
  (repeat' split at h')<;>simp [Option.bind_eq_some_iff] at h'
  all_goals try (obtain ⟨_,_,_,_,h'⟩:=h';split at h'<;>simp [Option.bind_eq_some_iff] at h';done)
 ·injection h0 with h0
  subst h0
  rcases h' with h'|h'
  rotate_left
  ·rcases z2R h' with ⟨_,_,_,_,e⟩|⟨_,_,_,_,e⟩<;>cases e
  unfold z5K at h'
  (repeat' split at h')<;>simp [Option.bind_eq_some_iff] at h'
  obtain ⟨rfl,rfl,rfl⟩:=h'
  exact ⟨_,_,_,_,_,by assumption,by assumption,by assumption,by assumption,by assumption,by assumption,by assumption,by assumption⟩
theorem z8P {aop:AOp} {out:Out} (hres:W9 P ops o=some aop) (h:z0G st base aop out):zR P o base st out:=by
 cases h with
 |stG hx hk hw hv hn ho hc=>
  obtain ⟨t,a,b,hop,hs,ha,hb⟩:=zag (Wq hres (by simp));exact zdw hop hs ha hb hx hk hw hv hn ho hc
 |z8S hx hy hc h1 h2=>
  obtain ⟨A⟩:=z3q (Wq hres (by simp));exact zd5 A hx hy h1 h2
 |zai hx hk hw hl hy hc h1 h2=>
  obtain ⟨A⟩:=z3q (Wq hres (by simp));exact zdi A hx hk hw hl hy hc h1 h2
 |z8H h=>
  obtain ⟨B⟩:=z7c (Wq hres (by simp));exact zcz B h
 |zb9 hx hk hw ho=>
  obtain ⟨ty,e,a,args,ats,hop,ha,hat,hu,hs,hz,hzc,hx'⟩:=z8V hres;exact zcX hop ha hat hu hs hz hzc hx' hx hk hw ho
theorem QU {gc:Bool} {aop:AOp} {v:V} {ps:List Bool} (hres:W9 P ops o=some aop) (he:zg gc st aop=some (v,ps)) (hp:∀q∈ps,q):zC P o gc st v:=by
 rcases wV hres with h|⟨nop,rfl,h|h⟩
 ·exact z56 h he hp
 ·exact z50 h he hp
 ·rcases z2R h with ⟨_,_,_,_,rfl⟩|⟨_,_,_,_,rfl⟩<;>simp [zg,Zl] at he
theorem z6O {aop:AOp} {out:Out} (hres:W9 P ops o=some aop) (h:evX P base st (· =out) aop∨evY base st (· =out) aop):zR P o base st out:=by
 rcases h with h|⟨out',h,rfl⟩
 ·rcases wV hres with h'|⟨nop,rfl,h'|h'⟩
  ·exact z8z h' h
  ·exact z6c h' h
  ·exact z68 h' h
 ·exact z8P hres h
theorem z32 {K:Out->Prop} {aop:AOp} (h:evX P base st K aop∨evY base st K aop):∃out,(evX P base st (· =out) aop∨evY base st (· =out) aop)/\K out:=by
 rcases h with h|⟨out,h1,h2⟩
 ·obtain ⟨out,h1,h2⟩:=z9P h;exact ⟨out,.inl h1,h2⟩
 ·exact ⟨out,.inr ⟨out,h1,rfl⟩,h2⟩
theorem z3B {f:FuncId} {args':List Ar} (h:W9 P ops o=some (.call f args')):∃args ats,o.op= .call {callee:= .value (.func f),args:=args,argTypes:=ats}/\args.toList.mapM opA=some args':=by
 rcases wV h with h'|⟨nop,h0,h'⟩
 ·exact z4j h'
 ·cases h0
theorem z6h {gc:Bool} {K:Out->Prop} {aop:AOp} (h:WK P gc base st K aop):∃out,WK P gc base st (· =out) aop/\K out:=by
 unfold WK at h⊢;split at h
 ·obtain ⟨out,h1,h2,h3⟩:=h;exact ⟨_,⟨out,h1,h2,rfl⟩,h3⟩
 ·exact h.elim
theorem z9o {ao:AO} {K:Out->Prop} (h:evO P base st ao K):∃out,evO P base st ao (· =out)/\K out:=by
 unfold evO at h;split at h
 ·rename_i hg;unfold evU at h;split at h
  ·rename_i v ps he;refine ⟨_,?_,h.2⟩
   simp only [evO,hg,evU,he];exact ⟨h.1,by simp⟩
  ·rename_i he;obtain ⟨out,h1,h2⟩:=z32 h;refine ⟨out,?_,h2⟩;simp only [evO,hg,evU,he];exact h1
 ·rename_i s want hg;split at h
  ·exact h.elim
  ·rename_i gc hc;split at h
   ·rename_i v ps he;refine ⟨_,?_,h.2⟩
    simp only [evO,hg,hc,he];exact ⟨h.1,by simp⟩
   ·rename_i he
    rcases h with h|h
    ·obtain ⟨out,h1,h2⟩:=z6h h;refine ⟨out,?_,h2⟩;simp only [evO,hg,hc,he];exact Or.inl h1
    cases gc with
    |true=>
     obtain ⟨out,h1,h2⟩:=z32 (h.1 rfl);refine ⟨out,?_,h2⟩
     simp only [evO,hg,hc,he];exact Or.inr ⟨fun _=>h1,by simp⟩
    |false=>
     refine ⟨_,?_,h.2 Z⟩
     simp only [evO,hg,hc,he];exact Or.inr ⟨by simp,fun _=>by simp⟩
theorem z3R {C:Ctx} {Λ:L} {a:Act} (hr:Rel C Λ st a) {j s:Nat} (hj:(ops[j]?).bind (·.dst)=some s) {want gc:Bool} (hg:z2K want (look st.env s)=some gc) (hlt:s<C.n):
  (yielded ops a.tmps j==some want)=gc:=by
 have hs:=hr.env s
 have hget:a.tmps[s]?=some (a.tmps.getD s undef):=by
  rw [Array.getD_eq_getD_getElem?];rw [Array.getElem?_eq_getElem (by rw [hr.size];exact hlt)];simp
 unfold yielded;rw [hj];simp only [Option.bind_some,hget];generalize a.tmps.getD s undef=u at hs;unfold z2K at hg;split at hg
 ·rename_i b hl;rw [hl] at hs;have:=hs.Zv.yW;subst this;simp at hg;subst hg
  cases b<;>cases want<;>rfl
 ·rename_i c b hl;rw [hl] at hs;simp at hg
  cases hs with
  |gd h1 h2=>
   cases c with
   |true=>
    have:=(h1 rfl).Zv.yW;subst this;subst hg
    cases b<;>cases want<;>rfl
   |false=>
    have:=h2 rfl;subst this;subst hg
    cases b<;>cases want<;>rfl
 ·rename_i hl;rw [hl] at hs;simp at hg;subst hg
  cases hs with
  |gd h1 h2=>
   have:=h2 rfl;subst this
   cases want<;>rfl
 ·simp at hg
theorem QZ {ao:AO} {out:Out} {i:Nat} (ho:ops[i]?=some o) (hres:z4k P ops o=some ao) (h:evO P base st ao (· =out)) {C:Ctx} {Λ:L} {a:Act} {next:Act->World->Prop} {Q:Exit->Act->World->Prop} (hC:C.P=P) (hr:Rel C Λ st a)
  (hdst:∀(j:Nat) (p:Oper) (d:Nat),ops[j]?=some p->p.dst=some d->d<C.n)
  (hle:base+out.n<=Λ.nxt) (hfree:∀k,base<=k->k<base+out.n->k<Λ.nxt/\y9 Λ k/\zi st.s.sto k=none)
  (hnext:∀v Λ',Kp Λ Λ'->Λ'.nxt=Λ.nxt->Z4 Λ' (st.s.app out)->zn Λ' v out.v->(∀k,y9 Λ k->zi st.s.sto k=none->(base+out.n<=k∨(k<base/\out.rd=false))->y9 Λ' k)->next (a.put o.dst v) Λ'.w):
  ao.dst=o.dst/\wpOp P ops Q i next a Λ.w:=by
 unfold z4k at hres;split at hres
 ·simp at hres
 ·rename_i aop hop;split at hres
  ·rename_i hg;simp at hres;subst hres;refine ⟨rfl,?_⟩
   have hw:Region.wanted o (yielded ops a.tmps)=true:=by simp [Region.wanted,hg]
   simp only [wpOp,ho,hw,if_true];refine .inl ?_;simp only [evO,evU] at h;split at h
   ·rename_i v ps he;obtain ⟨h1,rfl⟩:=h;exact zR.zd9 (QU hop he (wc h1)) C Λ a next Q hC hr hle hfree hnext
   ·exact z6O hop h C Λ a next Q hC hr hle hfree hnext
  ·rename_i j want hg;split at hres
   ·rename_i s hs;simp at hres;subst hres;refine ⟨rfl,?_⟩;simp only [evO] at h;split at h
    ·exact h.elim
    ·rename_i gc hc
     have hlt:s<C.n:=by
      cases hop':ops[j]? with
      |none=>rw [hop'] at hs;simp at hs
      |some p=>rw [hop'] at hs;exact hdst j p s hop' (by simpa using hs)
     have hy:=z3R hr hs hc hlt
     have hw:Region.wanted o (yielded ops a.tmps)=gc:=by simp only [Region.wanted,hg];exact hy
     simp only [wpOp,ho,hw];split at h
     ·rename_i v ps he;obtain ⟨h1,rfl⟩:=h
      cases gc with
      |true=>
       simp only [if_true];refine .inl ?_
       have hps:∀q∈ps,q=true:=by
        intro q hq;have:=wc h1 (!true||q) (List.mem_map.2 ⟨q,hq,rfl⟩);simpa using this
       refine zR.zd9 (r:=Za st aop) (QU hop he hps) C Λ a next Q hC hr (by simp at hle⊢;omega) (fun k h1 h2=>by simp at h2;omega) fun v' Λ' a1 a2 a3 a4 a5=>hnext v' Λ' a1 a2 a3 (.gd (fun _=>a4) (by simp)) a5
      |false=>
       simp only [Bool.false_eq_true,if_false];exact hnext undef Λ (Kp.refl _) Z hr.s (.gd (by simp) (fun _=>rfl)) (fun _ h _ _=>h)
     ·rcases h with h|h
      ·unfold WK at h;split at h
       ·rename_i fid args0 _;obtain ⟨out0,k1,⟨k2,k3⟩,rfl⟩:=h;obtain ⟨args,ats,hop',ha⟩:=z3B hop
        cases gc with
        |true=>
         simp only [if_true]
         have hf:YK P fid (yk st args0) base st.s.sto out0:=by
          have:=k1 rfl;split at this
          ·exact this
          ·exact this _
         have hso:zR P o base st out0:=z9s hop' ha hf;refine .inl (hso C Λ a next Q hC hr hle hfree fun v' Λ' a1 a2 a3 a4 a5=>hnext v' Λ' a1 a2 a3 (.gd (fun _=>a4) (by simp)) a5)
        |false=>
         simp only [Bool.false_eq_true,if_false];refine hnext undef Λ (Kp.refl _) Z ?_ (.gd (by simp) (fun _=>rfl)) (fun _ h _ _=>h);simp only [S.app,k2,Zj];exact hr.s
       ·exact h.elim
      cases gc with
      |true=>
       simp only [if_true];exact .inl (z6O hop (h.1 Z) C Λ a next Q hC hr hle hfree hnext)
      |false=>
       simp only [Bool.false_eq_true,if_false];have:=h.2 rfl;subst this;exact hnext undef Λ (Kp.refl _) Z hr.s (.gd (by simp) (fun _=>rfl)) (fun _ h _ _=>h)
   ·simp at hres
end
section
variable {P:Program} {ops:Array Oper}
def Ch (P:Program):Nat->St->List AO->List Out->Nat->St->Prop
 |base,st,[],[],b',s'=>b'=base/\s'=st
 |base,st,ao::r,out::os,b',s'=>evO P base st ao (· =out)/\Ch P (base+out.n) (st.app ao.dst out) r os b' s'
 |_,_,_,_,_,_=>False
def flags:List Out->List (Bool×Bool)
 |[]=>[]
 |o::r=>(o.rd,!o.ob.isEmpty||decide (0<o.n))::flags r
theorem z2D:∀{aos:List AO} {base:Nat} {st:St} {fl:List (Bool×Bool)} {K:Nat->St->List (Bool×Bool)->Prop},evR P base st aos fl K->∃outs b' st',Ch P base st aos outs b' st'/\K b' st' (fl++flags outs)
 |[],base,st,fl,K,h=>⟨[],base,st,⟨rfl,rfl⟩,by simpa [flags,evR] using h⟩
 |ao::r,base,st,fl,K,h=>by
  obtain ⟨out,h1,h2⟩:=z9o h;obtain ⟨outs,b',st',h3,h4⟩:=z2D h2
  exact ⟨out::outs,b',st',⟨h1,h3⟩,by simpa [flags] using h4⟩
theorem Ch.le:∀{aos:List AO} {base:Nat} {st:St} {outs:List Out} {b':Nat} {s':St},Ch P base st aos outs b' s'->base<=b'
 |[],_,_,[],_,_,h=>by rw [h.1];exact Nat.le_refl _
 |_::r,_,_,_::os,_,_,h=>by have:=Ch.le h.2;omega
 |[],_,_,_::_,_,_,h=>h.elim
 |_::_,_,_,[],_,_,h=>h.elim
def z85 (base:Nat) (st:St) (out:Out):Prop:=∀k o,(k,o)∈out.ob->zi st.s.sto k≠none∨(base<=k/\k<base+out.n)
theorem z66 {base:Nat} {st:St} {op:NOp} {out:Out} (h:ZE st (· =out) op):z85 base st out:=by
 unfold ZE at h;split at h
 ·split at h
  ·split at h
   ·rename_i hk;obtain ⟨_,rfl⟩:=h;intro j ob hj;simp at hj;rw [hj.1,hk];exact .inl (by simp)
   ·exact h.elim
  ·exact h.elim
 ·split at h
  ·split at h
   ·rename_i hk;obtain ⟨_,rfl⟩:=h;intro j ob hj;simp at hj;rw [hj.1,hk];exact .inl (by simp)
   ·exact h.elim
  ·exact h.elim
 ·split at h
  ·split at h
   ·rename_i hk;subst h;intro j ob hj;simp at hj;rw [hj.1,hk];exact .inl (by simp)
   ·exact h.elim
  ·exact h.elim
 ·split at h
  ·split at h
   ·rename_i hk;split at h
    ·split at h
     ·obtain ⟨_,rfl⟩:=h;intro j ob hj;simp at hj;rw [hj.1,hk];exact .inl (by simp)
     ·exact h.elim
    ·obtain ⟨_,rfl⟩:=h;intro j ob hj;simp at hj;rw [hj.1,hk];exact .inl (by simp)
   ·exact h.elim
  ·exact h.elim
 ·split at h
  ·split at h
   ·rename_i hk;split at h
    ·subst h;intro j ob hj;simp at hj;rw [hj.1,hk];exact .inl (by simp)
    ·exact h.elim
   ·exact h.elim
  ·exact h.elim
 ·split at h
  ·split at h
   ·split at h
    ·subst h;intro j ob hj;simp at hj
    ·subst h;intro j ob hj;simp at hj
    ·exact h.elim
   ·exact h.elim
  ·exact h.elim
 ·split at h
  ·split at h
   ·rename_i hk;split at h
    ·subst h;intro j ob hj;simp at hj;rw [hj.1,hk];exact .inl (by simp)
    ·exact h.elim
   ·exact h.elim
  ·exact h.elim
 ·exact h.elim
theorem z8x {base:Nat} {st:St} {aop:AOp} {out:Out} (h:evX P base st (· =out) aop):z85 base st out:=by
 unfold evX at h;split at h
 ·split at h
  ·split at h
   ·rename_i hk;split at h
    ·obtain ⟨_,rfl⟩:=h;intro j ob hj;simp at hj;rw [hj.1,hk];exact .inl (by simp)
    ·exact h.elim
   ·exact h.elim
  ·exact h.elim
 ·split at h
  ·obtain ⟨_,rfl⟩:=h;intro j ob hj;simp at hj;exact .inr (by simp;omega)
  ·exact h.elim
 ·subst h;intro j ob hj;simp at hj;exact .inr (by simp;omega)
 ·split at h
  ·obtain ⟨_,h⟩:=h;split at h
   ·rcases h with h|h
    ·split at h
     ·subst h;intro j ob hj;simp at hj
     ·subst h;intro j ob hj;simp at hj;exact .inr (by simp;omega)
    ·subst h;intro j ob hj;simp at hj
   ·subst h;intro j ob hj;simp at hj
  ·exact h.elim
 ·split at h
  ·split at h
   ·obtain ⟨_,_,_,rfl⟩:=h;intro j ob hj;simp at hj;exact .inr (by simp;omega)
   ·split at h
    ·rename_i hk;obtain ⟨_,_,_,_,_,rfl⟩:=h;intro j ob hj;simp at hj;rw [hj.1,hk];exact .inl (by simp)
    ·exact h.elim
   ·exact h.elim
  ·exact h.elim
 ·split at h
  ·obtain ⟨_,rfl⟩:=h;intro j ob hj;simp at hj;exact .inr (by simp;omega)
  ·exact h.elim
 ·exact (z7I h).2.1
 ·split at h
  ·exact (Qe h).2.1
  ·exact (Qe h).2.1
  ·exact h.elim
 ·subst h;intro j ob hj;simp at hj;exact .inr (by simp;omega)
 ·split at h
  ·split at h
   ·subst h;intro j ob hj;simp at hj;exact .inr (by simp;omega)
   ·exact h.elim
  ·exact h.elim
 ·split at h
  ·subst h;intro j ob hj;simp at hj
  ·split at h
   ·subst h;intro j ob hj;simp at hj
   ·exact h.elim
  ·exact h.elim
 ·exact z66 h
 ·exact h.elim
theorem z8K {base:Nat} {st:St} {aop:AOp} {out:Out} (h:z0G st base aop out):z85 base st out:=by
 cases h with
 |stG hx hk|zai hx hk|zb9 hx hk=>intro j ob hj;simp at hj;rw [hj.1,hk];exact .inl (by simp)
 |z8S|z8H=>intro j ob hj;simp at hj;exact .inr (by simp;omega)
theorem z1d {base:Nat} {st:St} {aop:AOp} {out:Out} (h:evX P base st (· =out) aop∨evY base st (· =out) aop):z85 base st out:=by
 rcases h with h|⟨out',h,rfl⟩
 ·exact z8x h
 ·exact z8K h
theorem qv {base:Nat} {st:St} {ao:AO} {out:Out} (h:evO P base st ao (· =out)):z85 base st out:=by
 unfold evO at h;split at h
 ·unfold evU at h;split at h
  ·obtain ⟨_,rfl⟩:=h;intro j ob hj;simp at hj
  ·exact z1d h
 ·split at h
  ·exact h.elim
  ·rename_i gc _;split at h
   ·obtain ⟨_,rfl⟩:=h;intro j ob hj;simp at hj
   ·rcases h with h|h
    ·unfold WK at h;split at h
     ·obtain ⟨out0,_,⟨k2,_⟩,rfl⟩:=h;intro j ob hj;simp [k2] at hj
     ·exact h.elim
    cases gc with
    |true=>exact z1d (h.1 rfl)
    |false=>have:=h.2 rfl;subst this;intro j ob hj;simp at hj
theorem Wx:∀(ob:List (Nat×z3)) (s:List (Nat×z3)) (k:Nat),zi s k=none->(∀o,(k,o)∉ob)->zi (Zj s ob) k=none
 |[],s,k,h,_=>h
 |(j,o)::r,s,k,h,hn=>by
  refine Wx r (yC s j o) k ?_ (fun o' ho'=>hn o' (List.mem_cons_of_mem _ ho'));rw [Zh]
  have:j≠k:=by rintro rfl;exact hn o (by simp)
  simp [this,h]
theorem z1r {base:Nat} {st:St} {out:Out} (hn:z85 base st out) {k:Nat} (hk:zi st.s.sto k=none) (ho:k<base∨base+out.n<=k) (d:Option Nat):zi (st.app d out).s.sto k=none:=by
 refine Wx _ _ _ hk fun o h=>?_
 rcases hn k o h with h|h
 ·exact h hk
 ·omega
def z9r (C:Ctx) (ops:Array Oper):Prop:=∀(j:Nat) (p:Oper) (d:Nat),ops[j]?=some p->p.dst=some d->d<C.n
theorem QA:∀{l:List Oper} {aos:List AO},z0e P ops l=some aos->l.length=aos.length/\∀(j:Nat) (o:Oper) (ao:AO),l[j]?=some o->aos[j]?=some ao->z4k P ops o=some ao
 |[],aos,h=>by simp [z0e] at h;subst h;simp
 |o::r,aos,h=>by
  simp only [z0e] at h;split at h
  ·rename_i a l h1 h2;simp at h;subst h;obtain ⟨i1,i2⟩:=QA h2
   refine ⟨by simp [i1],fun j p ao hp ha=>?_⟩
   cases j with
   |zero=>simp at hp ha;subst hp;subst ha;exact h1
   |succ j=>exact i2 j p ao (by simpa using hp) (by simpa using ha)
  ·simp at h
theorem z7b {C:Ctx} (hC:C.P=P) (hd:z9r C ops) {aos:List AO} (hres:z0e P ops ops.toList=some aos) {Q:Exit->Act->World->Prop} {b':Nat} {st':St} (m:Nat):
  ∀(r:List AO) (i:Nat) (base:Nat) (st:St) (outs:List Out) (Λ:L) (a:Act),aos.drop i=r->Ch P base st r outs b' st'->Rel C Λ st a->Λ.nxt=m->b'<=m->
   (∀k,base<=k->k<m->y9 Λ k/\zi st.s.sto k=none)->(∀(a':Act) (Λ':L),Rel C Λ' st' a'->Λ'.nxt=m->Q .normal a' Λ'.w)->wpOps P ops Q (List.range' i r.length) a Λ.w
 |[],i,base,st,outs,Λ,a,_,hch,hr,hm,_,_,hq=>by
  cases outs with
  |nil=>obtain ⟨rfl,rfl⟩:=hch;simp only [List.length_nil,List.range'_zero,wpOps];exact hq a Λ hr hm
  |cons _ _=>exact hch.elim
 |ao::r,i,base,st,outs,Λ,a,hdrop,hch,hr,hm,hb,hf,hq=>by
  cases outs with
  |nil=>exact hch.elim
  |cons out os=>
   obtain ⟨h1,h2⟩:=hch;obtain ⟨hlen,hat⟩:=QA hres
   have hi:i<aos.length:=by
    rcases Nat.lt_or_ge i aos.length with h|h
    ·exact h
    ·rw [List.drop_eq_nil_of_le h] at hdrop;cases hdrop
   have hao:aos[i]?=some ao:=by
    have:=List.getElem?_drop (xs:=aos) (i:=i) (j:=0);rw [hdrop] at this;simpa using this.symm
   have hopi:i<ops.size:=by rw [←Array.length_toList,hlen];exact hi
   have ho:ops[i]?=some ops[i]:=by simp [hopi]
   have hro:=hat i ops[i] ao (by simp) hao;have hle:=Ch.le h2;have hnm:=qv h1;simp only [List.length_cons,List.range'_succ];rw [wpOps_cons];refine (QZ ho hro h1 hC hr hd (by omega) (fun k k1 k2=>?_) fun v Λ' k1 k2 k3 k4 k5=>?_).2
   ·obtain ⟨f1,f2⟩:=hf k k1 (by omega)
    exact ⟨by omega,f1,f2⟩
   ·have hdst:ao.dst=ops[i].dst:=(QZ (next:=fun _ _=>True) (Q:=Q) ho hro h1 hC hr hd (by omega) (fun k k1 k2=>by
     obtain ⟨f1,f2⟩:=hf k k1 (by omega);exact ⟨by omega,f1,f2⟩) (fun _ _ _ _ _ _ _=>trivial)).1
    have hr':Rel C Λ' (st.app ao.dst out) (a.put ao.dst v):=hr.step k1 (fun x hx=>hd i _ x ho (by rw [←hdst];exact hx)) k4 k3;rw [←hdst];refine z7b hC hd hres m r (i+1) _ _ os Λ' _ (by rw [←List.drop_drop,hdrop];rfl) h2 hr' (by omega) hb (fun k k6 k7=>?_) hq;obtain ⟨f1,f2⟩:=hf k (by omega) k7;exact ⟨k5 k f1 f2 (.inl k6),z1r hnm f2 (.inr k6) _⟩
end
def Ar.z6:Ar->List Nat
 | .s t=>[t]
 | .c _=>[]
def Ar.z1u:Option Ar->List Nat
 |some x=>x.z6
 |none=>[]
def yU:List Ar->List Nat
 |[]=>[]
 |x::r=>x.z6++yU r
def YJ:List (Nat×Nat×Ar)->List Nat
 |[]=>[]
 |(_,_,x)::r=>x.z6++YJ r
def yn:List (Nat×Ar)->List Nat
 |[]=>[]
 |(_,x)::r=>x.z6++yn r
def NOp.z6:NOp->List Nat
 | .lookup _ _ _ _ x k=>x.z6++k.z6
 | .z9S _ _ x k v=>x.z6++(k.z6++v.z6)
 | .zbA _ _ x k=>x.z6++k.z6
 | .zbG _ _ _ x k=>x.z6++k.z6
 | .zc5 x s v=>x.z6++(s.z6++v.z6)
 | .zbt x=>x.z6
 | .nxt x=>x.z6
 | .z6j x=>x.z6
 | .xtr _ x y=>x.z6++y.z6
 | .xcm x y=>x.z6++y.z6
 | .bad=>[]
 | .zbS _ _ x=>x.z6
 | .eqn _ x=>x.z6
 | .z7P _ _ x y=>x.z6++y.z6
 | .z9Z x=>x.z6
 | .z2j _ _ x k=>x.z6++k.z6
 | .z83 _ x k v=>x.z6++(k.z6++v.z6)
def AOp.z6:AOp->List Nat
 | .nw op=>op.z6
 | .cst _=>[]
 | .mv x=>x.z6
 | .pick c a b=>c.z6++(a.z6++b.z6)
 | .un _ x=>x.z6
 | .bin _ x y=>x.z6++y.z6
 | .eqb _ x y=>x.z6++y.z6
 | .eqp _ x=>x.z6
 | .eqm _ x=>x.z6
 | .conv _ x=>x.z6
 | .z6U x=>x.z6
 | .z2N x=>x.z6
 | .fa _ x=>x.z6
 | .ld _ _ x=>x.z6
 | .ia _ x i=>x.z6++i.z6
 | .z9B _ _ x i=>x.z6++i.z6
 | .ixs x i=>x.z6++i.z6
 | .ixa _ _ _ x i=>x.z6++i.z6
 | .len x=>x.z6
 | .lens x=>x.z6
 | .sls x lo hi=>x.z6++(Ar.z1u lo++Ar.z1u hi)
 | .sll _ x lo hi=>x.z6++(Ar.z1u lo++Ar.z1u hi)
 | .fld _ _ _ x=>x.z6
 | .zbP x y=>x.z6++y.z6
 | .zbI x y=>x.z6++y.z6
 | .build _ ps=>YJ ps
 | .zb4 _ caps=>yU caps
 | .z5z x=>x.z6
 | .st _ x v=>x.z6++v.z6
 | .box _ x=>x.z6
 | .alloc _=>[]
 | .bsl _ _ _ ps=>yn ps
 | .app _ _ x y=>x.z6++y.z6
 | .ext x _=>x.z6
 | .z0u _ _=>[]
 | .z09 x=>x.z6
 | .z5D _ _ _ n=>n.z6
 | .call _ args=>yU args
 | .Qo x args=>x.z6++yU args
def AO.reads (ao:AO):List Nat:=(match ao.g with|some (s,_)=>[s]|none=>[])++ao.op.z6
section
variable {P:Program} {st st':St}
theorem yr {x:Ar} (h:∀t∈x.z6,look st.env t=look st'.env t):x.v st=x.v st':=by
 cases x with
 |s t=>exact h t (by simp [Ar.z6])
 |c v=>rfl
theorem qw {x:Ar} (h:∀t∈x.z6,look st.env t=look st'.env t):x.u st=x.u st':=by unfold Ar.u;rw [yr h]
theorem ZH {gc:Bool} {x:Ar} (h:∀t∈x.z6,look st.env t=look st'.env t):rd gc st x=rd gc st' x:=by
 unfold rd;rw [yr h]
theorem qm {gc:Bool} {x:Option Ar} {d:Int} (h:∀t∈Ar.z1u x,look st.env t=look st'.env t):bnd x gc st d=bnd x gc st' d:=by
 cases x with
 |none=>rfl
 |some x=>simp only [bnd];rw [ZH (st:=st) (st':=st') h]
theorem z0f {gc:Bool}:∀{ps:List (Nat×Nat×Ar)} {cs:List V},(∀t∈YJ ps,look st.env t=look st'.env t)->Qw st gc cs ps=Qw st' gc cs ps
 |[],_,_=>rfl
 |(off,n,x)::r,cs,h=>by
  simp only [Qw];rw [ZH (st:=st) (st':=st') (fun t ht=>h t (by simp [YJ,ht]))];have ih:=fun cs=>z0f (gc:=gc) (ps:=r) (cs:=cs) (fun t ht=>h t (by simp [YJ,ht]));simp only [ih]
theorem Ql:∀{xs:List Ar},(∀t∈yU xs,look st.env t=look st'.env t)->Wl st xs=Wl st' xs
 |[],_=>rfl
 |x::r,h=>by
  simp only [Wl];rw [yr (st:=st) (st':=st') (fun t ht=>h t (by simp [yU,ht])),Ql (xs:=r) (fun t ht=>h t (by simp [yU,ht]))]
theorem YN:∀{xs:List Ar},(∀t∈yU xs,look st.env t=look st'.env t)->yk st xs=yk st' xs
 |[],_=>rfl
 |x::r,h=>by
  simp only [yk];rw [qw (st:=st) (st':=st') (fun t ht=>h t (by simp [yU,ht])),YN (xs:=r) (fun t ht=>h t (by simp [yU,ht]))]
theorem Wu {sz:Nat}:∀{ps:List (Nat×Ar)} {xs:List (List T)},(∀t∈yn ps,look st.env t=look st'.env t)->ZB st sz xs ps=ZB st' sz xs ps
 |[],_,_=>rfl
 |(i,x)::r,xs,h=>by
  simp only [ZB];rw [qw (st:=st) (st':=st') (fun t ht=>h t (by simp [yn,ht]))];have ih:=fun xs=>Wu (sz:=sz) (ps:=r) (xs:=xs) (fun t ht=>h t (by simp [yn,ht]));simp only [ih]
theorem Wk {op:AOp} (h:∀t∈op.z6,look st.env t=look st'.env t):Za st op=Za st' op:=by
 cases op<;>simp only [Za]
 case ld ag n x=>rw [yr (st:=st) (st':=st') (fun t ht=>h t (by simp [AOp.z6,ht]))]
 case eqp a x=>rw [yr (st:=st) (st':=st') (fun t ht=>h t (by simp [AOp.z6,ht]))]
 case z2N x=>rw [yr (st:=st) (st':=st') (fun t ht=>h t (by simp [AOp.z6,ht]))]
 case fa a x=>rw [yr (st:=st) (st':=st') (fun t ht=>h t (by simp [AOp.z6,ht]))]
 case ia a x i=>rw [yr (st:=st) (st':=st') (fun t ht=>h t (by simp [AOp.z6,ht]))]
 case len x=>rw [yr (st:=st) (st':=st') (fun t ht=>h t (by simp [AOp.z6,ht]))]
 case sll a x lo hi=>rw [yr (st:=st) (st':=st') (fun t ht=>h t (by simp [AOp.z6,ht]))]
 case nw op=>
  cases op<;>simp only
  case lookup a b c d x k=>rw [yr (st:=st) (st':=st') (fun t ht=>h t (by simp [AOp.z6,NOp.z6,ht]))]
  case z6j x=>rw [yr (st:=st) (st':=st') (fun t ht=>h t (by simp [AOp.z6,NOp.z6,ht]))]
def V.ng:V->Bool
 | .gpt _ _ _=>false
 | .gsl _ _ _ _ _=>false
 |_=>true
theorem z2X {gc:Bool} {x:Ar} (h:Ys (x.v st)=false):(rd gc st x).1.ng=true:=by
 unfold rd;generalize x.v st=y at h⊢
 cases y with
 |gpt _ _ _=>simp [Ys] at h
 |gsl _ _ _ _ _=>simp [Ys] at h
 |gd c y=>
  cases y with
  |gpt _ _ _=>simp [Ys] at h
  |gsl _ _ _ _ _=>simp [Ys] at h
  |_=>rfl
 |_=>rfl
theorem YT {gc:Bool} {op:AOp} (h:∀t∈op.z6,look st.env t=look st'.env t) (hs:Za st op=false∨st.s.sto=st'.s.sto):zg gc st op=zg gc st' op:=by
 have r1:∀(g:Bool) (x:Ar),(∀t∈x.z6,t∈op.z6)->rd g st x=rd g st' x:=fun g x hx=>ZH fun t ht=>h t (hx t ht)
 cases op with
 |cst v=>rfl
 |mv x=>simp only [zg];rw [r1 gc x (fun t ht=>ht)]
 |pick c a b=>simp only [zg];rw [r1 gc c (fun t ht=>by simp [AOp.z6,ht])];simp only [r1 _ a (fun t ht=>by simp [AOp.z6,ht]),r1 _ b (fun t ht=>by simp [AOp.z6,ht])]
 |un op x=>cases op<;>simp only [zg]<;>rw [r1 gc x (fun t ht=>ht)]
 |bin op x y=>simp only [zg];rw [r1 gc x (fun t ht=>by simp [AOp.z6,ht]),r1 gc y (fun t ht=>by simp [AOp.z6,ht])]
 |eqb op x y=>simp only [zg];rw [r1 gc x (fun t ht=>by simp [AOp.z6,ht]),r1 gc y (fun t ht=>by simp [AOp.z6,ht])]
 |eqp op x=>
  have hx:=r1 gc x (fun t ht=>by simp [AOp.z6,ht])
  rcases hs with hs|hs
  ·have h0:=z2X (gc:=gc) (by simpa [Za] using hs);simp only [zg,←hx];generalize rd gc st x=z at h0⊢;obtain ⟨v,p⟩:=z
   cases v<;>first |rfl|(simp [V.ng] at h0;done)|(rename_i y;cases y<;>rfl)
  ·simp only [zg,←hx,hs]
 |eqm op x=>simp only [zg];rw [r1 gc x (fun t ht=>ht)]
 |conv k x=>simp only [zg];rw [r1 gc x (fun t ht=>ht)]
 |z6U x=>simp only [zg];rw [r1 gc x (fun t ht=>ht)]
 |z2N x=>
  have hx:=r1 gc x (fun t ht=>by simp [AOp.z6,ht])
  rcases hs with hs|hs
  ·have h0:=z2X (gc:=gc) (by simpa [Za] using hs);simp only [zg,←hx];generalize rd gc st x=z at h0⊢;obtain ⟨v,p⟩:=z
   cases v<;>first |rfl|(simp [V.ng] at h0;done)|(rename_i y;cases y<;>rfl)
  ·simp only [zg,←hx,hs]
 |fa n x=>
  have hx:=r1 gc x (fun t ht=>by simp [AOp.z6,ht])
  rcases hs with hs|hs
  ·have h0:=z2X (gc:=gc) (by simpa [Za] using hs);simp only [zg,←hx];generalize rd gc st x=z at h0⊢;obtain ⟨v,p⟩:=z
   cases v<;>first |rfl|(simp [V.ng] at h0;done)|(rename_i y;cases y<;>rfl)
  ·simp only [zg,←hx,hs]
 |ld ag n x=>
  have hv:=yr (st:=st) (st':=st') (x:=x) (fun t ht=>h t ht)
  rcases hs with hs|hs
  ·simp only [zg,rd,←hv];simp only [Za] at hs;generalize x.v st=y at hs⊢
   cases y with
   |t z=>cases z<;>rfl
   |ptr _ _=>simp [yY] at hs
   |fpt _ _ _=>simp [yY] at hs
   |gpt _ _ _=>simp [yY] at hs
   |mp _=>rfl
   |gd c y=>
    cases y with
    |t z=>cases z<;>rfl
    |ptr _ _=>simp [yY] at hs
    |fpt _ _ _=>simp [yY] at hs
    |gpt _ _ _=>simp [yY] at hs
    |_=>rfl
   |_=>rfl
  ·simp only [zg];rw [r1 gc x (fun t ht=>ht),hs]
 |ia sz x i=>
  have hx:=r1 gc x (fun t ht=>by simp [AOp.z6,ht])
  have hi:=r1 gc i (fun t ht=>by simp [AOp.z6,ht])
  rcases hs with hs|hs
  ·have h0:=z2X (gc:=gc) (by simpa [Za] using hs);simp only [zg,←hx,←hi];generalize rd gc st x=z at h0⊢;generalize rd gc st i=z2;obtain ⟨v,p⟩:=z;obtain ⟨v2,p2⟩:=z2
   have e2:(∃k n,v2= .t (.int k n))∨∀k n,v2≠ .t (.int k n):=by
    cases v2 with
    |t y=>cases y<;>first |exact .inl ⟨_,_,rfl⟩|exact .inr (by simp)
    |_=>exact .inr (by simp)
   rcases e2 with ⟨k,n,rfl⟩|e2
   ·cases v<;>first |rfl|(exfalso;cases h0;done)
   ·cases v2 with
    |t y=>cases y<;>first |rfl|exact absurd rfl (e2 _ _)
    |_=>rfl
  ·simp only [zg,←hx,←hi,hs]
 |z9B a b x i=>simp only [zg];rw [r1 gc x (fun t ht=>by simp [AOp.z6,ht]),r1 gc i (fun t ht=>by simp [AOp.z6,ht])]
 |ixs x i=>simp only [zg];rw [r1 gc x (fun t ht=>by simp [AOp.z6,ht]),r1 gc i (fun t ht=>by simp [AOp.z6,ht])]
 |ixa a b c x i=>simp only [zg];rw [r1 gc x (fun t ht=>by simp [AOp.z6,ht]),r1 gc i (fun t ht=>by simp [AOp.z6,ht])]
 |len x=>
  have hx:=r1 gc x (fun t ht=>by simp [AOp.z6,ht])
  rcases hs with hs|hs
  ·have h0:=z2X (gc:=gc) (by simpa [Za] using hs);simp only [zg,←hx];generalize rd gc st x=z at h0⊢;obtain ⟨v,p⟩:=z
   cases v<;>first |rfl|(simp [V.ng] at h0;done)|(rename_i y;cases y<;>rfl)
  ·simp only [zg,←hx,hs]
 |lens x=>simp only [zg];rw [r1 gc x (fun t ht=>ht)]
 |sls x lo hi=>
  have b1:=fun d=>qm (st:=st) (st':=st') (gc:=gc) (x:=lo) (d:=d) (fun t ht=>h t (by simp [AOp.z6,ht]));have b2:=fun d=>qm (st:=st) (st':=st') (gc:=gc) (x:=hi) (d:=d) (fun t ht=>h t (by simp [AOp.z6,ht]))
  simp only [zg,b1,b2];rw [r1 gc x (fun t ht=>by simp [AOp.z6,ht])]
 |sll a x lo hi=>
  have b1:=fun d=>qm (st:=st) (st':=st') (gc:=gc) (x:=lo) (d:=d) (fun t ht=>h t (by simp [AOp.z6,ht]));have b2:=fun d=>qm (st:=st) (st':=st') (gc:=gc) (x:=hi) (d:=d) (fun t ht=>h t (by simp [AOp.z6,ht]))
  have hx:=r1 gc x (fun t ht=>by simp [AOp.z6,ht])
  rcases hs with hs|hs
  ·have h0:=z2X (gc:=gc) (by simpa [Za] using hs);simp only [zg,b1,b2,←hx];generalize rd gc st x=z at h0⊢;obtain ⟨v,p⟩:=z
   cases v<;>first |rfl|(simp [V.ng] at h0;done)
  ·simp only [zg,b1,b2,←hx,hs]
 |fld a b c x=>simp only [zg];rw [r1 gc x (fun t ht=>ht)]
 |zbP x y=>simp only [zg];rw [r1 gc x (fun t ht=>by simp [AOp.z6,ht]),r1 gc y (fun t ht=>by simp [AOp.z6,ht])]
 |zbI x y=>simp only [zg];rw [r1 gc x (fun t ht=>by simp [AOp.z6,ht]),r1 gc y (fun t ht=>by simp [AOp.z6,ht])]
 |build zs ps=>simp only [zg];rw [z0f (st:=st) (st':=st') h]
 |zb4 f caps=>simp only [zg];rw [Ql (st:=st) (st':=st') h]
 |ext x i=>simp only [zg];rw [r1 gc x (fun t ht=>ht)]
 |nw op=>
  cases op with
  |lookup ks kag zv ok x k=>
   have hk:=ZH (st:=st) (st':=st') (gc:=gc) (x:=k) (fun t ht=>h t (by simp [AOp.z6,NOp.z6,ht]))
   rcases hs with hs|hs
   ·have hv:=yr (st:=st) (st':=st') (x:=x) (fun t ht=>h t (by simp [AOp.z6,NOp.z6,ht]));simp only [zg,Zl,hk];simp only [rd,←hv];simp only [Za] at hs;generalize x.v st=y at hs⊢
    cases y with
    |t z=>cases z<;>rfl
    |mp _=>simp [yY] at hs
    |gd c y=>
     cases y with
     |t z=>cases z<;>rfl
     |mp _=>simp [yY] at hs
     |_=>rfl
    |_=>rfl
   ·have hx:=ZH (st:=st) (st':=st') (gc:=gc) (x:=x) (fun t ht=>h t (by simp [AOp.z6,NOp.z6,ht]));simp only [zg,Zl];rw [hx,hk,hs]
  |z6j x=>
   rcases hs with hs|hs
   ·have hv:=yr (st:=st) (st':=st') (x:=x) (fun t ht=>h t (by simp [AOp.z6,NOp.z6,ht]));simp only [zg,Zl];simp only [rd,←hv];simp only [Za] at hs;generalize x.v st=y at hs⊢
    cases y with
    |ptr _ _=>simp [yY] at hs
    |gd c y=>
     cases y with
     |ptr _ _=>simp [yY] at hs
     |_=>rfl
    |_=>rfl
   ·have hx:=ZH (st:=st) (st':=st') (gc:=gc) (x:=x) (fun t ht=>h t (by simp [AOp.z6,NOp.z6,ht]));simp only [zg,Zl];rw [hx,hs]
  |z9Z x=>
   simp only [zg,Zl];rw [ZH (st:=st) (st':=st') (gc:=gc) (x:=x) (fun t ht=>h t (by simp [AOp.z6,NOp.z6,ht]))]
  |eqn neg x=>
   simp only [zg,Zl];rw [ZH (st:=st) (st':=st') (gc:=gc) (x:=x) (fun t ht=>h t (by simp [AOp.z6,NOp.z6,ht]))]
  |z7P neg ks x y=>
   simp only [zg,Zl];rw [ZH (st:=st) (st':=st') (gc:=gc) (x:=x) (fun t ht=>h t (by simp [AOp.z6,NOp.z6,ht])),ZH (st:=st) (st':=st') (gc:=gc) (x:=y) (fun t ht=>h t (by simp [AOp.z6,NOp.z6,ht]))]
  |xcm x y=>
   simp only [zg,Zl];rw [ZH (st:=st) (st':=st') (gc:=gc) (x:=x) (fun t ht=>h t (by simp [AOp.z6,NOp.z6,ht])),ZH (st:=st) (st':=st') (gc:=gc) (x:=y) (fun t ht=>h t (by simp [AOp.z6,NOp.z6,ht]))]
  |xtr cnt x y=>
   simp only [zg,Zl];rw [ZH (st:=st) (st':=st') (gc:=gc) (x:=x) (fun t ht=>h t (by simp [AOp.z6,NOp.z6,ht])),ZH (st:=st) (st':=st') (gc:=gc) (x:=y) (fun t ht=>h t (by simp [AOp.z6,NOp.z6,ht]))]
  |_=>rfl
 |z5z x=>rfl
 |st n x v=>rfl
 |box n x=>rfl
 |alloc zs=>rfl
 |bsl a b c d=>rfl
 |app a b c d=>rfl
 |z0u a b=>rfl
 |z09 x=>rfl
 |z5D a b c d=>rfl
 |call f a=>rfl
 |Qo x a=>rfl
theorem z5J {f:FuncId} {vs:List V} {base:Nat} {sto sto':List (Nat×z3)} {out:Out} (hs:out.rd=false∨sto=sto') (h:z01 P f vs base sto (· =out)):z01 P f vs base sto' (· =out):=by
 obtain ⟨o,h1,rfl⟩:=h;refine ⟨o,?_,rfl⟩
 rcases hs with hs|hs
 ·simp only [hs,Bool.false_eq_true,if_false] at h1⊢;exact h1
 ·rw [←hs];exact h1
theorem z0c {f:FuncId} {vs:List V} {base:Nat} {sto sto':List (Nat×z3)} {out:Out} (hs:out.rd=false∨sto=sto') (h:Wr P f vs base sto (· =out)):Wr P f vs base sto' (· =out):=by
 obtain ⟨o,h1,rfl⟩:=h;refine ⟨o,?_,rfl⟩
 rcases hs with hs|hs
 ·simp only [hs,Bool.false_eq_true,if_false] at h1⊢;exact h1
 ·rw [←hs];exact h1
theorem zat {f:FuncId} {vs:List V} {base:Nat} {sto sto':List (Nat×z3)} {out:Out} (hs:∀k,k<base->zi sto' k=zi sto k) (h:z01 P f vs base sto (· =out)):z01 P f vs base sto' (· =out):=by
 obtain ⟨o,h1,rfl⟩:=h;refine ⟨o,?_,rfl⟩
 cases hr:o.rd with
 |false=>rw [hr] at h1;simpa using h1
 |true=>
  rw [hr] at h1;simp only [if_true] at h1⊢;exact fun s hk=>h1 s fun k hb=>(hk k hb).trans (hs k hb)
theorem z8O {base:Nat} {op:AOp} {out:Out} (h:∀t∈op.z6,look st.env t=look st'.env t) (hs:out.rd=false∨st.s.sto=st'.s.sto) (he:evX P base st (· =out) op):evX P base st' (· =out) op:=by
 have v1:∀(x:Ar),(∀t∈x.z6,t∈op.z6)->x.u st=x.u st':=fun x hx=>qw fun t ht=>h t (hx t ht)
 cases op with
 |st n x v=>
  simp only [evX] at he⊢
  rw [←v1 x (fun t ht=>by simp [AOp.z6,ht]),←v1 v (fun t ht=>by simp [AOp.z6,ht])]
  rcases hs with hs|hs
  ·exfalso;split at he
   ·split at he
    ·split at he
     ·obtain ⟨_,rfl⟩:=he;simp at hs
     ·exact he
    ·exact he
   ·exact he
  ·rw [←hs];exact he
 |box n x=>simp only [evX] at he⊢;rw [←v1 x (fun t ht=>ht)];exact he
 |alloc zs=>exact he
 |bsl a b c d=>simp only [evX] at he⊢;rw [←Wu (st:=st) (st':=st') h];exact he
 |app a b x y=>
  simp only [evX] at he⊢
  rw [←v1 x (fun t ht=>by simp [AOp.z6,ht]),←v1 y (fun t ht=>by simp [AOp.z6,ht])]
  rcases hs with hs|hs
  ·generalize (Ar.u st y).zy=cy at he⊢;generalize Ar.u st x=vx at he⊢
   cases cy with
   |none=>exact he
   |some z=>
    cases z with
    |lst ys=>
     cases vx with
     |zV=>exact he
     |own k s xs=>
      exfalso;simp only at he;split at he
      ·obtain ⟨_,_,_,_,_,rfl⟩:=he;simp at hs
      ·exact he
     |_=>exact he
    |_=>exact he
  ·rw [←hs];exact he
 |z5D a b c n=>simp only [evX] at he⊢;rw [←v1 n (fun t ht=>ht)];exact he
 |call f args=>simp only [evX] at he⊢;rw [←YN (st:=st) (st':=st') h];exact z5J hs he
 |Qo x args=>
  simp only [evX] at he⊢
  rw [←v1 x (fun t ht=>by simp [AOp.z6,ht]),←YN (st:=st) (st':=st') (fun t ht=>h t (by simp [AOp.z6,ht]))]
  generalize Ar.u st x=vx at he⊢
  cases vx with
  |t z=>
   cases z with
   |fn f=>exact z0c hs he
   |_=>exact he
  |fn f caps=>exact z0c hs he
  |_=>exact he
 |z0u a b=>exact he
 |z09 x=>
  simp only [evX] at he⊢;rw [←v1 x (fun t ht=>ht)]
  rcases hs with hs|hs
  ·exfalso;split at he
   ·split at he
    ·subst he;simp at hs
    ·exact he
   ·exact he
  ·rw [←hs];exact he
 |z5z x=>
  simp only [evX] at he⊢;rw [←v1 x (fun t ht=>ht)]
  rcases hs with hs|hs
  ·exfalso;split at he
   ·subst he;simp at hs
   ·split at he
    ·subst he;simp at hs
    ·exact he
   ·exact he
  ·rw [←hs];exact he
 |nw op=>
  have u1:∀(x:Ar),(∀t∈x.z6,t∈op.z6)->x.u st=x.u st':=fun x hx=>qw fun t ht=>h t (by simp only [AOp.z6];exact hx t ht)
  have hrd:out.rd=true:=by
   simp only [evX] at he;unfold ZE at he
   (repeat' split at he)<;>first |exact he.elim|(obtain ⟨_,rfl⟩:=he;rfl)|(subst he;rfl)
  have hs':st.s.sto=st'.s.sto:=by
   rcases hs with hs|hs
   ·rw [hrd] at hs;cases hs
   ·exact hs
  simp only [evX] at he⊢
  cases op with
  |z9S ks kag x k v=>simp only [ZE] at he⊢;rw [←u1 x (fun t ht=>by simp [NOp.z6,ht]),←u1 k (fun t ht=>by simp [NOp.z6,ht]),←u1 v (fun t ht=>by simp [NOp.z6,ht]),←hs'];exact he
  |zbA ks kag x k=>simp only [ZE] at he⊢;rw [←u1 x (fun t ht=>by simp [NOp.z6,ht]),←u1 k (fun t ht=>by simp [NOp.z6,ht]),←hs'];exact he
  |zbt x=>simp only [ZE] at he⊢;rw [←u1 x (fun t ht=>ht),←hs'];exact he
  |zbG ks kag zv x k=>simp only [ZE] at he⊢;rw [←u1 x (fun t ht=>by simp [NOp.z6,ht]),←u1 k (fun t ht=>by simp [NOp.z6,ht]),←hs'];exact he
  |z2j ks zv x k=>simp only [ZE] at he⊢;rw [←u1 x (fun t ht=>by simp [NOp.z6,ht]),←u1 k (fun t ht=>by simp [NOp.z6,ht]),←hs'];exact he
  |z83 ks x k v=>simp only [ZE] at he⊢;rw [←u1 x (fun t ht=>by simp [NOp.z6,ht]),←u1 k (fun t ht=>by simp [NOp.z6,ht]),←u1 v (fun t ht=>by simp [NOp.z6,ht]),←hs'];exact he
  |zc5 x s v=>simp only [ZE] at he⊢;rw [←u1 x (fun t ht=>by simp [NOp.z6,ht]),←u1 s (fun t ht=>by simp [NOp.z6,ht]),←u1 v (fun t ht=>by simp [NOp.z6,ht]),←hs'];exact he
  |_=>exact he.elim
 |_=>exact he.elim
theorem qj {sz:Nat}:∀{ps:List (Nat×Ar)} {cs:List V},(∀t∈yn ps,look st.env t=look st'.env t)->Ya st sz cs ps=Ya st' sz cs ps
 |[],_,_=>rfl
 |(i,x)::r,cs,h=>by
  simp only [Ya];rw [qw (st:=st) (st':=st') (fun t ht=>h t (by simp [yn,ht]))];have ih:=fun cs=>qj (sz:=sz) (ps:=r) (cs:=cs) (fun t ht=>h t (by simp [yn,ht]));simp only [ih]
theorem z1i {sz:Nat} {y:V} (hs:st.s.sto=st'.s.sto):z3k st sz y=z3k st' sz y:=by unfold z3k;rw [hs]
theorem z6t {base:Nat} {op:AOp} {out:Out} (h:∀t∈op.z6,look st.env t=look st'.env t) (hs:out.rd=false∨st.s.sto=st'.s.sto) (he:z0G st base op out):z0G st' base op out:=by
 have v1:∀(x:Ar),(∀t∈x.z6,t∈op.z6)->x.u st=x.u st':=fun x hx=>qw fun t ht=>h t (hx t ht)
 cases he with
 |@stG n x v _ _ _ _ _ _ hx hk hw hv hn ho hc=>
  have e:=hs.resolve_left (by simp)
  exact .stG (v1 x (fun t ht=>by simp [AOp.z6,ht])▸hx) (e▸hk) hw (v1 v (fun t ht=>by simp [AOp.z6,ht])▸hv) hn ho hc
 |@z8S _ _ x y _ _ hx hy hc h1 h2=>
  have e:=hs.resolve_left (by simp)
  exact .z8S (v1 x (fun t ht=>by simp [AOp.z6,ht])▸hx) (by rw [←z1i e,←v1 y (fun t ht=>by simp [AOp.z6,ht])];exact hy) hc h1 h2
 |@zai _ _ x y _ _ _ _ _ _ _ hx hk hw hl hy hc h1 h2=>
  have e:=hs.resolve_left (by simp)
  exact .zai (v1 x (fun t ht=>by simp [AOp.z6,ht])▸hx) (e▸hk) hw hl (by rw [←z1i e,←v1 y (fun t ht=>by simp [AOp.z6,ht])];exact hy) hc h1 h2
 |z8H hp=>
  exact .z8H (by rw [←qj (st:=st) (st':=st') (fun t ht=>h t (by simpa [AOp.z6] using ht))];exact hp)
 |@zb9 _ _ x _ _ _ _ _ _ hx hk hw ho=>
  have e:=hs.resolve_left (by simp)
  exact .zb9 (v1 x (fun t ht=>by simp [AOp.z6,NOp.z6,ht])▸hx) (e▸hk) hw ho
theorem z1s {base:Nat} {op:AOp} {out:Out} (h:∀t∈op.z6,look st.env t=look st'.env t) (hs:out.rd=false∨st.s.sto=st'.s.sto) (he:evX P base st (· =out) op∨evY base st (· =out) op):evX P base st' (· =out) op∨evY base st' (· =out) op:=by
 rcases he with he|⟨o',he,rfl⟩
 ·exact .inl (z8O h hs he)
 ·exact .inr ⟨_,z6t h hs he,rfl⟩
theorem z1R {base:Nat} {op:AOp} {out:Out} (he:evX P base st (· =out) op∨evY base st (· =out) op):Za st op=false:=by
 rcases he with he|⟨o',he,rfl⟩
 ·cases op with
  |nw op=>cases op<;>simp_all [Za,evX,ZE]
  |_=>simp_all [Za,evX]
 ·cases he<;>rfl
theorem z2w {base:Nat} {ao:AO} {out:Out} (h:∀t∈ao.reads,look st.env t=look st'.env t) (hs:out.rd=false∨st.s.sto=st'.s.sto) (he:evO P base st ao (· =out)):evO P base st' ao (· =out):=by
 have hop:∀t∈ao.op.z6,look st.env t=look st'.env t:=fun t ht=>h t (by simp [AO.reads,ht]);unfold evO at he⊢
 cases hg:ao.g with
 |none=>
  simp only [hg] at he⊢;unfold evU at he⊢
  cases hev:zg true st ao.op with
  |some r=>
   obtain ⟨v,ps⟩:=r;simp only [hev] at he;obtain ⟨h1,rfl⟩:=he;rw [←YT hop (by simpa using hs),hev];simp only
   exact ⟨h1,by rw [Wk (st:=st) (st':=st') hop]⟩
  |none=>
   simp only [hev] at he
   have:zg true st' ao.op=none:=by
    rw [←YT hop (.inl (z1R he))];exact hev
   rw [this];exact z1s hop hs he
 |some g=>
  obtain ⟨s,want⟩:=g;simp only [hg] at he⊢;rw [←h s (by simp [AO.reads,hg])]
  cases hc:z2K want (look st.env s) with
  |none=>simp only [hc] at he
  |some gc=>
   simp only [hc] at he⊢
   cases hev:zg gc st ao.op with
   |some r=>
    obtain ⟨v,ps⟩:=r;simp only [hev] at he;obtain ⟨h1,rfl⟩:=he;rw [←YT hop (by simpa using hs),hev];simp only
    exact ⟨h1,by rw [Wk (st:=st) (st':=st') hop]⟩
   |none=>
    simp only [hev] at he
    rcases he with he|he
    ·have hcg:WK P gc base st' (· =out) ao.op:=by
      cases hao:ao.op<;>rw [hao] at he<;>try (exact he.elim)
      rename_i f args;simp only [WK] at he⊢;rw [hao] at hop;rw [←YN (st:=st) (st':=st') hop];obtain ⟨o,h1,h2,rfl⟩:=he;refine ⟨o,fun hg=>?_,h2,rfl⟩;have:=h1 hg
      rcases hs with hs|hs
      ·simp only at hs;simp only [hs,Bool.false_eq_true,if_false] at this⊢;exact this
      ·rw [←hs];exact this
     have hnone:zg gc st' ao.op=none:=by
      cases hao:ao.op<;>rw [hao] at hcg<;>first |exact hcg.elim|rfl
     rw [hnone];exact Or.inl hcg
    cases gc with
    |false=>
     have hout:=he.2 rfl;subst hout;rw [←YT hop (by simpa using hs),hev]
     exact Or.inr ⟨by simp,fun _=>by rw [Wk (st:=st) (st':=st') hop]⟩
    |true=>
     have hx:=he.1 rfl
     have:zg true st' ao.op=none:=by
      rw [←YT hop (.inl (z1R hx))];exact hev
     simp only [this]
     exact Or.inr ⟨fun _=>z1s hop hs hx,by simp⟩
end
def stD (D:Nat->Bool):Nat->St->List AO->List Out->St
 |i,st,ao::r,out::os=>stD D (i+1) (if D i then st.app ao.dst out else st) r os
 |_,st,_,_=>st
def YL:List Out->Nat
 |[]=>0
 |o::r=>o.n+YL r
def z3S:List (List Nat)->List Nat->List Nat
 |[],acc=>acc
 |l::r,acc=>z3S r (acc++[l.foldl (fun s j=>s|||(2 ^ j|||acc.getD j 0)) 0])
def AO.zcp (a b:AO):Bool:=
 match a.dst with
 |some d=>b.reads.contains d
 |none=>false
def AO.same (a b:AO):Bool:=
 match a.dst with
 |some d=>b.dst==some d
 |none=>false
def AO.qi (a b:AO):Bool:=(a.zcp b||b.zcp a)||(a.same b||b.same a)
def AO.YV (a:AO):Bool:=
 match a.g,a.op with
 |none,.ld _ _ (.s _)=>true
 |none,.nw (.lookup _ _ _ _ (.s _) _)=>true
 |none,.ia _ (.s _) _=>true
 |none,.fa _ (.s _)=>true
 |_,_=>false
def AO.z0d (a:AO):Bool:=
 match a.g,a.op with
 |none,.call _ _=>true
 |_,_=>false
theorem z6a {a:AO} (h:a.YV=true):a.z0d=false:=by
 obtain ⟨d,g,op⟩:=a;unfold AO.YV at h;unfold AO.z0d
 cases g with
 |some _=>rfl
 |none=>cases op<;>first |rfl|cases h
def Ar.still (env:List (Nat×V)) (rest:List AO):Ar->Bool
 | .c _=>true
 | .s t=>(match look env t with| .t _=>true|_=>false)&&rest.all (fun o=>!(o.dst==some t))
def z40 (env:List (Nat×V)) (rest:List AO) (a:AO):Option Nat:=
 match a.g,a.op with
 |none,.ld _ _ (.s t)=>
  match ((look env t).un true).1,rest.all (fun o=>!(o.dst==some t)) with
  | .ptr k _,true=>some k
  | .gpt k _ _,true=>some k
  | .fpt k _ _,true=>some k
  |_,_=>none
 |none,.fa _ (.s t)=>
  match ((look env t).un true).1,rest.all (fun o=>!(o.dst==some t)) with
  | .gpt k _ _,true=>some k
  |_,_=>none
 |none,.ia _ (.s t) i=>
  match ((look env t).un true).1,rest.all (fun o=>!(o.dst==some t)),i.still env rest with
  | .gsl k _ _ _ _,true,true=>some k
  |_,_,_=>none
 |_,_=>none
def storeAt (env:List (Nat×V)) (rest:List AO) (a:AO):Option Nat:=
 match a.g,a.op with
 |none,.st _ (.s t) _=>
  match (look env t).ug,rest.all (fun o=>!(o.dst==some t)) with
  | .ptr k _,true=>some k
  | .gpt k _ _,true=>some k
  | .fpt k _ _,true=>some k
  |_,_=>none
 |none,.app _ _ (.s t) _=>
  match (look env t).ug,rest.all (fun o=>!(o.dst==some t)) with
  | .own k _ _,true=>some k
  | .fow k _ _ _,true=>some k
  | .gsl k _ _ _ _,true=>some k
  |_,_=>none
 |none,.bsl _ _ _ _=>
  match a.dst with
  |some d=>
   match look env d,rest.tail.all (fun o=>!(o.dst==some d)) with
   | .fow k _ _ _,true=>some k
   |_,_=>none
  |none=>none
 |none,.box _ _=>
  match a.dst with
  |some d=>
   match look env d,rest.tail.all (fun o=>!(o.dst==some d)) with
   | .fpt k _ _,true=>some k
   |_,_=>none
  |none=>none
 |_,_=>none
def z48 (aos:List AO) (env:List (Nat×V)) (a b:Nat):Bool:=
 match z40 env (aos.drop a) (aos.getD a ⟨none,none,.cst .top⟩),storeAt env (aos.drop b) (aos.getD b ⟨none,none,.cst .top⟩) with
 |some k,some q=>!(k==q)
 |_,_=>false
def z5G (bm:List Nat) (aos:List AO) (fl:List (Bool×Bool)) (env:List (Nat×V)) (j i:Nat):Bool:=
 (bm.getD i 0).testBit j||
  (!((aos.getD j ⟨none,none,.cst .top⟩).qi (aos.getD i ⟨none,none,.cst .top⟩))&&!((fl.getD j (false,false)).1&&(fl.getD i (false,false)).2&&!((aos.getD j ⟨none,none,.cst .top⟩).YV&&!(fl.getD i (false,false)).1)&&!((aos.getD j ⟨none,none,.cst .top⟩).z0d&&!(fl.getD i (false,false)).1)&&!(z48 aos env j i))&&
   !((fl.getD i (false,false)).1&&(fl.getD j (false,false)).2&&!((aos.getD i ⟨none,none,.cst .top⟩).YV&&!(fl.getD j (false,false)).1)&&!(z48 aos env i j)))
def indep (aos:List AO) (after:List (List Nat)) (fl:List (Bool×Bool)) (env:List (Nat×V)):Bool:=
 (after.zipIdx.all fun p=>p.1.all fun j=>decide (j<p.2))&&
 (List.range aos.length).all fun i=>(List.range i).all fun j=>z5G (z3S after []) aos fl env j i
theorem z5a {aos:List AO} {env:List (Nat×V)} {a b:Nat} (h:z48 aos env a b=true):∃k q,z40 env (aos.drop a) (aos.getD a ⟨none,none,.cst .top⟩)=some k/\storeAt env (aos.drop b) (aos.getD b ⟨none,none,.cst .top⟩)=some q/\k≠q:=by
 unfold z48 at h;split at h
 ·rename_i k q h1 h2;exact ⟨k,q,h1,h2,by simpa using h⟩
 ·cases h
theorem z5Q {base:Nat} {st:St} {K:Out->Prop} {ag:Bool} {n:Nat} {x:Ar}:evY base st K (.ld ag n x)↔False:=⟨(by rintro ⟨_,h,_⟩;cases h),False.elim⟩
theorem qV {base:Nat} {st:St} {K:Out->Prop} {ks:List KSh} {kag:Bool} {zv:V} {ok:Bool} {x k:Ar}:evY base st K (.nw (.lookup ks kag zv ok x k))↔False:=⟨(by rintro ⟨_,h,_⟩;cases h),False.elim⟩
theorem z6u {base:Nat} {st:St} {K:Out->Prop} {sz:Nat} {x i:Ar}:evY base st K (.ia sz x i)↔False:=⟨(by rintro ⟨_,h,_⟩;cases h),False.elim⟩
theorem z61 {base:Nat} {st:St} {K:Out->Prop} {off:Nat} {x:Ar}:evY base st K (.fa off x)↔False:=⟨(by rintro ⟨_,h,_⟩;cases h),False.elim⟩
theorem z2q {env:List (Nat×V)} {rest:List AO} {a:AO} {k:Nat} (h:z40 env rest a=some k):a.YV=true/\∀s∈a.reads,(∀o∈rest,o.dst≠some s)/\∀q ps,((∃o,(look env s).un true=(.ptr q o,ps))∨(look env s).un true=(.mp q,ps)∨(∃i o,(look env s).un true=(.fpt q i o,ps))∨(∃ver o,0<ver/\(look env s).un true=(.gpt q ver o,ps))∨∃ver o l z,0<ver/\(look env s).un true=(.gsl q ver o l z,ps))->q=k:=by
 have hall:∀t,rest.all (fun o=>!(o.dst==some t))=true->∀o∈rest,o.dst≠some t:=fun t h2 o ho=>by
  have:=List.all_eq_true.1 h2 o ho;simpa using this
 obtain ⟨dst,g,op⟩:=a;unfold z40 at h;split at h
 ·rename_i ag n t hg hop;simp only at hg hop;subst hg;subst hop;refine ⟨rfl,fun s hs=>?_⟩
  have hs':s=t:=by simpa [AO.reads,AOp.z6,Ar.z6] using hs
  subst hs';split at h
  ·rename_i q o h1 h2;simp only [Option.some.injEq] at h;subst h;refine ⟨hall _ h2,fun q' ps hq=>?_⟩
   rcases hq with ⟨o',hq⟩|hq|⟨_,_,hq⟩|⟨_,_,_,hq⟩|⟨_,_,_,_,_,hq⟩<;>rw [hq] at h1<;>simp at h1
   exact h1.1
  ·rename_i q r o h1 h2;simp only [Option.some.injEq] at h;subst h;refine ⟨hall _ h2,fun q' ps hq=>?_⟩
   rcases hq with ⟨o',hq⟩|hq|⟨_,_,hq⟩|⟨_,_,_,hq⟩|⟨_,_,_,_,_,hq⟩<;>rw [hq] at h1<;>simp at h1
   exact h1.1
  ·rename_i q r o h1 h2;simp only [Option.some.injEq] at h;subst h;refine ⟨hall _ h2,fun q' ps hq=>?_⟩
   rcases hq with ⟨o',hq⟩|hq|⟨_,_,hq⟩|⟨_,_,_,hq⟩|⟨_,_,_,_,_,hq⟩<;>rw [hq] at h1<;>simp at h1
   exact h1.1
  ·cases h
 ·rename_i off t hg hop;simp only at hg hop;subst hg;subst hop;refine ⟨rfl,fun s hs=>?_⟩
  have hs':s=t:=by simpa [AO.reads,AOp.z6,Ar.z6] using hs
  subst hs';split at h
  ·rename_i q r o h1 h2;simp only [Option.some.injEq] at h;subst h;refine ⟨hall _ h2,fun q' ps hq=>?_⟩
   rcases hq with ⟨o',hq⟩|hq|⟨_,_,hq⟩|⟨_,_,_,hq⟩|⟨_,_,_,_,_,hq⟩<;>rw [hq] at h1<;>simp at h1
   exact h1.1
  ·cases h
 ·rename_i sz t i hg hop;simp only at hg hop;subst hg;subst hop;refine ⟨rfl,fun s hs=>?_⟩;split at h
  ·rename_i q r o l z h1 h2 h3;simp only [Option.some.injEq] at h;subst h
   have hs':s=t∨s∈i.z6:=by simpa [AO.reads,AOp.z6,Ar.z6] using hs
   rcases hs' with rfl|hs'
   ·refine ⟨hall _ h2,fun q' ps hq=>?_⟩
    rcases hq with ⟨o',hq⟩|hq|⟨_,_,hq⟩|⟨_,_,_,hq⟩|⟨_,_,_,_,_,hq⟩<;>rw [hq] at h1<;>simp at h1
    exact h1.1
   ·cases i with
    |c v=>simp [Ar.z6] at hs'
    |s u=>
     have hu:s=u:=by simpa [Ar.z6] using hs'
     subst hu;simp only [Ar.still,Bool.and_eq_true] at h3;refine ⟨hall _ h3.2,fun q' ps hq=>?_⟩;have h4:=h3.1;split at h4
     ·rename_i x hx;rw [hx] at hq;simp [V.un] at hq
     ·cases h4
  ·cases h
 ·cases h
theorem zc6 {base:Nat} {st:St} {out:Out} {n k:Nat} {x v:Ar} (hx:(∃o,x.u st= .ptr k o)∨(∃r o,x.u st= .gpt k r o)∨∃i o,x.u st= .fpt k i o) (h:z0G st base (.st n x v) out):∀q y,(q,y)∈out.ob->q=k:=by
 cases h with
 |stG h=>
  rcases hx with ⟨o,hx⟩|⟨r,o,hx⟩|⟨i,o,hx⟩<;>rw [hx] at h<;>simp at h
  intro q y hq;simp at hq;rw [hq.1,h.1]
theorem zaM {base:Nat} {st:St} {out:Out} {sz b k:Nat} {x v:Ar} (hx:(∃s xs,x.u st= .own k s xs)∨(∃i s xs,x.u st= .fow k i s xs)∨∃r o l s,x.u st= .gsl k r o l s) (h:z0G st base (.app sz b x v) out):∀q y,(q,y)∈out.ob->q=k:=by
 cases h with
 |z8S h=>rcases hx with ⟨s,xs,hx⟩|⟨i,s,xs,hx⟩|⟨r,o,l,s,hx⟩<;>rw [hx] at h<;>simp at h
 |zai h=>
  rcases hx with ⟨s,xs,hx⟩|⟨i,s,xs,hx⟩|⟨r,o,l,s,hx⟩<;>rw [hx] at h<;>simp at h
  intro q y hq;simp at hq;rw [hq.1,h.1]
theorem z5R {P:Program} {env:List (Nat×V)} {rest:List AO} {a:AO} {k:Nat} (h:storeAt env rest a=some k):(∃t,(∀o∈rest,o.dst≠some t)/\
  ∀(base:Nat) (st:St) (out:Out),look st.env t=look env t->evO P base st a (· =out)->∀q x,(q,x)∈out.ob->q=k)∨
  ∃d,a.dst=some d/\(∀o∈rest.tail,o.dst≠some d)/\∀(base:Nat) (st:St) (out:Out),look env d=out.v->evO P base st a (· =out)->∀q x,(q,x)∈out.ob->q=k:=by
 have hall:∀t,rest.all (fun o=>!(o.dst==some t))=true->∀o∈rest,o.dst≠some t:=fun t h2 o ho=>by
  have:=List.all_eq_true.1 h2 o ho;simpa using this
 have hall2:∀t,rest.tail.all (fun o=>!(o.dst==some t))=true->∀o∈rest.tail,o.dst≠some t:=fun t h2 o ho=>by
  have:=List.all_eq_true.1 h2 o ho;simpa using this
 obtain ⟨dst,g,op⟩:=a;unfold storeAt at h;split at h
 ·rename_i n t w hg hop;simp only at hg hop;subst hg;subst hop
  have key:∀(base:Nat) (st:St) (out:Out),((∃o,(Ar.s t).u st= .ptr k o)∨(∃r o,(Ar.s t).u st= .gpt k r o)∨∃i o,(Ar.s t).u st= .fpt k i o)->evO P base st ⟨dst,none,.st n (.s t) w⟩ (· =out)->∀q x,(q,x)∈out.ob->q=k:=by
   intro base st out hu hev q' x hx;simp only [evO,evU,zg] at hev
   rcases hev with hev|⟨o,hy,rfl⟩
   ·simp only [evX] at hev
    rcases hu with ⟨o,hu⟩|⟨r,o,hu⟩|⟨i,o,hu⟩<;>rw [hu] at hev<;>simp only at hev
    split at hev
    ·split at hev
     ·obtain ⟨_,rfl⟩:=hev;simp at hx;exact hx.1
     ·exact hev.elim
    ·exact hev.elim
   ·exact zc6 hu hy q' x hx
  split at h
  ·rename_i q o h1 h2;simp only [Option.some.injEq] at h;subst h;exact .inl ⟨t,hall _ h2,fun base st out he=>key base st out (.inl ⟨o,by rw [Ar.u,Ar.v,he];exact h1⟩)⟩
  ·rename_i q r o h1 h2;simp only [Option.some.injEq] at h;subst h;exact .inl ⟨t,hall _ h2,fun base st out he=>key base st out (.inr (.inl ⟨r,o,by rw [Ar.u,Ar.v,he];exact h1⟩))⟩
  ·rename_i q i o h1 h2;simp only [Option.some.injEq] at h;subst h;exact .inl ⟨t,hall _ h2,fun base st out he=>key base st out (.inr (.inr ⟨i,o,by rw [Ar.u,Ar.v,he];exact h1⟩))⟩
  ·cases h
 ·rename_i sz b t w hg hop;simp only at hg hop;subst hg;subst hop
  have key:∀(base:Nat) (st:St) (out:Out),((∃s xs,(Ar.s t).u st= .own k s xs)∨(∃i s xs,(Ar.s t).u st= .fow k i s xs)∨∃r o l s,(Ar.s t).u st= .gsl k r o l s)->evO P base st ⟨dst,none,.app sz b (.s t) w⟩ (· =out)->∀q x,(q,x)∈out.ob->q=k:=by
   intro base st out hu hev q' x hx;simp only [evO,evU,zg] at hev
   rcases hev with hev|⟨o,hy,rfl⟩
   ·simp only [evX] at hev;split at hev
    ·rcases hu with ⟨s,xs,hu⟩|⟨i,s,xs,hu⟩|⟨r,o,l,s,hu⟩<;>rw [hu] at hev<;>simp only at hev
     split at hev
     ·obtain ⟨_,_,_,_,_,rfl⟩:=hev;simp at hx;exact hx.1
     ·exact hev.elim
    ·exact hev.elim
   ·exact zaM hu hy q' x hx
  split at h
  ·rename_i q s xs h1 h2;simp only [Option.some.injEq] at h;subst h;exact .inl ⟨t,hall _ h2,fun base st out he=>key base st out (.inl ⟨s,xs,by rw [Ar.u,Ar.v,he];exact h1⟩)⟩
  ·rename_i q i s xs h1 h2;simp only [Option.some.injEq] at h;subst h;exact .inl ⟨t,hall _ h2,fun base st out he=>key base st out (.inr (.inl ⟨i,s,xs,by rw [Ar.u,Ar.v,he];exact h1⟩))⟩
  ·rename_i q r o l s h1 h2;simp only [Option.some.injEq] at h;subst h;exact .inl ⟨t,hall _ h2,fun base st out he=>key base st out (.inr (.inr ⟨r,o,l,s,by rw [Ar.u,Ar.v,he];exact h1⟩))⟩
  ·cases h
 ·rename_i ow sz zs ps hg hop;simp only at hg hop;subst hg;subst hop;split at h
  ·rename_i d hd;simp only at hd;subst hd;split at h
   ·rename_i q i s xs h1 h2;simp only [Option.some.injEq] at h;subst h;refine .inr ⟨d,rfl,hall2 _ h2,fun base st out he hev q' x hx=>?_⟩;rw [h1] at he;simp only [evO,evU,zg] at hev
    rcases hev with hev|⟨o,hy,rfl⟩
    ·simp only [evX] at hev;split at hev
     ·split at hev
      ·rcases hev.2 with hev|hev
       ·split at hev<;>subst hev<;>cases he
       ·subst hev;cases he
      ·have:=hev.2;subst this;cases he
     ·exact hev.elim
    ·cases hy with
     |z8H _=>cases he
   ·cases h
  ·cases h
 ·rename_i nb xb hg hop;simp only at hg hop;subst hg;subst hop;split at h
  ·rename_i d hd;simp only at hd;subst hd;split at h
   ·rename_i q i o' h1 h2;simp only [Option.some.injEq] at h;subst h;refine .inr ⟨d,rfl,hall2 _ h2,fun base st out he hev q' x hx=>?_⟩;rw [h1] at he;simp only [evO,evU,zg] at hev
    rcases hev with hev|⟨o,hy,rfl⟩
    ·simp only [evX] at hev;split at hev
     ·obtain ⟨_,hev⟩:=hev;subst hev;cases he
     ·exact hev.elim
    ·cases hy
   ·cases h
  ·cases h
 ·cases h
section
variable {P:Program} {ops:Array Oper}
theorem zbu {P:Program} {base:Nat} {st st':St} {ao:AO} {out:Out} (hc:ao.z0d=true) (h:∀t∈ao.reads,look st.env t=look st'.env t) (hs:∀k,k<base->zi st'.s.sto k=zi st.s.sto k) (he:evO P base st ao (· =out)):evO P base st' ao (· =out):=by
 obtain ⟨d,g,op⟩:=ao;unfold AO.z0d at hc;split at hc
 ·rename_i f args hg hop;simp only at hg hop;subst hg;subst hop;simp only [evO,evU,zg] at he⊢
  rcases he with he|⟨o,he,_⟩
  ·left;simp only [evX] at he⊢;rw [←YN (st:=st) (st':=st') (fun t ht=>h t (by simpa [AO.reads,AOp.z6] using ht))];exact zat hs he
  ·cases he
 ·cases hc
structure Eqv (s t:St):Prop where
 env:∀x,look s.env x=look t.env x
 sto:∀k,zi s.s.sto k=zi t.s.sto k
theorem Eqv.refl (s:St):Eqv s s:=⟨fun _=>rfl,fun _=>rfl⟩
theorem Eqv.trans {a b c:St} (h:Eqv a b) (k:Eqv b c):Eqv a c:=⟨fun x=>(h.env x).trans (k.env x),fun x=>(h.sto x).trans (k.sto x)⟩
theorem Eqv.symm {a b:St} (h:Eqv a b):Eqv b a:=⟨fun x=>(h.env x).symm,fun x=>(h.sto x).symm⟩
theorem Z4.eqv {Λ:L} {s t:S} (h:Z4 Λ s) (e:∀k,zi s.sto k=zi t.sto k):Z4 Λ t:=
 ⟨fun k o hk=>h.sto k o (by rw [e];exact hk),h.inj,h.new,h.bnd,h.frz,h.YO,h.YM,h.z0H⟩
theorem Rel.eqv {C:Ctx} {Λ:L} {s t:St} {a:Act} (h:Rel C Λ s a) (e:Eqv s t):Rel C Λ t a:=
 ⟨h.kp,h.size,h.defers,fun x=>by rw [←e.env];exact h.env x,h.s.eqv e.sto⟩
theorem Z5:∀(ob s:List (Nat×z3)) (k:Nat),(∀o,(k,o)∉ob)->zi (Zj s ob) k=zi s k
 |[],s,k,_=>rfl
 |(j,o)::r,s,k,h=>by
  have hj:j≠k:=by rintro rfl;exact h o (by simp)
  simp only [Zj];rw [Z5 r _ k (fun o' ho=>h o' (List.mem_cons_of_mem _ ho)),Zh];simp [hj]
theorem yT:∀(ob s s':List (Nat×z3)) (k:Nat),(∃o,(k,o)∈ob)->zi (Zj s ob) k=zi (Zj s' ob) k
 |[],s,s',k,h=>by obtain ⟨o,h⟩:=h;simp at h
 |(j,o)::r,s,s',k,h=>by
  simp only [Zj];by_cases hr:∃o',(k,o')∈r
  ·exact yT r _ _ k hr
  ·have hr':∀o',(k,o')∉r:=fun o' ho=>hr ⟨o',ho⟩;rw [Z5 r _ k hr',Z5 r _ k hr',Zh,Zh]
   have:j=k:=by
    obtain ⟨o',ho⟩:=h
    rcases List.mem_cons.1 ho with e|e
    ·simp at e;exact e.1.symm
    ·exact (hr' o' e).elim
   simp [this]
theorem z03 (ob s s':List (Nat×z3)) (h:∀k,zi s k=zi s' k) (k:Nat):zi (Zj s ob) k=zi (Zj s' ob) k:=by
 by_cases hk:∃o,(k,o)∈ob
 ·exact yT ob s s' k hk
 ·have hk':∀o',(k,o')∉ob:=fun o' ho=>hk ⟨o',ho⟩;rw [Z5 ob _ k hk',Z5 ob _ k hk',h]
theorem Eqv.app {s t:St} (h:Eqv s t) (d:Option Nat) (o:Out):Eqv (s.app d o) (t.app d o):=by
 refine ⟨fun x=>?_,z03 _ _ _ h.sto⟩
 cases d with
 |none=>exact h.env x
 |some d=>simp only [St.app,yL,h.env x]
theorem za9 (s:St) {d d':Option Nat} {o o':Out} (hd:∀x,d=some x->d'≠some x) (ho:∀k a b,(k,a)∈o.ob->(k,b)∉o'.ob):Eqv ((s.app d o).app d' o') ((s.app d' o').app d o):=by
 refine ⟨fun x=>?_,fun k=>?_⟩
 ·cases d with
  |none=>cases d'<;>simp [St.app,yL]
  |some d=>
   cases d' with
   |none=>simp [St.app,yL]
   |some d'=>
    have:d≠d':=by rintro rfl;exact hd d rfl rfl
    simp only [St.app,yL];by_cases h1:d=x
    ·subst h1;simp [Ne.symm this]
    ·simp [h1]
 ·show zi (Zj (Zj s.s.sto o.ob) o'.ob) k=zi (Zj (Zj s.s.sto o'.ob) o.ob) k;by_cases hk:∃a,(k,a)∈o.ob
  ·obtain ⟨a,ha⟩:=hk;rw [Z5 o'.ob _ k (fun b=>ho k a b ha)];exact yT _ _ _ k ⟨a,ha⟩
  ·have hk':∀a,(k,a)∉o.ob:=fun a ha=>hk ⟨a,ha⟩;rw [Z5 o.ob _ k hk'];by_cases hk2:∃b,(k,b)∈o'.ob
   ·exact yT _ _ _ k hk2
   ·have hk2':∀b,(k,b)∉o'.ob:=fun b hb=>hk2 ⟨b,hb⟩;rw [Z5 o'.ob _ k hk2',Z5 o'.ob _ k hk2',Z5 o.ob _ k hk']
theorem z7o (D:Nat->Bool):∀(r:List AO) (os:List Out) (i:Nat) {s t:St},Eqv s t->Eqv (stD D i s r os) (stD D i t r os)
 |[],os,i,s,t,h=>by cases os<;>exact h
 |ao::r,[],i,s,t,h=>h
 |ao::r,o::os,i,s,t,h=>by
  simp only [stD];refine z7o D r os (i+1) ?_;split
  ·exact h.app _ _
  ·exact h
theorem z3F {D D':Nat->Bool}:∀(r:List AO) (os:List Out) (i:Nat) (s:St),(∀j,i<=j->j<i+r.length->D j=D' j)->stD D i s r os=stD D' i s r os
 |[],os,i,s,h=>by cases os<;>rfl
 |ao::r,[],i,s,h=>rfl
 |ao::r,o::os,i,s,h=>by
  simp only [stD,h i (Nat.le_refl _) (by simp)];exact z3F r os (i+1) _ (fun j h1 h2=>h j (by omega) (by simp;omega))
theorem WD {D:Nat->Bool}:∀(r:List AO) (os:List Out) (i:Nat) (s:St),(∀j,i<=j->D j=false)->stD D i s r os=s
 |[],os,i,s,h=>by cases os<;>rfl
 |ao::r,[],i,s,h=>rfl
 |ao::r,o::os,i,s,h=>by
  simp only [stD,h i (Nat.le_refl _),Bool.false_eq_true,if_false];exact WD r os (i+1) _ (fun j h1=>h j (by omega))
theorem z4e:∀(r:List AO) (os:List Out) (i:Nat) (s:St) (n:Nat) (ao:AO) (o:Out),r[n]?=some ao->os[n]?=some o->stD (fun l=>decide (l<i+n+1)) i s r os=(stD (fun l=>decide (l<i+n)) i s r os).app ao.dst o
 |[],_,_,_,n,ao,o,h,_=>by simp at h
 |_::_,[],_,_,n,ao,o,_,h=>by simp at h
 |a::r,p::os,i,s,0,ao,o,h1,h2=>by
  simp at h1 h2;subst h1;subst h2
  have e1:decide (i<i+0+1)=true:=by simp
  have e2:decide (i<i+0)=false:=by simp
  simp only [stD,e1,e2,if_true]
  rw [WD _ _ _ _ (fun j hj=>by simp;omega),WD _ _ _ _ (fun j hj=>by simp;omega)]
  simp
 |a::r,p::os,i,s,n+1,ao,o,h1,h2=>by
  have e1:decide (i<i+(n+1)+1)=true:=by simp;omega
  have e2:decide (i<i+(n+1))=true:=by simp
  simp only [stD,e1,e2,if_true];have:=z4e r os (i+1) (s.app a.dst p) n ao o (by simpa using h1) (by simpa using h2)
  have a1:i+1+n+1=i+(n+1)+1:=by omega
  have a2:i+1+n=i+(n+1):=by omega
  rw [a1,a2] at this;exact this
theorem z1I {D D':Nat->Bool} {t:Nat}:∀(r:List AO) (os:List Out) (i:Nat) (s s':St),(∀j ao,r[j]?=some ao->ao.dst=some t->D (i+j)=D' (i+j))->look s.env t=look s'.env t->look (stD D i s r os).env t=look (stD D' i s' r os).env t
 |[],os,i,s,s',h,e=>by cases os<;>exact e
 |ao::r,[],i,s,s',h,e=>e
 |ao::r,o::os,i,s,s',h,e=>by
  simp only [stD]
  refine z1I r os (i+1) _ _ (fun j a hj hd=>by have:=h (j+1) a (by simpa using hj) hd;rw [Nat.add_assoc,Nat.add_comm 1 j];exact this) ?_
  by_cases hd:ao.dst=some t
  ·have:=h 0 ao rfl hd;simp only [Nat.add_zero] at this;rw [this];split
   ·simp [St.app,hd,yL]
   ·exact e
  ·have key:∀(u:St),look (u.app ao.dst o).env t=look u.env t:=by
    intro u
    cases hdd:ao.dst with
    |none=>rfl
    |some d=>
     have:d≠t:=by rintro rfl;exact hd hdd
     simp [St.app,yL,this]
   have key2:∀(b:Bool) (u:St),look (if b then u.app ao.dst o else u).env t=look u.env t:=by
    intro b u;cases b
    ·rfl
    ·exact key u
   rw [key2,key2];exact e
theorem z6T {D D':Nat->Bool}:∀(r:List AO) (os:List Out) (i:Nat) (s s':St),(∀j o,os[j]?=some o->o.ob≠[]->D (i+j)=D' (i+j))->s.s.sto=s'.s.sto->(stD D i s r os).s.sto=(stD D' i s' r os).s.sto
 |[],os,i,s,s',h,e=>by cases os<;>exact e
 |ao::r,[],i,s,s',h,e=>e
 |ao::r,o::os,i,s,s',h,e=>by
  simp only [stD]
  refine z6T r os (i+1) _ _ (fun j a hj hd=>by have:=h (j+1) a (by simpa using hj) hd;rw [Nat.add_assoc,Nat.add_comm 1 j];exact this) ?_
  by_cases hob:o.ob=[]
  ·have key2:∀(b:Bool) (u:St),(if b then u.app ao.dst o else u).s.sto=u.s.sto:=by
    intro b u;cases b
    ·rfl
    ·simp [St.app,S.app,hob,Zj]
   rw [key2,key2];exact e
  ·have:=h 0 o rfl hob;simp only [Nat.add_zero] at this;rw [this];split
   ·simp only [St.app,S.app,e]
   ·exact e
def V.names (v:V) (k:Nat):Prop:=∃ps,Zg ps/\((∃o,v.un true=(.ptr k o,ps))∨v.un true=(.mp k,ps)∨(∃i o,v.un true=(.fpt k i o,ps))∨(∃ver o,0<ver/\v.un true=(.gpt k ver o,ps))∨∃ver o l z,0<ver/\v.un true=(.gsl k ver o l z,ps))
theorem V.z6L {Λ:L} {u:Value} {v:V} {k:Nat} (h:zn Λ u v) (hn:v.names k) (hf:y9 Λ k):False:=by
 obtain ⟨ps,hp,hn⟩:=hn
 have key:∀y:V,zn Λ u y->((∃o,y= .ptr k o)∨y= .mp k∨(∃i o,y= .fpt k i o)∨(∃ver o,0<ver/\y= .gpt k ver o)∨∃ver o l z,0<ver/\y= .gsl k ver o l z)->False:=by
  intro y hy hh
  rcases hh with ⟨o,rfl⟩|rfl|⟨i,o,rfl⟩|⟨ver,o,hv,rfl⟩|⟨ver,o,l,z,hv,rfl⟩
  ·cases hy;exact hf.obj _ ‹_›
  ·cases hy;exact hf.obj _ ‹_›
  ·cases hy;exact hf.fob _ _ ‹_›
  ·cases hy with
   |gpt _ _ h3 _=>have:=hf.frf 0;omega
  ·cases hy with
   |gsl _ _ h3 _=>have:=hf.frf 0;omega
 cases v<;>simp only [V.un,Prod.mk.injEq] at hn
 case gd c x=>
  have hc:c=true:=by
   rcases hn with ⟨o,_,rfl⟩|⟨_,rfl⟩|⟨_,_,_,rfl⟩|⟨_,_,_,_,rfl⟩|⟨_,_,_,_,_,_,rfl⟩<;>simpa [Zg] using hp
  subst hc
  cases h with
  |gd h _=>
   refine key x (h Z) ?_
   rcases hn with ⟨o,h1,_⟩|⟨h1,_⟩|⟨i,o,h1,_⟩|⟨ver,o,h0,h1,_⟩|⟨ver,o,l,z,h0,h1,_⟩
   ·exact .inl ⟨o,h1⟩
   ·exact .inr (.inl h1)
   ·exact .inr (.inr (.inl ⟨i,o,h1⟩))
   ·exact .inr (.inr (.inr (.inl ⟨ver,o,h0,h1⟩)))
   ·exact .inr (.inr (.inr (.inr ⟨ver,o,l,z,h0,h1⟩)))
 all_goals
  refine key _ h ?_
  rcases hn with ⟨o,h1,_⟩|⟨h1,_⟩|⟨i,o,h1,_⟩|⟨ver,o,h0,h1,_⟩|⟨ver,o,l,z,h0,h1,_⟩
  ·exact .inl ⟨o,h1⟩
  ·exact .inr (.inl h1)
  ·exact .inr (.inr (.inl ⟨i,o,h1⟩))
  ·exact .inr (.inr (.inr (.inl ⟨ver,o,h0,h1⟩)))
  ·exact .inr (.inr (.inr (.inr ⟨ver,o,l,z,h0,h1⟩)))
theorem wQ {a b:List Bool} (h:Zg (a++b)):Zg a:=by
 induction a with
 |nil=>trivial
 |cons x r ih=>exact ⟨h.1,ih h.2⟩
theorem z5P {ao:AO} {base:Nat} {st st':St} {out:Out} (hn:ao.YV=true) (h:∀t∈ao.reads,look st.env t=look st'.env t) (he:evO P base st ao (· =out))
  (hk:∀t,t∈ao.reads->∀k,(look st.env t).names k->zi st.s.sto k≠none->zi st.s.sto k=zi st'.s.sto k):evO P base st' ao (· =out):=by
 obtain ⟨dst,g,op⟩:=ao;unfold AO.YV at hn;split at hn
 ·rename_i ag n t hg hop;simp only at hg hop;subst hg;subst hop;have ht:=h t (by simp [AO.reads,AOp.z6,Ar.z6]);have hkt:=hk t (by simp [AO.reads,AOp.z6,NOp.z6,Ar.z6]);simp only [evO,evU,evX,z5Q,or_false,Za,zg,rd,Ar.v] at he⊢;rw [←ht];generalize look st.env t=v at*
  cases hv:v.un true with
  |mk x p=>
   rw [hv] at he
   cases x with
   |ptr k o=>
    simp only at he⊢
    have:zi st.s.sto k=zi st'.s.sto k:=by
     cases ha:zi st.s.sto k with
     |none=>rw [ha] at he;exact he.elim
     |some ob=>
      rw [←ha];rw [ha] at he;refine hkt k ⟨p,?_,.inl ⟨o,hv⟩⟩ (by rw [ha];simp)
      cases ob with
      |cells cs=>
       simp only at he
       cases ag with
       |true=>
        simp only [if_true] at he;split at he
        ·rename_i v ps h1;split at h1
         ·simp at h1;obtain ⟨_,rfl⟩:=h1;exact he.1
         ·cases h1
        ·exact he.elim
       |false=>
        simp only [Bool.false_eq_true,if_false] at he;split at he
        ·rename_i v ps h1;split at h1
         ·simp at h1;obtain ⟨_,rfl⟩:=h1;exact he.1
         ·cases h1
        ·exact he.elim
      |map a b c=>exact he.elim
      |arr a=>exact he.elim
      |iter a b c d=>exact he.elim
      |gro _ _=>exact he.elim
      |yJ _=>exact he.elim
      |yh _=>exact he.elim
      |zP _ _=>exact he.elim
      |abs _=>exact he.elim
    rw [←this];exact he
   |fpt k i o=>
    simp only at he⊢
    have:zi st.s.sto k=zi st'.s.sto k:=by
     cases ha:zi st.s.sto k with
     |none=>rw [ha] at he;exact he.elim
     |some ob=>
      rw [←ha];rw [ha] at he;refine hkt k ⟨p,?_,.inr (.inr (.inl ⟨i,o,hv⟩))⟩ (by rw [ha];simp)
      cases ob with
      |yJ os=>
       simp only at he
       cases hos:os[i]? with
       |none=>rw [hos] at he;exact he.elim
       |some cs=>
        rw [hos] at he;simp only at he
        cases ag with
        |true=>
         simp only [if_true] at he;split at he
         ·rename_i v ps h1;split at h1
          ·simp at h1;obtain ⟨_,rfl⟩:=h1;exact he.1
          ·cases h1
         ·exact he.elim
        |false=>
         simp only [Bool.false_eq_true,if_false] at he;split at he
         ·rename_i v ps h1;split at h1
          ·simp at h1;obtain ⟨_,rfl⟩:=h1;exact he.1
          ·cases h1
         ·exact he.elim
      |_=>exact he.elim
    rw [←this];exact he
   |gpt k ver o=>
    simp only at he⊢
    have:zi st.s.sto k=zi st'.s.sto k:=by
     cases ha:zi st.s.sto k with
     |none=>rw [ha] at he;exact he.elim
     |some ob=>
      rw [←ha];rw [ha] at he
      cases ob with
      |gro w cs=>
       simp only at he
       have hpp:Zg (p++[decide (0<w),decide (ver=w)]):=by
        cases ag with
        |true=>
         simp only [if_true] at he;split at he
         ·rename_i v ps h1;split at h1
          ·simp at h1;obtain ⟨_,rfl⟩:=h1;simpa using he.1
          ·cases h1
         ·exact he.elim
        |false=>
         simp only [Bool.false_eq_true,if_false] at he;split at he
         ·rename_i v ps h1;split at h1
          ·simp at h1;obtain ⟨_,rfl⟩:=h1;simpa using he.1
          ·cases h1
         ·exact he.elim
       have hm:=wc hpp;have m1:=zDT (hm (decide (0<w)) (by simp));have m2:=zDT (hm (decide (ver=w)) (by simp));exact hkt k ⟨p,wQ hpp,.inr (.inr (.inr (.inl ⟨ver,o,by omega,hv⟩)))⟩ (by rw [ha];simp)
      |_=>exact he.elim
    rw [←this];exact he
   |t z=>cases z<;>exact he
   |_=>exact he
 ·rename_i ks kag zv ok t y hg hop;simp only at hg hop;subst hg;subst hop;have ht:=h t (by simp [AO.reads,AOp.z6,NOp.z6,Ar.z6]);have hy:rd true st y=rd true st' y:=ZH fun s hs=>h s (by simp [AO.reads,AOp.z6,NOp.z6,hs]);have hkt:=hk t (by simp [AO.reads,AOp.z6,NOp.z6,Ar.z6]);have e1:rd true st (.s t)=(look st.env t).un true:=rfl
  have e2:rd true st' (.s t)=(look st.env t).un true:=by rw [ht];rfl
  have e3:Ar.v st' (.s t)=look st.env t:=by rw [ht];rfl
  have e4:Ar.v st (.s t)=look st.env t:=rfl;simp only [evO,evU,evX,ZE,qV,or_false,Za,zg,Zl,←hy,e1,e2,e3,e4] at he⊢;generalize look st.env t=v at*
  cases hv:v.un true with
  |mk x p=>
   rw [hv] at he
   cases hyv:rd true st y with
   |mk vk p2=>
    simp only [hyv] at he⊢
    cases hc:wL ks kag vk with
    |none=>simp only [hc] at he
    |some cs=>
     simp only [hc] at he⊢
     cases x with
     |mp k=>
      simp only at he⊢
      have:zi st.s.sto k=zi st'.s.sto k:=by
       cases ha:zi st.s.sto k with
       |none=>rw [ha] at he;exact he.elim
       |some ob=>
        rw [←ha];rw [ha] at he;refine hkt k ⟨p,?_,.inr (.inl hv)⟩ (by rw [ha];simp)
        cases ob with
        |map a es c=>
         simp only at he
         cases hm:z19 cs es with
         |some w=>rw [hm] at he;exact wQ he.1
         |none=>rw [hm] at he;exact wQ he.1
        |cells a=>exact he.elim
        |arr a=>exact he.elim
        |iter a b c d=>exact he.elim
        |gro _ _=>exact he.elim
        |yJ _=>exact he.elim
        |yh _=>exact he.elim
        |zP _ _=>exact he.elim
        |abs _=>exact he.elim
      rw [←this];exact he
     |t z=>cases z<;>exact he
     |_=>exact he
 ·rename_i sz t y hg hop;simp only at hg hop;subst hg;subst hop;have ht:=h t (by simp [AO.reads,AOp.z6,Ar.z6]);have hy:rd true st y=rd true st' y:=ZH fun s hs=>h s (by simp [AO.reads,AOp.z6,hs]);have hkt:=hk t (by simp [AO.reads,AOp.z6,Ar.z6]);have e1:rd true st (.s t)=(look st.env t).un true:=rfl
  have e2:rd true st' (.s t)=(look st.env t).un true:=by rw [ht];rfl
  have e3:Ar.v st' (.s t)=look st.env t:=by rw [ht];rfl
  have e4:Ar.v st (.s t)=look st.env t:=rfl;simp only [evO,evU,evX,z6u,or_false,Za,zg,←hy,e1,e2,e3,e4] at he⊢;generalize look st.env t=v at*
  cases hv:v.un true with
  |mk x p=>
   rw [hv] at he
   cases hyv:rd true st y with
   |mk vk p2=>
    simp only [hyv] at he⊢
    cases x with
    |gsl k ver off len sz'=>
     cases vk with
     |t z=>
      cases z with
      |int kd z=>
       simp only at he⊢
       have:zi st.s.sto k=zi st'.s.sto k:=by
        cases ha:zi st.s.sto k with
        |none=>rw [ha] at he;exact he.elim
        |some ob=>
         rw [←ha];rw [ha] at he
         cases ob with
         |gro w cs=>
          simp only at he
          have hpp:Zg (p++(p2++[decide (0<=z),decide (z<(len:Int)),decide (0<w),decide (ver=w)])):=by
           split at he
           ·rename_i v ps h1;split at h1
            ·simp at h1;obtain ⟨_,rfl⟩:=h1;simpa using he.1
            ·cases h1
           ·exact he.elim
          have hm:=wc hpp;have m1:=zDT (hm (decide (0<w)) (by simp));have m2:=zDT (hm (decide (ver=w)) (by simp));exact hkt k ⟨p,wQ hpp,.inr (.inr (.inr (.inr ⟨ver,off,len,sz',by omega,hv⟩)))⟩ (by rw [ha];simp)
         |_=>exact he.elim
       rw [←this];exact he
      |_=>exact he
     |_=>exact he
    |_=>
     cases vk with
     |t z=>cases z<;>exact he
     |_=>exact he
 ·rename_i off t hg hop;simp only at hg hop;subst hg;subst hop;have ht:=h t (by simp [AO.reads,AOp.z6,Ar.z6]);have hkt:=hk t (by simp [AO.reads,AOp.z6,Ar.z6]);have e1:rd true st (.s t)=(look st.env t).un true:=rfl
  have e2:rd true st' (.s t)=(look st.env t).un true:=by rw [ht];rfl
  have e3:Ar.v st' (.s t)=look st.env t:=by rw [ht];rfl
  have e4:Ar.v st (.s t)=look st.env t:=rfl;simp only [evO,evU,evX,z61,or_false,Za,zg,e1,e2,e3,e4] at he⊢;generalize look st.env t=v at*
  cases hv:v.un true with
  |mk x p=>
   rw [hv] at he
   cases x with
   |gpt k ver o=>
    simp only at he⊢
    have:zi st.s.sto k=zi st'.s.sto k:=by
     cases ha:zi st.s.sto k with
     |none=>rw [ha] at he;exact he.elim
     |some ob=>
      rw [←ha];rw [ha] at he
      cases ob with
      |gro w cs=>
       simp only at he
       have hpp:Zg (p++[decide (0<w),decide (ver=w)]):=by simpa using he.1
       have hm:=wc hpp;have m1:=zDT (hm (decide (0<w)) (by simp));have m2:=zDT (hm (decide (ver=w)) (by simp));exact hkt k ⟨p,wQ hpp,.inr (.inr (.inr (.inl ⟨ver,o,by omega,hv⟩)))⟩ (by rw [ha];simp)
      |_=>exact he.elim
    rw [←this];exact he
   |t z=>cases z<;>exact he
   |_=>exact he
 ·cases hn
theorem z69 {ao:AO} {base:Nat} {st:St} {out:Out} {o:Oper} {i:Nat} (ho:ops[i]?=some o) (hres:z4k P ops o=some ao) (hn:ao.YV=true) (h:evO P base st ao (· =out)) {C:Ctx} {Λ:L} {a:Act} {next:Act->World->Prop} {Q:Exit->Act->World->Prop} (hC:C.P=P) (hr:Rel C Λ st a)
  (hle:base+out.n<=Λ.nxt) (hfree:∀k,base<=k->k<base+out.n->k<Λ.nxt/\y9 Λ k/\zi st.s.sto k=none)
  (hnext:∀v Λ',Kp Λ Λ'->Λ'.nxt=Λ.nxt->Z4 Λ' (st.s.app out)->zn Λ' v out.v->(∀k,y9 Λ k->zi st.s.sto k=none->(base+out.n<=k∨k<base)->y9 Λ' k)->next (a.put o.dst v) Λ'.w):
  ao.dst=o.dst/\wpOp P ops Q i next a Λ.w:=by
 obtain ⟨dst,g,op⟩:=ao
 have hg:g=none:=by
  unfold AO.YV at hn;split at hn
  ·rename_i h1 _;exact h1
  ·rename_i h1 _;exact h1
  ·rename_i h1 _;exact h1
  ·rename_i h1 _;exact h1
  ·cases hn
 subst hg
 have hev:∃v ps,zg true st op=some (v,ps)/\Zg ps/\({v:=v,rd:=Za st op}:Out)=out:=by
  simp only [evO,evU] at h;split at h
  ·rename_i v ps he;exact ⟨v,ps,he,h.1,h.2⟩
  ·unfold AO.YV at hn;split at hn
   ·rename_i hop;simp only at hop;subst hop;exact (h.elim (fun h=>h) z5Q.1).elim
   ·rename_i hop;simp only at hop;subst hop;exact (h.elim (fun h=>h) qV.1).elim
   ·rename_i hop;simp only at hop;subst hop;exact (h.elim (fun h=>h) z6u.1).elim
   ·rename_i hop;simp only at hop;subst hop;exact (h.elim (fun h=>h) z61.1).elim
   ·cases hn
 obtain ⟨v,ps,h1,h2,rfl⟩:=hev;unfold z4k at hres;split at hres
 ·simp at hres
 ·rename_i aop hop;split at hres
  ·rename_i hg;simp only [Option.some.injEq,AO.mk.injEq] at hres;obtain ⟨e1,_,e2⟩:=hres;subst e2;refine ⟨e1.symm,?_⟩
   have hw:Region.wanted o (yielded ops a.tmps)=true:=by simp [Region.wanted,hg]
   simp only [wpOp,ho,hw,if_true];refine .inl ?_
   exact zR.zd9 (r:=false) (base:=base) (QU hop h1 (wc h2)) C Λ a next Q hC hr hle hfree (fun u Λ' k1 k2 k3 k4 k5=>hnext u Λ' k1 k2 k3 k4 fun k f1 f2 hc=>k5 k f1 f2 (by
    rcases hc with hc|hc
    ·exact .inl hc
    ·exact .inr ⟨hc,rfl⟩))
  ·split at hres
   ·simp at hres
   ·cases hres
theorem z7i {ao:AO} {base:Nat} {st:St} {out:Out} (hn:ao.YV=true) (h:evO P base st ao (· =out)):out.ob=[]:=by
 obtain ⟨dst,g,op⟩:=ao
 have hg:g=none:=by
  unfold AO.YV at hn;split at hn
  ·rename_i h1 _;exact h1
  ·rename_i h1 _;exact h1
  ·rename_i h1 _;exact h1
  ·rename_i h1 _;exact h1
  ·cases hn
 subst hg;simp only [evO,evU] at h;split at h
 ·rw [←h.2]
 ·unfold AO.YV at hn;split at hn
  ·rename_i hop;simp only at hop;subst hop;exact (h.elim (fun h=>h) z5Q.1).elim
  ·rename_i hop;simp only at hop;subst hop;exact (h.elim (fun h=>h) qV.1).elim
  ·rename_i hop;simp only at hop;subst hop;exact (h.elim (fun h=>h) z6u.1).elim
  ·rename_i hop;simp only at hop;subst hop;exact (h.elim (fun h=>h) z61.1).elim
  ·cases hn
theorem z6b {ao:AO} {base:Nat} {st:St} {out:Out} {o:Oper} {i:Nat} (ho:ops[i]?=some o) (hres:z4k P ops o=some ao) (h:evO P base st ao (· =out)) {C:Ctx} {Λ:L} {a:Act} {next:Act->World->Prop} {Q:Exit->Act->World->Prop} (hC:C.P=P) (hr:Rel C Λ st a)
  (hdst:∀(j:Nat) (p:Oper) (d:Nat),ops[j]?=some p->p.dst=some d->d<C.n)
  (hle:base+out.n<=Λ.nxt) (hfree:∀k,base<=k->k<base+out.n->k<Λ.nxt/\y9 Λ k/\zi st.s.sto k=none)
  (hnext:∀v Λ',Kp Λ Λ'->Λ'.nxt=Λ.nxt->Z4 Λ' (st.s.app out)->zn Λ' v out.v->(∀k,y9 Λ k->zi st.s.sto k=none->(base+out.n<=k∨(k<base/\(out.rd=false∨ao.YV=true)))->y9 Λ' k)->next (a.put o.dst v) Λ'.w):
  ao.dst=o.dst/\wpOp P ops Q i next a Λ.w:=by
 cases hn:ao.YV with
 |true=>
  refine z69 ho hres hn h hC hr hle hfree fun v Λ' k1 k2 k3 k4 k5=>hnext v Λ' k1 k2 k3 k4 fun k f1 f2 hc=>k5 k f1 f2 ?_
  rcases hc with hc|hc
  ·exact .inl hc
  ·exact .inr hc.1
 |false=>
  refine QZ ho hres h hC hr hdst hle hfree fun v Λ' k1 k2 k3 k4 k5=>hnext v Λ' k1 k2 k3 k4 fun k f1 f2 hc=>k5 k f1 f2 ?_
  rcases hc with hc|⟨hc,hd⟩
  ·exact .inl hc
  ·rcases hd with hd|hd
   ·exact .inr ⟨hc,hd⟩
   ·rw [hn] at hd;cases hd
theorem z1g {D D':Nat->Bool} {k:Nat}:∀(r:List AO) (os:List Out) (i:Nat) (s s':St),(∀j o,os[j]?=some o->(∃x,(k,x)∈o.ob)->D (i+j)=D' (i+j))->zi s.s.sto k=zi s'.s.sto k->zi (stD D i s r os).s.sto k=zi (stD D' i s' r os).s.sto k
 |[],os,i,s,s',h,e=>by cases os<;>exact e
 |ao::r,[],i,s,s',h,e=>e
 |ao::r,o::os,i,s,s',h,e=>by
  simp only [stD]
  refine z1g r os (i+1) _ _ (fun j a hj hd=>by have:=h (j+1) a (by simpa using hj) hd;rw [Nat.add_assoc,Nat.add_comm 1 j];exact this) ?_
  by_cases hob:∃x,(k,x)∈o.ob
  ·have:=h 0 o rfl hob;simp only [Nat.add_zero] at this;rw [this];split
   ·exact yT o.ob _ _ k hob
   ·exact e
  ·have key2:∀(b:Bool) (u:St),zi (if b then u.app ao.dst o else u).s.sto k=zi u.s.sto k:=by
    intro b u;cases b
    ·rfl
    ·exact Z5 o.ob _ k fun x hx=>hob ⟨x,hx⟩
   rw [key2,key2];exact e
theorem z4I {D:Nat->Bool} {k:Nat}:∀(r:List AO) (os:List Out) (i:Nat) (s:St),zi (stD D i s r os).s.sto k≠none->zi s.s.sto k≠none∨∃(j:Nat) (o:Out),os[j]?=some o/\j<r.length/\D (i+j)=true/\∃x,(k,x)∈o.ob
 |[],os,i,s,h=>by cases os<;>exact .inl h
 |ao::r,[],i,s,h=> .inl h
 |ao::r,o::os,i,s,h=>by
  simp only [stD] at h
  rcases z4I r os (i+1) _ h with h|⟨j,p,h1,h2,h3,h4⟩
  ·by_cases hD:D i=true
   ·by_cases hob:∃x,(k,x)∈o.ob
    ·exact .inr ⟨0,o,rfl,by simp,by simpa using hD,hob⟩
    ·left;simp only [hD,if_true,St.app,S.app] at h;rw [Z5 o.ob _ k fun x hx=>hob ⟨x,hx⟩] at h;exact h
   ·left;simpa [hD] using h
  ·exact .inr ⟨j+1,p,by simpa using h1,by simp;omega,by rw [←Nat.add_assoc,Nat.add_right_comm];exact h3,h4⟩
structure z30 (ao:AO) (o:Out) (bo:AO) (p:Out):Prop where
 dst:∀x,ao.dst=some x->bo.dst≠some x
 ob:∀k a b,(k,a)∈o.ob->(k,b)∉p.ob
theorem z6Y {D:Nat->Bool} {ao:AO} {o:Out}:∀(r:List AO) (os:List Out) (i:Nat) (s:St),(∀j bo p,r[j]?=some bo->os[j]?=some p->D (i+j)=true->z30 ao o bo p)->
  Eqv (stD D i (s.app ao.dst o) r os) ((stD D i s r os).app ao.dst o)
 |[],os,i,s,h=>by cases os<;>exact Eqv.refl _
 |bo::r,[],i,s,h=>Eqv.refl _
 |bo::r,p::os,i,s,h=>by
  simp only [stD];have ih:=fun u=>z6Y (D:=D) (ao:=ao) (o:=o) r os (i+1) u (fun j b q hb hq hD=>h (j+1) b q (by simpa using hb) (by simpa using hq) (by rw [Nat.add_assoc,Nat.add_comm 1 j] at hD;exact hD));by_cases hD:D i=true
  ·simp only [hD,if_true];have hap:=h 0 bo p rfl rfl (by simpa using hD);exact (z7o D r os (i+1) (za9 s hap.dst hap.ob)).trans (ih _)
  ·simp only [hD,Bool.false_eq_true,if_false];exact ih s
theorem z1Z {D D':Nat->Bool} {n:Nat} {ao:AO} {o:Out}:∀(r:List AO) (os:List Out) (i:Nat) (s:St),r[n]?=some ao->os[n]?=some o->D (i+n)=false->D' (i+n)=true->(∀j,j≠i+n->D' j=D j)->
  (∀j bo p,r[j]?=some bo->os[j]?=some p->n<j->D (i+j)=true->z30 ao o bo p)->Eqv (stD D' i s r os) ((stD D i s r os).app ao.dst o)
 |[],os,i,s,h1,_,_,_,_,_=>by simp at h1
 |bo::r,[],i,s,_,h2,_,_,_,_=>by simp at h2
 |bo::r,p::os,i,s,h1,h2,h3,h4,h5,h6=>by
  cases n with
  |zero=>
   simp at h1 h2;subst h1;subst h2;simp only [Nat.add_zero] at h3 h4 h5;simp only [stD,h3,h4,if_true,Bool.false_eq_true,if_false];rw [z3F (D:=D') (D':=D) r os (i+1) _ (fun j h1 _=>h5 j (by omega))];exact z6Y r os (i+1) s (fun j b q hb hq hD=>h6 (j+1) b q (by simpa using hb) (by simpa using hq) (by omega) (by rw [Nat.add_assoc,Nat.add_comm 1 j] at hD;exact hD))
  |succ n=>
   simp only [stD,h5 i (by omega)]
   have e:i+1+n=i+(n+1):=by omega
   exact z1Z r os (i+1) _ (by simpa using h1) (by simpa using h2) (by rw [e];exact h3) (by rw [e];exact h4) (fun j hj=>h5 j (by omega)) (fun j b q hb hq hlt hD=>h6 (j+1) b q (by simpa using hb) (by simpa using hq) (by omega) (by rw [Nat.add_assoc,Nat.add_comm 1 j] at hD;exact hD))
theorem Ch.at:∀{r:List AO} {os:List Out} {i base:Nat} {s:St} {b':Nat} {s':St},Ch P base s r os b' s'->r.length=os.length/\b'=base+YL os/\s'=stD (fun _=>true) i s r os/\
  ∀(j:Nat) (ao:AO) (o:Out),r[j]?=some ao->os[j]?=some o->evO P (base+YL (os.take j)) (stD (fun l=>decide (l<i+j)) i s r os) ao (· =o)
 |[],[],i,base,s,b',s',h=>by obtain ⟨rfl,rfl⟩:=h;exact ⟨rfl,rfl,rfl,by simp⟩
 |ao::r,o::os,i,base,s,b',s',h=>by
  obtain ⟨h1,h2⟩:=h;obtain ⟨i1,i2,i3,i4⟩:=Ch.at (i:=i+1) h2
  refine ⟨by simp [i1],by simp only [YL];omega,by simp only [stD,if_true];exact i3,fun j a p ha hp=>?_⟩
  cases j with
  |zero=>
   simp at ha hp;subst ha;subst hp
   have:stD (fun l=>decide (l<i+0)) i s (ao::r) (o::os)=s:=WD _ _ _ _ (fun j hj=>by simp;omega)
   rw [this];simpa [YL] using h1
  |succ j=>
   have:=i4 j a p (by simpa using ha) (by simpa using hp)
   have e1:base+o.n+YL (os.take j)=base+YL ((o::os).take (j+1)):=by simp [YL];omega
   have e2:i+1+j=i+(j+1):=by omega
   rw [e1,e2] at this
   have e3:decide (i<i+(j+1))=true:=by simp
   simp only [stD,e3,if_true];exact this
 |[],_::_,_,_,_,_,_,h=>h.elim
 |_::_,[],_,_,_,_,_,h=>h.elim
end
section
variable {P:Program} {ops:Array Oper}
theorem z2h (f:Nat->Nat) (x:Nat):∀(l:List Nat) (s:Nat),(l.foldl (fun s j=>s|||f j) s).testBit x=(s.testBit x||l.any fun j=>(f j).testBit x)
 |[],s=>by simp
 |j::r,s=>by simp only [List.foldl_cons,List.any_cons];rw [z2h f x r];simp [Nat.testBit_or,Bool.or_assoc]
theorem z1a {D:Nat->Bool} {after:List (List Nat)} (hcl:∀i,D i=true->∀j∈after.getD i [],D j=true):∀(suf pre:List (List Nat)) (acc:List Nat),after=pre++suf->acc.length=pre.length->
  (∀i,(∀j∈after.getD i [],D j=true)->∀j,(acc.getD i 0).testBit j=true->D j=true)->∀i,(∀j∈after.getD i [],D j=true)->∀j,((z3S suf acc).getD i 0).testBit j=true->D j=true
 |[],pre,acc,_,_,h=>h
 |l::suf,pre,acc,e,hl,h=>by
  refine z1a hcl suf (pre++[l]) _ (by simp [e]) (by simp [hl]) fun i hi j hj=>?_;by_cases h1:i<acc.length
  ·rw [List.getD_eq_getElem?_getD,List.getElem?_append_left h1,←List.getD_eq_getElem?_getD] at hj;exact h i hi j hj
  ·by_cases h2:i=acc.length
   ·subst h2;rw [List.getD_eq_getElem?_getD,List.getElem?_append_right (Nat.le_refl _)] at hj;simp only [Nat.sub_self,List.getElem?_cons_zero,Option.getD_some] at hj;rw [z2h (fun j=>2 ^ j|||acc.getD j 0)] at hj;simp only [Nat.zero_testBit,Bool.false_or,List.any_eq_true] at hj;obtain ⟨q,hq,hb⟩:=hj
    have hlq:after.getD acc.length []=l:=by rw [e,hl,List.getD_eq_getElem?_getD];simp
    rw [hlq] at hi;have hDq:=hi q hq;simp only [Nat.testBit_or,Bool.or_eq_true,Nat.testBit_two_pow,decide_eq_true_eq] at hb
    rcases hb with rfl|hb
    ·exact hDq
    ·exact h q (hcl q hDq) j hb
   ·rw [List.getD_eq_getElem?_getD,List.getElem?_eq_none (by simp;omega)] at hj;simp at hj
theorem zb6 {st:St} {op:NOp} {out:Out} (h:ZE st (· =out) op):out.rd=true:=by
 unfold ZE at h;split at h
 ·split at h
  ·split at h
   ·obtain ⟨_,rfl⟩:=h;rfl
   ·exact h.elim
  ·exact h.elim
 ·split at h
  ·split at h
   ·obtain ⟨_,rfl⟩:=h;rfl
   ·exact h.elim
  ·exact h.elim
 ·split at h
  ·split at h
   ·subst h;rfl
   ·exact h.elim
  ·exact h.elim
 ·split at h
  ·split at h
   ·split at h
    ·split at h
     ·obtain ⟨_,rfl⟩:=h;rfl
     ·exact h.elim
    ·obtain ⟨_,rfl⟩:=h;rfl
   ·exact h.elim
  ·exact h.elim
 ·split at h
  ·split at h
   ·split at h
    ·subst h;rfl
    ·exact h.elim
   ·exact h.elim
  ·exact h.elim
 ·split at h
  ·split at h
   ·split at h
    ·subst h;rfl
    ·subst h;rfl
    ·exact h.elim
   ·exact h.elim
  ·exact h.elim
 ·split at h
  ·split at h
   ·split at h
    ·subst h;rfl
    ·exact h.elim
   ·exact h.elim
  ·exact h.elim
 ·exact h.elim
theorem zbc {base:Nat} {st:St} {aop:AOp} {out:Out} (h:evX P base st (· =out) aop) (hr:out.rd=false):∀k o,(k,o)∈out.ob->base<=k/\k<base+out.n:=by
 have fnev:∀{f:FuncId} {vs:List V} {sto:List (Nat×z3)},z01 P f vs base sto (· =out)->∀k o,(k,o)∈out.ob->base<=k/\k<base+out.n:=by
  intro f vs sto h k o hk;obtain ⟨out',h1,rfl⟩:=h;rw [hr] at h1;simp only [Bool.false_eq_true,if_false] at h1
  rcases (h1 []).2.1 k o hk with h|h
  ·simp [zi] at h
  ·exact h
 have fnevS:∀{f:FuncId} {vs:List V} {sto:List (Nat×z3)},Wr P f vs base sto (· =out)->∀k o,(k,o)∈out.ob->base<=k/\k<base+out.n:=by
  intro f vs sto h k o hk;obtain ⟨out',h1,rfl⟩:=h;rw [hr] at h1;simp only [Bool.false_eq_true,if_false] at h1
  rcases (h1 []).2.1 k o hk with h|h
  ·simp [zi] at h
  ·exact h
 unfold evX at h;split at h
 ·split at h
  ·split at h
   ·split at h
    ·obtain ⟨_,rfl⟩:=h;simp at hr
    ·exact h.elim
   ·exact h.elim
  ·exact h.elim
 ·split at h
  ·obtain ⟨_,rfl⟩:=h;intro j ob hj;simp at hj;simp;omega
  ·exact h.elim
 ·subst h;intro j ob hj;simp at hj;simp;omega
 ·split at h
  ·obtain ⟨_,h⟩:=h;split at h
   ·rcases h with h|h
    ·split at h
     ·subst h;intro j ob hj;simp at hj
     ·subst h;intro j ob hj;simp at hj;simp;omega
    ·subst h;intro j ob hj;simp at hj
   ·subst h;intro j ob hj;simp at hj
  ·exact h.elim
 ·split at h
  ·split at h
   ·obtain ⟨_,_,_,rfl⟩:=h;intro j ob hj;simp at hj;simp;omega
   ·split at h
    ·obtain ⟨_,_,_,_,_,rfl⟩:=h;simp at hr
    ·exact h.elim
   ·exact h.elim
  ·exact h.elim
 ·split at h
  ·obtain ⟨_,rfl⟩:=h;intro j ob hj;simp at hj;simp;omega
  ·exact h.elim
 ·exact fnev h
 ·split at h
  ·exact fnevS h
  ·exact fnevS h
  ·exact h.elim
 ·subst h;intro j ob hj;simp at hj;simp;omega
 ·split at h
  ·split at h
   ·subst h;simp at hr
   ·exact h.elim
  ·exact h.elim
 ·split at h
  ·subst h;simp at hr
  ·split at h
   ·subst h;simp at hr
   ·exact h.elim
  ·exact h.elim
 ·rename_i op;exact absurd hr (by rw [zb6 h];simp)
 ·exact h.elim
theorem z5i {base:Nat} {st:St} {aop:AOp} {out:Out} (h:evX P base st (· =out) aop∨evY base st (· =out) aop) (hr:out.rd=false):∀k o,(k,o)∈out.ob->base<=k/\k<base+out.n:=by
 rcases h with h|⟨o',h,rfl⟩
 ·exact zbc h hr
 ·cases h with
  |z8H _=>intro j ob hj;simp at hj;simp;omega
  |_=>simp at hr
theorem z3r {base:Nat} {st:St} {ao:AO} {out:Out} (h:evO P base st ao (· =out)) (hr:out.rd=false):∀k o,(k,o)∈out.ob->base<=k/\k<base+out.n:=by
 unfold evO at h;split at h
 ·unfold evU at h;split at h
  ·obtain ⟨_,rfl⟩:=h;intro j ob hj;simp at hj
  ·exact z5i h hr
 ·split at h
  ·exact h.elim
  ·rename_i gc _;split at h
   ·obtain ⟨_,rfl⟩:=h;intro j ob hj;simp at hj
   ·rcases h with h|h
    ·unfold WK at h;split at h
     ·obtain ⟨out0,_,⟨k2,_⟩,rfl⟩:=h;intro j ob hj;simp [k2] at hj
     ·exact h.elim
    cases gc with
    |true=>exact z5i (h.1 rfl) hr
    |false=>have:=h.2 rfl;subst this;intro j ob hj;simp at hj
theorem wN:∀(os:List Out) (j:Nat) (o:Out),os[j]?=some o->(flags os).getD j (false,false)=(o.rd,!o.ob.isEmpty||decide (0<o.n))
 |[],j,o,h=>by simp at h
 |p::r,0,o,h=>by simp at h;subst h;rfl
 |p::r,j+1,o,h=>by simp only [flags,List.getD_cons_succ];exact wN r j o (by simpa using h)
theorem w4:∀(os:List Out) (j:Nat) (o:Out),os[j]?=some o->YL (os.take (j+1))=YL (os.take j)+o.n
 |[],j,o,h=>by simp at h
 |p::r,0,o,h=>by simp at h;subst h;simp [YL]
 |p::r,j+1,o,h=>by have:=w4 r j o (by simpa using h);simp [YL,this];omega
theorem yg:∀(os:List Out) (i j:Nat),i<=j->YL (os.take i)<=YL (os.take j)
 |[],i,j,_=>by simp
 |p::r,0,j,_=>by simp [YL]
 |p::r,i+1,0,h=>by omega
 |p::r,i+1,j+1,h=>by have:=yg r i j (by omega);simp [YL];omega
theorem z3x (os:List Out) (j:Nat):YL (os.take j)<=YL os:=by
 rcases Nat.le_total j os.length with h|h
 ·have:=yg os j os.length h;rwa [List.take_length] at this
 ·rw [List.take_of_length_le h];exact Nat.le_refl _
def dOf (listed:Array Bool):Nat->Bool:=fun j=>listed.getD j false
theorem zb3 (listed:Array Bool) {i:Nat} (hi:i<listed.size) (j:Nat):dOf (listed.setIfInBounds i true) j=if j=i then true else dOf listed j:=by
 unfold dOf;simp only [Array.getD_eq_getD_getElem?,Array.getElem?_setIfInBounds];by_cases e:i=j
 ·subst e;simp [hi]
 ·simp [e,Ne.symm e]
theorem mem_ready {listed:Array Bool} (hs:listed.size=ops.size) {i:Nat}:i∈Region.ready .any ops listed↔i<ops.size/\dOf listed i=false/\∀j∈(YC ops).getD i [],dOf listed j=true:=by
 unfold Region.ready;rw [List.mem_filter,List.mem_range];refine ⟨fun ⟨h1,h2⟩=>⟨h1,?_⟩,fun ⟨h1,h2,h3⟩=>⟨h1,?_⟩⟩
 all_goals
  have ho:ops[i]?=some ops[i]:=by simp [h1]
  have hg:(YC ops).getD i []=(ops[i].after.toList.filter (Region.binds .any)).map (·.on):=by
   unfold YC;rw [List.getD_eq_getElem?_getD,List.getElem?_map];simp [h1]
 ·rw [ho] at h2;simp only [Option.map_some,Option.getD_some,Bool.and_eq_true,Bool.not_eq_true',Array.all_eq_true'] at h2;refine ⟨?_,fun j hj=>?_⟩
  ·unfold dOf;have:=h2.1;simp only [Array.getD_eq_getD_getElem?] at this⊢;rw [Array.getElem?_eq_getElem (by omega)] at this⊢;simpa using this
  ·rw [hg,List.mem_map] at hj;obtain ⟨e,he,rfl⟩:=hj;rw [List.mem_filter] at he;have:=h2.2 e (by simpa using he.1);simp only [he.2,Bool.not_true,Bool.false_or] at this;exact this
 ·rw [ho];simp only [Option.map_some,Option.getD_some,Bool.and_eq_true,Bool.not_eq_true',Array.all_eq_true'];refine ⟨?_,fun e he=>?_⟩
  ·unfold dOf at h2;simp only [Array.getD_eq_getD_getElem?] at h2⊢;rw [Array.getElem?_eq_getElem (by omega)] at h2⊢;simpa using h2
  ·by_cases hb:Region.binds .any e=true
   ·have:=h3 e.on (by rw [hg,List.mem_map];exact ⟨e,by rw [List.mem_filter];exact ⟨by simpa using he,hb⟩,rfl⟩);unfold dOf at this;simp [this]
   ·simp [hb]
def unl (D:Nat->Bool):Nat->Nat
 |0=>0
 |n+1=>unl D n+(if D n then 0 else 1)
theorem z59 {D:Nat->Bool}:∀{n:Nat},unl D n=0->∀j,j<n->D j=true
 |0,_,j,h=>by omega
 |n+1,h,j,hj=>by
  simp only [unl] at h;by_cases e:j=n
  ·subst e;by_cases hd:D j=true
   ·exact hd
   ·simp [hd] at h
  ·exact z59 (n:=n) (by omega) j (by omega)
theorem z4o {D D':Nat->Bool}:∀{n:Nat},(∀j,j<n->D' j=D j)->unl D' n=unl D n
 |0,_=>rfl
 |n+1,h=>by simp only [unl,h n (by omega),z4o (n:=n) (fun j hj=>h j (by omega))]
theorem z7g {D D':Nat->Bool} {i:Nat} (hi:D i=false) (hi':D' i=true) (h:∀j,j≠i->D' j=D j):∀{n:Nat},i<n->unl D' n+1=unl D n
 |0,hn=>by omega
 |n+1,hn=>by
  simp only [unl];by_cases e:i=n
  ·subst e;rw [z4o (D:=D) (D':=D') (fun j hj=>h j (by omega))];simp [hi,hi']
  ·have:=z7g hi hi' h (n:=n) (by omega);rw [h n (Ne.symm e)];omega
theorem z7J {D:Nat->Bool}:∀{n:Nat},(∀j,j<n->D j=false)->unl D n=n
 |0,_=>rfl
 |n+1,h=>by simp [unl,h n (by omega),z7J (n:=n) (fun j hj=>h j (by omega))]
theorem z84 {C:Ctx} (hC:C.P=P) (hd:z9r C ops) {aos:List AO} (hres:z0e P ops ops.toList=some aos) {Q:Exit->Act->World->Prop} {base b' m:Nat} {st st':St} {outs:List Out}
  (hch:Ch P base st aos outs b' st') (hind:indep aos (YC ops) (flags outs) st'.env=true) (hm:b'<=m) (hno:∀k,base<=k->k<b'->zi st.s.sto k=none) (hq:∀(a':Act) (Λ':L),Rel C Λ' st' a'->Λ'.nxt=m->Q .normal a' Λ'.w):
  ∀(fuel:Nat) (listed:Array Bool) (Λ:L) (a:Act),listed.size=ops.size->unl (dOf listed) ops.size<=fuel->(∀i,dOf listed i=true->∀j∈(YC ops).getD i [],dOf listed j=true)->
   Rel C Λ (stD (dOf listed) 0 st aos outs) a->Λ.nxt=m->
   (∀i o,outs[i]?=some o->dOf listed i=false->∀k,base+YL (outs.take i)<=k->k<base+YL (outs.take (i+1))->y9 Λ k/\zi (stD (dOf listed) 0 st aos outs).s.sto k=none)->
   wpAny P .any ops Q fuel listed a Λ.w:=by
 obtain ⟨hlen,hat⟩:=QA hres;obtain ⟨hlo,hb',hst',hev⟩:=Ch.at (i:=0) hch
 have hn:aos.length=ops.size:=by rw [←hlen];simp
 simp only [indep,Bool.and_eq_true,List.all_eq_true,decide_eq_true_eq] at hind;obtain ⟨hlt,hpair⟩:=hind
 have hafter:∀i,∀j∈(YC ops).getD i [],j<i:=by
  intro i j hj;rw [List.getD_eq_getElem?_getD] at hj
  cases hg:(YC ops)[i]? with
  |none=>rw [hg] at hj;simp at hj
  |some l=>
   rw [hg] at hj;have:=hlt (l,i) (by rw [List.mem_zipIdx_iff_getElem?];simpa using hg) j (by simpa using hj);exact this
 have hpre:∀(i:Nat),i<=outs.length->∀k,zi (stD (fun l=>decide (l<i)) 0 st aos outs).s.sto k≠none->zi st.s.sto k≠none∨k<base+YL (outs.take i):=by
  intro i
  induction i using Nat.strongRecOn with
  |_ i ih=>
   intro hi k hk
   rcases z4I aos outs 0 st hk with h|⟨j,o,h1,h2,h3,x,h4⟩
   ·exact .inl h
   ·simp only [Nat.zero_add,decide_eq_true_eq] at h3;have hoj:=hev j aos[j] o (by simp [h2]) h1;simp only [Nat.zero_add] at hoj
    rcases qv hoj k x h4 with h|⟨_,h⟩
    ·rcases ih j h3 (by omega) k h with h|h
     ·exact .inl h
     ·right;have:=yg outs j i (by omega);omega
    ·right;have:=w4 outs j o h1;have:=yg outs (j+1) i (by omega);omega
 have hall:∀(listed:Array Bool),listed.size=ops.size->Region.ready .any ops listed=[]->∀i,i<ops.size->dOf listed i=true:=by
  intro listed hs hr i
  induction i using Nat.strongRecOn with
  |_ i ih=>
   intro hi
   cases hD:dOf listed i with
   |true=>rfl
   |false=>
    exfalso;have:i∈Region.ready .any ops listed:=(mem_ready hs).2 ⟨hi,hD,fun j hj=>ih j (hafter i j hj) (by have:=hafter i j hj;omega)⟩;rw [hr] at this;simp at this
 have hfin:∀(listed:Array Bool) (Λ:L) (a:Act),(∀i,i<ops.size->dOf listed i=true)->Rel C Λ (stD (dOf listed) 0 st aos outs) a->Λ.nxt=m->Q .normal a Λ.w:=by
  intro listed Λ a hl hr hx;refine hq a Λ ?_ hx;rw [z3F (D':=fun _=>true) aos outs 0 st (fun j _ hj=>hl j (by omega)),←hst'] at hr;exact hr
 intro fuel
 induction fuel with
 |zero=>
  intro listed Λ a hs hu hcl hr hx _;have hl:=z59 (Nat.le_zero.1 hu);refine ⟨?_,hfin listed Λ a hl hr hx⟩
  cases hrd:Region.ready .any ops listed with
  |nil=>rfl
  |cons i r=>
   have:i∈Region.ready .any ops listed:=by rw [hrd];simp
   obtain ⟨h1,h2,_⟩:=(mem_ready hs).1 this;rw [hl i h1] at h2;cases h2
 |succ fuel ih=>
  intro listed Λ a hs hu hcl hr hx hfr;refine ⟨fun h0=>hfin listed Λ a (hall listed hs h0) hr hx,fun i hi=>?_⟩;obtain ⟨hi1,hi2,hi3⟩:=(mem_ready hs).1 hi
  have hanc:=z1a hcl (YC ops) [] [] rfl rfl (fun i _ j hj=>by simp at hj)
  have hia:i<aos.length:=by omega
  have hio:i<outs.length:=by omega
  have hao:aos[i]?=some aos[i]:=by simp [hia]
  have hou:outs[i]?=some outs[i]:=by simp [hio]
  have ho:ops[i]?=some ops[i]:=by simp [hi1]
  have hro:=hat i ops[i] aos[i] (by simp) hao
  have hord:∀j ao o,aos[j]?=some ao->outs[j]?=some o->j≠i->(decide (j<i)=dOf listed j)∨
    (ao.qi aos[i]=false/\aos[i].qi ao=false/\(outs[i].rd&&(!o.ob.isEmpty||decide (0<o.n))&&!(aos[i].YV&&!o.rd)&&!(aos[i].z0d&&!o.rd&&decide (i<j))&&!(z48 aos st'.env i j))=false/\(o.rd&&(!outs[i].ob.isEmpty||decide (0<outs[i].n))&&!(ao.YV&&!outs[i].rd)&&!(ao.z0d&&!outs[i].rd&&decide (j<i))&&!(z48 aos st'.env j i))=false):=by
   intro j ao o hj ho' hne;have hjl:=(List.getElem?_eq_some_iff.1 hj).1
   have e1:aos.getD j ⟨none,none,.cst .top⟩=ao:=by rw [List.getD_eq_getElem?_getD,hj];rfl
   have e2:aos.getD i ⟨none,none,.cst .top⟩=aos[i]:=by rw [List.getD_eq_getElem?_getD,hao];rfl
   have clash_symm:∀x y:AO,x.qi y=false->y.qi x=false:=by
    intro x y h;unfold AO.qi at h⊢;simp only [Bool.or_eq_false_iff] at h⊢;exact ⟨⟨h.1.2,h.1.1⟩,⟨h.2.2,h.2.1⟩⟩
   rcases Nat.lt_or_gt_of_ne hne with hlt|hlt
   ·have hp:=hpair i (List.mem_range.2 hia) j (List.mem_range.2 hlt);unfold z5G at hp;rw [wN outs j o ho',wN outs i outs[i] hou,e1,e2] at hp;simp only [Bool.or_eq_true,Bool.and_eq_true,Bool.not_eq_true'] at hp
    rcases hp with hp|⟨⟨h1,h2⟩,h3⟩
    ·left;rw [hanc i hi3 j hp];simpa using hlt
    ·right;refine ⟨h1,clash_symm _ _ h1,?_,?_⟩
     ·rw [show decide (i<j)=false from decide_eq_false (by omega),Bool.and_false,Bool.not_false,Bool.and_true];exact h3
     ·rw [show decide (j<i)=true from decide_eq_true hlt,Bool.and_true];exact h2
   ·have hp:=hpair j (List.mem_range.2 hjl) i (List.mem_range.2 hlt);unfold z5G at hp;rw [wN outs j o ho',wN outs i outs[i] hou,e1,e2] at hp;simp only [Bool.or_eq_true,Bool.and_eq_true,Bool.not_eq_true'] at hp
    rcases hp with hp|⟨⟨h1,h2⟩,h3⟩
    ·left
     cases hD:dOf listed j with
     |false=>simp;omega
     |true=>
      have:=hanc j (hcl j hD) i hp;rw [this] at hi2;cases hi2
    ·right;refine ⟨clash_symm _ _ h1,h1,?_,?_⟩
     ·rw [show decide (i<j)=true from decide_eq_true hlt,Bool.and_true];exact h2
     ·rw [show decide (j<i)=false from decide_eq_false (by omega),Bool.and_false,Bool.not_false,Bool.and_true];exact h3
  have hoffs:∀a b:Nat,∀ha:a<aos.length,aos[a].YV=false->z48 aos st'.env a b=false:=by
   intro a b ha hn
   cases ho:z48 aos st'.env a b with
   |false=>rfl
   |true=>
    obtain ⟨k1,q1,g1,_,_⟩:=z5a ho
    have e1:aos.getD a ⟨none,none,.cst .top⟩=aos[a]:=by rw [List.getD_eq_getElem?_getD];simp [ha]
    rw [e1] at g1;rw [(z2q g1).1] at hn;cases hn
  have hend:∀(a t:Nat),a<=aos.length->(∀o∈aos.drop a,o.dst≠some t)->look (stD (fun l=>decide (l<a)) 0 st aos outs).env t=look st'.env t:=by
   intro a t ha hw;rw [hst'];refine z1I aos outs 0 st st (fun j ao hj hdst=>?_) Z;simp only [Nat.zero_add,decide_eq_true_eq];apply Classical.byContradiction;intro hlt;refine hw ao ?_ hdst;rw [List.mem_iff_getElem?];refine ⟨j - a,?_⟩;rw [List.getElem?_drop]
   have:a+(j - a)=j:=by omega
   rw [this];exact hj
  have hself:decide (i<i)=dOf listed i:=by rw [hi2];simp
  have hidx:∀j:Nat,∃o:Out,∀ao:AO,aos[j]?=some ao->outs[j]?=some o:=by
   intro j;by_cases hj:j<outs.length
   ·exact ⟨outs[j],fun _ _=>by simp [hj]⟩
   ·exact ⟨outs[i],fun ao h=>by have:=(List.getElem?_eq_some_iff.1 h).1;omega⟩
  have hevi:=hev i aos[i] outs[i] hao hou;simp only [Nat.zero_add] at hevi
  have hlk:∀t∈aos[i].reads,look (stD (fun l=>decide (l<i)) 0 st aos outs).env t=look (stD (dOf listed) 0 st aos outs).env t:=by
   intro t ht;refine z1I aos outs 0 st st (fun j ao hj hdst=>?_) Z;simp only [Nat.zero_add];by_cases e:j=i
   ·subst e;exact hself
   ·obtain ⟨o,hoo⟩:=hidx j
    rcases hord j ao o hj (hoo ao hj) e with h|⟨h,_⟩
    ·exact h
    ·unfold AO.qi at h;simp only [Bool.or_eq_false_iff] at h;have:=h.1.1;unfold AO.zcp at this;simp only [hdst,List.contains_eq_mem,decide_eq_false_iff_not] at this;exact (this ht).elim
  have hevD:evO P (base+YL (outs.take i)) (stD (dOf listed) 0 st aos outs) aos[i] (· =outs[i]):=by
   by_cases hrd:outs[i].rd=true
   ·cases hnear:aos[i].YV with
    |false=>
     cases hcall:aos[i].z0d with
     |true=>
      refine zbu hcall hlk (fun k hk=>?_) hevi;refine (z1g aos outs 0 st st (fun j o hj hob=>?_) Z).symm;simp only [Nat.zero_add];by_cases e:j=i
      ·subst e;exact hself
      ·have hjl:j<aos.length:=by rw [hlo];exact (List.getElem?_eq_some_iff.1 hj).1
       rcases hord j aos[j] o (by simp [hjl]) hj e with h|⟨_,_,h,_⟩
       ·exact h
       ·exfalso;obtain ⟨x,hx⟩:=hob
        have hne:o.ob.isEmpty=false:=by cases hh:o.ob with|nil=>rw [hh] at hx;simp at hx|cons _ _=>rfl
        have hof:=hoffs i j hia hnear;simp [hrd,hne,hnear,hof,hcall] at h;have hoj:=hev j aos[j] o (by simp [hjl]) hj;simp only [Nat.zero_add] at hoj;have n1:=z3r hoj h.1 k x hx;have m1:=yg outs i j (by omega);omega
     |false=>
     refine z2w hlk (.inr (z6T aos outs 0 st st (fun j o hj hob=>?_) Z)) hevi;simp only [Nat.zero_add];by_cases e:j=i
     ·subst e;exact hself
     ·have hjl:j<aos.length:=by rw [hlo];exact (List.getElem?_eq_some_iff.1 hj).1
      rcases hord j aos[j] o (by simp [hjl]) hj e with h|⟨_,_,h,_⟩
      ·exact h
      ·have hof:=hoffs i j hia hnear;simp [hrd,hob,hnear,hof,hcall] at h
    |true=>
     refine z5P hnear hlk hevi fun t ht k hnm hsome=>?_;refine z1g aos outs 0 st st (fun j o hj hob=>?_) Z;simp only [Nat.zero_add];by_cases e:j=i
     ·subst e;exact hself
     ·have hjl:j<aos.length:=by rw [hlo];exact (List.getElem?_eq_some_iff.1 hj).1
      rcases hord j aos[j] o (by simp [hjl]) hj e with h|⟨_,_,h,_⟩
      ·exact h
      ·obtain ⟨x,hx⟩:=hob
       have hne:o.ob.isEmpty=false:=by cases hh:o.ob with|nil=>rw [hh] at hx;simp at hx|cons _ _=>rfl
       cases hof:z48 aos st'.env i j with
       |true=>
        exfalso;obtain ⟨k1,q1,g1,g2,hne1⟩:=z5a hof
        have e1:aos.getD i ⟨none,none,.cst .top⟩=aos[i]:=by rw [List.getD_eq_getElem?_getD,hao];rfl
        have e2:aos.getD j ⟨none,none,.cst .top⟩=aos[j]:=by rw [List.getD_eq_getElem?_getD];simp [hjl]
        rw [e1] at g1;rw [e2] at g2;obtain ⟨_,a1⟩:=z2q g1;obtain ⟨a2,a3⟩:=a1 t ht
        have hk1:k=k1:=by
         obtain ⟨ps,_,hnm⟩:=hnm;rw [hend i t (by omega) a2] at hnm;exact a3 k ps hnm
        have hoj:=hev j aos[j] o (by simp [hjl]) hj;simp only [Nat.zero_add] at hoj
        have hk2:k=q1:=by
         rcases z5R (P:=P) g2 with ⟨t2,b1,b2⟩|⟨d,b0,b1,b2⟩
         ·exact b2 _ _ _ (hend j t2 (by omega) b1) hoj k x hx
         ·refine b2 _ _ _ ?_ hoj k x hx;rw [←hend (j+1) d (by omega) (by rw [←List.tail_drop];exact b1)];have hjo:j<outs.length:=(List.getElem?_eq_some_iff.1 hj).1;have hs:=z4e aos outs 0 st j aos[j] o (by simp [hjl]) hj;simp only [Nat.zero_add] at hs;rw [hs];simp only [St.app,b0,yL,if_true]
        exact hne1 (hk1.symm.trans hk2)
       |false=>
        have hord':o.rd=false:=by simpa [hrd,hne,hnear,hof,z6a hnear] using h
        have hoj:=hev j aos[j] o (by simp [hjl]) hj;have n1:=z3r hoj hord' k x hx;have n2:=w4 outs j o hj
        cases hD:dOf listed j with
        |false=>
         exfalso;have hf:=(hfr j o hj hD k n1.1 (by omega)).1;have hv:=hr.env t;rw [←hlk t ht] at hv;exact V.z6L hv hnm hf
        |true=>
         simp only [decide_eq_true_eq]
         rcases Nat.lt_or_gt_of_ne e with h|h
         ·exact h
         ·exfalso;have m1:=yg outs i j (by omega);have m2:=z3x outs (j+1)
          rcases hpre i (by omega) k hsome with g|g
          ·exact g (hno k (by omega) (by omega))
          ·omega
   ·exact z2w hlk (.inl (by simpa using hrd)) hevi
  have hdst:aos[i].dst=ops[i].dst:=by
   have:=hro;unfold z4k at this;split at this
   ·cases this
   ·split at this
    ·simp only [Option.some.injEq] at this;rw [←this]
    ·split at this
     ·simp only [Option.some.injEq] at this;rw [←this]
     ·cases this
  have hsucc:=w4 outs i outs[i] hou;have hle1:=z3x outs (i+1);refine (z6b ho hro hevD hC hr hd (by omega) (fun k k1 k2=>?_) fun v Λ' k1 k2 k3 k4 k5=>?_).2
  ·obtain ⟨f1,f2⟩:=hfr i outs[i] hou hi2 k k1 (by omega)
   exact ⟨by omega,f1,f2⟩
  ·have hr1:Rel C Λ' ((stD (dOf listed) 0 st aos outs).app aos[i].dst outs[i]) (a.put aos[i].dst v):=hr.step k1 (fun x hx=>hd i _ x ho (by rw [←hdst];exact hx)) k4 k3;have hset:=zb3 listed (i:=i) (by omega)
   have heq:Eqv (stD (dOf (listed.setIfInBounds i true)) 0 st aos outs) ((stD (dOf listed) 0 st aos outs).app aos[i].dst outs[i]):=by
    refine z1Z (n:=i) aos outs 0 st hao hou (by simpa using hi2) (by simp [hset]) (fun j hj=>by rw [hset];simp at hj;simp [hj]) (fun j bo p hb hp hlt hD=>?_)
    simp only [Nat.zero_add] at hD
    rcases hord j bo p hb hp (by omega) with h|⟨h1,h2,h3,h4⟩
    ·rw [hD] at h;simp at h;omega
    ·refine ⟨fun x hx hbx=>?_,fun k x y hx hy=>?_⟩
     ·unfold AO.qi at h2;simp only [Bool.or_eq_false_iff] at h2;have:=h2.2.1;unfold AO.same at this;simp [hx,hbx] at this
     ·have hob:outs[i].ob.isEmpty=false:=by cases hh:outs[i].ob with|nil=>rw [hh] at hx;simp at hx|cons _ _=>rfl
      have hpb:p.ob.isEmpty=false:=by cases hh:p.ob with|nil=>rw [hh] at hy;simp at hy|cons _ _=>rfl
      have hni:aos[i].YV=false:=by
       cases hh:aos[i].YV with
       |false=>rfl
       |true=>have:=z7i hh hevi;rw [this] at hx;simp at hx
      have hnb:bo.YV=false:=by
       cases hh:bo.YV with
       |false=>rfl
       |true=>have:=z7i hh (hev j bo p hb hp);rw [this] at hy;simp at hy
      have hbl:j<aos.length:=(List.getElem?_eq_some_iff.1 hb).1;have hbe:aos[j]=bo:=(List.getElem?_eq_some_iff.1 hb).2;simp only [hpb,hni,hoffs i j hia hni,Bool.not_false,Bool.true_or,Bool.and_true,Bool.false_and] at h3;simp only [hob,hnb,hoffs j i hbl (by rw [hbe];exact hnb),show decide (j<i)=false from decide_eq_false (by omega),Bool.and_false,Bool.not_false,Bool.true_or,Bool.and_true,Bool.false_and] at h4;have n2:=z3r (hev j bo p hb hp) h4 k y hy;have m1:=yg outs (i+1) j (by omega);have m2:=z3x outs (j+1);have m3:=w4 outs j p hp
      rcases qv hevi k x hx with g|⟨_,g⟩
      ·rcases hpre i (by omega) k g with g|g
       ·exact g (hno k (by omega) (by omega))
       ·omega
      ·omega
   have hr2:=hr1.eqv heq.symm;rw [←hdst];have hnm:=qv hevD;refine ih (listed.setIfInBounds i true) Λ' _ (by simpa using hs) ?_ (fun j hj l hl=>?_) hr2 (by omega) (fun j o hj hD k h1 h2=>?_)
   ·have:=z7g (D:=dOf listed) (D':=dOf (listed.setIfInBounds i true)) (i:=i) hi2 (by simp [hset]) (fun j hj=>by simp [hset,hj]) hi1
    omega
   ·rw [hset] at hj⊢;split
    ·rfl
    ·by_cases e:j=i
     ·subst e;exact hi3 l hl
     ·simp only [e,if_false] at hj;exact hcl j hj l hl
   ·rw [hset] at hD
    have hne:j≠i:=by rintro rfl;simp at hD
    simp only [hne,if_false] at hD;obtain ⟨f1,f2⟩:=hfr j o hj hD k h1 h2
    have hout:k<base+YL (outs.take i)∨base+YL (outs.take i)+outs[i].n<=k:=by
     rcases Nat.lt_or_gt_of_ne hne with h|h
     ·have:=yg outs (j+1) i (by omega);left;omega
     ·have:=yg outs (i+1) j (by omega);right;omega
    have hout':base+YL (outs.take i)+outs[i].n<=k∨(k<base+YL (outs.take i)/\(outs[i].rd=false∨aos[i].YV=true)):=by
     rcases hout with h|h
     ·right;refine ⟨h,?_⟩
      have hon:0<o.n:=by have:=w4 outs j o hj;omega
      have hjl:j<aos.length:=by rw [hlo];exact (List.getElem?_eq_some_iff.1 hj).1
      rcases hord j aos[j] o (by simp [hjl]) hj hne with e|⟨_,_,e,_⟩
      ·rw [hD] at e;simp at e;have:=yg outs (i+1) j (by omega);omega
      ·cases hn1:outs[i].rd with
       |false=>exact .inl rfl
       |true=>
        cases hn2:aos[i].YV with
        |true=>exact .inr rfl
        |false=>
         rw [show decide (i<j)=false from decide_eq_false (by intro hlt;have:=yg outs (i+1) j (by omega);omega)] at e;simp [hn1,hn2,hon,hoffs i j hia hn2] at e
     ·exact .inl h
    exact ⟨k5 k f1 f2 hout',by rw [heq.sto];exact z1r hnm f2 hout _⟩
end
inductive YX where
 |normal
 |exit (id:Nat)
 |ret
def Zn:Exit->Option YX
 | .normal=>some .normal
 | .exit id=>some (.exit id)
 | .ret=>some .ret
 |_=>none
def codeOk (n:Nat):Code->Bool
 | .region _ ops _=>ops.all fun o=>match o.dst with|some d=>decide (d<n)|none=>true
 | .seq a b=>codeOk n a&&codeOk n b
 | .cond _ a b=>codeOk n a&&codeOk n b
 | .block _ c=>codeOk n c
 | .loop c=>codeOk n c
 | .scope c=>codeOk n c
 |_=>true
def wB (live:List Nat):List (Nat×V)->List (Nat×V)
 |[]=>[]
 |(t,x)::r=>if live.contains t then (t,x)::wB live r else wB live r
theorem Q3 (live:List Nat):∀(e:List (Nat×V)) (t:Nat),look (wB live e) t=look e t∨look (wB live e) t= .top
 |[],t=> .inl rfl
 |(k,x)::r,t=>by
  simp only [wB];by_cases hk:live.contains k=true
  ·simp only [hk,if_true];by_cases e:k=t
   ·subst e;left;simp [look,zi]
   ·have:=Q3 live r t;simpa [look,zi,e] using this
  ·simp only [hk,Bool.false_eq_true,if_false];by_cases e:k=t
   ·subst e;right
    have:∀r:List (Nat×V),look (wB live r) k= .top:=by
     intro r
     induction r with
     |nil=>rfl
     |cons h r ih=>
      obtain ⟨j,y⟩:=h;simp only [wB];by_cases hj:live.contains j=true
      ·have hne:j≠k:=by rintro rfl;exact hk hj
       simp only [hj,if_true];simpa [look,zi,hne] using ih
      ·simp only [hj,Bool.false_eq_true,if_false];exact ih
    exact this r
   ·have:=Q3 live r t;simpa [look,zi,e] using this
def zab (C:Ctx) (Q:YX->St->Prop):Exit->Act->World->Prop:=fun e a w=>∃x st Λ,Zn e=some x/\Q x st/\Rel C Λ st a/\Λ.nxt=st.s.nxt/\Λ.w=w
def Sat (P:Program) (n m:Nat) (c:zW) (st:St) (Q:YX->St->Prop):Prop:=
 ∀(code:Code),Y7 P code=some c.bare->codeOk n code=true->P.follows .mixedOrders=true->∀(C:Ctx) (Λ:L) (a:Act),C.P=P->C.n=n->C.Λ.nxt=m->Rel C Λ st a->Λ.nxt=st.s.nxt->
  code.wp P (zab C Q) a Λ.w
section
variable {P:Program} {n m:Nat} {st:St} {Q:YX->St->Prop}
theorem Sat.mono {c:zW} {Q':YX->St->Prop} (h:Sat P n m c st Q) (hq:∀e st,Q e st->Q' e st):Sat P n m c st Q':=by
 intro code h1 h2 h3 C Λ a h4 h5 h6 h7 h8;exact wp_mono (h code h1 h2 h3 C Λ a h4 h5 h6 h7 h8) fun e a w ⟨x,s,Λ',k1,k2,k3⟩=>⟨x,s,Λ',k1,hq _ _ k2,k3⟩
theorem ZR {code:Code} {c:zW} (h:Y7 P code=some c):
  match c with
  | .skip=>code= .skip
  | .region draw l after live=>∃id ops,code= .region id ops draw/\z0e P ops ops.toList=some l/\(draw=true->after=YC ops)/\live=[]
  | .seq a b=>∃x y,code= .seq x y/\Y7 P x=some a/\Y7 P y=some b
  | .cond z a b=>∃c x y,code= .cond c x y/\opA c=some z/\Y7 P x=some a/\Y7 P y=some b
  | .block id a=>∃x,code= .block id x/\Y7 P x=some a
  | .loop a=>∃x,code= .loop x/\Y7 P x=some a
  | .exit id=>code= .exit id
  | .ret=>code= .ret
  | .scope a=>∃x,code= .scope x/\Y7 P x=some a
  | .lbl=>∃l,code= .label l:=by
 cases code with
 |skip=>simp [Y7] at h;subst h;rfl
 |region id ops draw=>
  simp only [Y7] at h;split at h
  ·rename_i l hl;simp at h;subst h;refine ⟨id,ops,rfl,hl,fun hd=>?_,rfl⟩;simp [hd]
  ·cases h
 |seq a b=>
  simp only [Y7] at h;split at h
  ·rename_i x y h1 h2;simp at h;subst h;exact ⟨a,b,rfl,h1,h2⟩
  ·cases h
 |cond c a b=>
  simp only [Y7] at h;split at h
  ·rename_i z x y h1 h2 h3;simp at h;subst h;exact ⟨c,a,b,rfl,h1,h2,h3⟩
  ·cases h
 |block id c=>simp only [Y7,Option.map_eq_some_iff] at h;obtain ⟨x,h1,rfl⟩:=h;exact ⟨c,rfl,h1⟩
 |loop c=>simp only [Y7,Option.map_eq_some_iff] at h;obtain ⟨x,h1,rfl⟩:=h;exact ⟨c,rfl,h1⟩
 |exit id=>simp [Y7] at h;subst h;rfl
 |ret=>simp [Y7] at h;subst h;rfl
 |scope c=>simp only [Y7,Option.map_eq_some_iff] at h;obtain ⟨x,h1,rfl⟩:=h;exact ⟨c,rfl,h1⟩
 |label l=>simp [Y7] at h;subst h;exact ⟨l,rfl⟩
 |_=>simp [Y7] at h
theorem Sat.skip (h:Q .normal st):Sat P n m .skip st Q:=by
 intro code h1 h2 _ C Λ a h4 h5 h6 h7 h8;have:=ZR h1;simp only [zW.bare] at this;subst this;exact wp_skip ⟨.normal,st,Λ,rfl,h,h7,h8,rfl⟩
theorem Sat.lbl (h:Q .normal st):Sat P n m .lbl st Q:=by
 intro code h1 h2 _ C Λ a h4 h5 h6 h7 h8;have:=ZR h1;simp only [zW.bare] at this;obtain ⟨l,rfl⟩:=this;exact wp_label ⟨.normal,st,Λ,rfl,h,h7,h8,rfl⟩
theorem Sat.scope {a:zW} (h:Sat P n m a st Q):Sat P n m (.scope a) st Q:=by
 intro code h1 h2 h3 C Λ ac h4 h5 h6 h7 h8;have:=ZR h1;simp only [zW.bare] at this;obtain ⟨x,rfl,hx⟩:=this;simp only [codeOk] at h2;refine wp_scope_straight (wp_mono (h x hx h2 h3 C Λ ac h4 h5 h6 h7 h8) fun e a' w' hp=>?_);obtain ⟨z,st',Λ',k1,k2,k3,k4,rfl⟩:=hp
 cases e with
 |normal=>exact ⟨z,st',Λ',k1,k2,k3,k4,rfl⟩
 |exit id'=>exact ⟨z,st',Λ',k1,k2,k3,k4,rfl⟩
 |ret=>exact ⟨z,st',Λ',k1,k2,k3,k4,rfl⟩
 |goto l=>simp [Zn] at k1
 |panic c=>simp [Zn] at k1
 |outgrown=>simp [Zn] at k1
theorem Sat.ret (h:Q .ret st):Sat P n m .ret st Q:=by
 intro code h1 h2 _ C Λ a h4 h5 h6 h7 h8;have:=ZR h1;simp only [zW.bare] at this;subst this;exact wp_ret ⟨.ret,st,Λ,rfl,h,h7,h8,rfl⟩
theorem Sat.exit {id:Nat} (h:Q (.exit id) st):Sat P n m (.exit id) st Q:=by
 intro code h1 h2 _ C Λ a h4 h5 h6 h7 h8;have:=ZR h1;simp only [zW.bare] at this;subst this;exact wp_exit ⟨.exit id,st,Λ,rfl,h,h7,h8,rfl⟩
def z0i (K:St->Prop) (Q:YX->St->Prop):YX->St->Prop
 | .normal,st=>K st
 |e,st=>Q e st
theorem Sat.seq {a b:zW} (h:Sat P n m a st (z0i (fun st'=>Sat P n m b st' Q) Q)):Sat P n m (.seq a b) st Q:=by
 intro code h1 h2 h3 C Λ ac h4 h5 h6 h7 h8;have:=ZR h1;simp only [zW.bare] at this;obtain ⟨x,y,rfl,hx,hy⟩:=this;simp only [codeOk,Bool.and_eq_true] at h2;refine wp_seq (wp_mono (h x hx h2.1 h3 C Λ ac h4 h5 h6 h7 h8) fun e a' w' hp=>?_);obtain ⟨z,st',Λ',k1,k2,k3,k4,rfl⟩:=hp
 cases e with
 |normal=>
  simp [Zn] at k1;subst k1;exact k2 y hy h2.2 h3 C Λ' a' h4 h5 h6 k3 k4
 |exit id=>simp [Zn] at k1;subst k1;exact ⟨_,st',Λ',rfl,k2,k3,k4,rfl⟩
 |ret=>simp [Zn] at k1;subst k1;exact ⟨_,st',Λ',rfl,k2,k3,k4,rfl⟩
 |goto l=>simp [Zn] at k1
 |panic c=>simp [Zn] at k1
 |outgrown=>simp [Zn] at k1
theorem Sat.cond {z:Ar} {a b:zW} {t:Bool} (hz:z.v st= .t (.bool t)) (h:Sat P n m (if t then a else b) st Q):Sat P n m (.cond z a b) st Q:=by
 intro code h1 h2 h3 C Λ ac h4 h5 h6 h7 h8;have:=ZR h1;simp only [zW.bare] at this;obtain ⟨c,x,y,rfl,hc,hx,hy⟩:=this;simp only [codeOk,Bool.and_eq_true] at h2;have hv:=h7.opd hc;rw [hz] at hv;refine wp_cond hv.Zv.yW ?_
 cases t with
 |true=>exact h x hx h2.1 h3 C Λ ac h4 h5 h6 h7 h8
 |false=>exact h y hy h2.2 h3 C Λ ac h4 h5 h6 h7 h8
def z5u (id:Nat) (Q:YX->St->Prop):YX->St->Prop
 | .exit id',st=>if id'=id then Q .normal st else Q (.exit id') st
 |e,st=>Q e st
theorem Sat.block {id:Nat} {a:zW} (h:Sat P n m a st (z5u id Q)):Sat P n m (.block id a) st Q:=by
 intro code h1 h2 h3 C Λ ac h4 h5 h6 h7 h8;have:=ZR h1;simp only [zW.bare] at this;obtain ⟨x,rfl,hx⟩:=this;simp only [codeOk] at h2;refine wp_block (wp_mono (h x hx h2 h3 C Λ ac h4 h5 h6 h7 h8) fun e a' w' hp=>?_);obtain ⟨z,st',Λ',k1,k2,k3,k4,rfl⟩:=hp
 cases e with
 |normal=>simp [Zn] at k1;subst k1;exact ⟨_,st',Λ',rfl,k2,k3,k4,rfl⟩
 |exit id'=>
  simp [Zn] at k1;subst k1;simp only [z5u] at k2;simp only [Exit.inBlock];split
  ·rename_i e;simp only [e,if_true] at k2;exact ⟨_,st',Λ',rfl,k2,k3,k4,rfl⟩
  ·rename_i e;simp only [e,if_false] at k2;exact ⟨_,st',Λ',rfl,k2,k3,k4,rfl⟩
 |ret=>simp [Zn] at k1;subst k1;exact ⟨_,st',Λ',rfl,k2,k3,k4,rfl⟩
 |goto l=>simp [Zn] at k1
 |panic c=>simp [Zn] at k1
 |outgrown=>simp [Zn] at k1
def zbQ (P:Program) (c:Code) (Q:Exit->Act->World->Prop) (a:Act) (w:World):Prop:=
 ∀(b:Frame) (k:List Item) (cs:List Frame),∃e a' w',Q e a' w'/\Arrives P (lone (b.at a (.code c:: .inLoop c::k)) cs w) b k cs e a' w'
theorem z9q {c:Code} {Q:Exit->Act->World->Prop} {a:Act} {w:World} (h:zbQ P c Q a w):(Code.loop c).wp P Q a w:=by
 intro b k cs;obtain ⟨e,a',w',hq,harr⟩:=h b k cs;exact ⟨e,a',w',hq,.of_steps (.one step_loop) harr⟩
theorem z7W {c:Code} {Q:Exit->Act->World->Prop} {a:Act} {w:World} (h:c.wp P (Exit.then (zbQ P c Q) Q) a w):zbQ P c Q a w:=by
 intro b k cs;obtain ⟨e,a₁,w₁,hq,harr⟩:=h b (.inLoop c::k) cs
 cases e with
 |normal=>
  obtain ⟨e₂,a₂,w₂,hq₂,harr₂⟩:=hq b k cs;exact ⟨e₂,a₂,w₂,hq₂,.of_steps (Steps.trans harr (.one step_inLoop)) harr₂⟩
 |exit id=>exact ⟨_,a₁,w₁,hq,.pass (x:= .inLoop c) rfl (fun _ _=> .inl (by simp)) harr⟩
 |goto l=>exact ⟨_,a₁,w₁,hq,.pass (x:= .inLoop c) rfl (fun _ _=> .inl (by simp)) harr⟩
 |ret=>exact ⟨_,a₁,w₁,hq,.pass (x:= .inLoop c) rfl (fun _ _=> .inl (by simp)) harr⟩
 |panic ch=>exact ⟨_,a₁,w₁,hq,.pass (x:= .inLoop c) rfl (fun _ _=> .inl (by simp)) harr⟩
 |outgrown=>exact ⟨_,a₁,w₁,hq,.pass (x:= .inLoop c) rfl (fun _ _=> .inl (by simp)) harr⟩
def z2c (P:Program) (n m:Nat) (c:zW) (st:St) (Q:YX->St->Prop):Prop:=
 ∀(code:Code),Y7 P code=some c.bare->codeOk n code=true->P.follows .mixedOrders=true->∀(C:Ctx) (Λ:L) (a:Act),C.P=P->C.n=n->C.Λ.nxt=m->Rel C Λ st a->Λ.nxt=st.s.nxt->
  zbQ P code (zab C Q) a Λ.w
theorem Sat.loop {c:zW} (h:z2c P n m c st Q):Sat P n m (.loop c) st Q:=by
 intro code h1 h2 h3 C Λ ac h4 h5 h6 h7 h8;have:=ZR h1;simp only [zW.bare] at this;obtain ⟨x,rfl,hx⟩:=this;simp only [codeOk] at h2;exact z9q (h x hx h2 h3 C Λ ac h4 h5 h6 h7 h8)
theorem z2c.z1y {c:zW} (h:Sat P n m c st (z0i (fun st'=>z2c P n m c st' Q) Q)):z2c P n m c st Q:=by
 intro code h1 h2 h3 C Λ ac h4 h5 h6 h7 h8;refine z7W (wp_mono (h code h1 h2 h3 C Λ ac h4 h5 h6 h7 h8) fun e a' w' hp=>?_);obtain ⟨z,st',Λ',k1,k2,k3,k4,rfl⟩:=hp
 cases e with
 |normal=>
  simp [Zn] at k1;subst k1;exact k2 code h1 h2 h3 C Λ' a' h4 h5 h6 k3 k4
 |exit id=>simp [Zn] at k1;subst k1;exact ⟨_,st',Λ',rfl,k2,k3,k4,rfl⟩
 |ret=>simp [Zn] at k1;subst k1;exact ⟨_,st',Λ',rfl,k2,k3,k4,rfl⟩
 |goto l=>simp [Zn] at k1
 |panic c=>simp [Zn] at k1
 |outgrown=>simp [Zn] at k1
theorem Sat.WJ {c:zW} {st':St} (k:Nat) (h:Sat P n m c st' Q) (h1:m<=k) (h2:k<=st.s.nxt) (h3:k<=st'.s.nxt) (he:LeE k st'.s.nxt st.env st'.env) (hs:LeS k st'.s.nxt st.s.sto st'.s.sto):Sat P n m c st Q:=by
 intro code e1 e2 e3 C Λ a e4 e5 e6 e7 e8;exact h code e1 e2 e3 C (Λ.cut k st'.s.nxt) a e4 e5 e6 (e7.WJ (by omega) (by omega) h3 he hs) Z
theorem z2c.WJ {c:zW} {st':St} (k:Nat) (h:z2c P n m c st' Q) (h1:m<=k) (h2:k<=st.s.nxt) (h3:k<=st'.s.nxt) (he:LeE k st'.s.nxt st.env st'.env) (hs:LeS k st'.s.nxt st.s.sto st'.s.sto):z2c P n m c st Q:=by
 intro code e1 e2 e3 C Λ a e4 e5 e6 e7 e8;exact h code e1 e2 e3 C (Λ.cut k st'.s.nxt) a e4 e5 e6 (e7.WJ (by omega) (by omega) h3 he hs) Z
def z5d (live:List Nat) (b:Nat) (st:St):St:={env:=wB live st.env,s:={st.s with nxt:=b}}
theorem Rel.yq {C:Ctx} {Λ:L} {a:Act} (h:Rel C Λ st a) (live:List Nat) (b:Nat):Rel C Λ (z5d live b st) a:=by
 refine ⟨h.kp,h.size,h.defers,fun t=>?_,⟨h.s.sto,h.s.inj,h.s.new,h.s.bnd,h.s.frz,h.s.YO,h.s.YM,h.s.z0H⟩⟩
 rcases Q3 live st.env t with e|e
 ·simp only [z5d,e];exact h.env t
 ·simp only [z5d,e];exact .top
def zas (draw:Bool) (ops:List AO) (after:List (List Nat)) (fl:List (Bool×Bool)) (env:List (Nat×V)):Prop:=draw=true->indep ops after fl env=true
theorem Sat.region {draw:Bool} {ops:List AO} {after:List (List Nat)} {live:List Nat} (h:evR P st.s.nxt st ops [] (fun b st' fl=>zas draw ops after fl st'.env/\Q .normal (z5d live b st'))):Sat P n m (.region draw ops after live) st Q:=by
 intro code h1 h2 h3 C Λ a h4 h5 h6 h7 h8;have:=ZR h1;simp only [zW.bare] at this;obtain ⟨id,os,rfl,hres,haft,_⟩:=this;obtain ⟨outs,b',st',hch,hok,hq⟩:=z2D h;simp only [List.nil_append] at hok
 have hd:z9r C os:=by
  intro j p d hp hpd;simp only [codeOk,Array.all_eq_true'] at h2;have:=h2 p (Array.mem_of_getElem? hp);rw [hpd] at this;rw [h5];simpa using this
 have hle:=Ch.le hch;have hr':=h7.up (m:=b') (by omega)
 have hfree:∀k,st.s.nxt<=k->y9 Λ k/\zi st.s.sto k=none:=by
  intro k hk;refine ⟨h7.s.free (by omega),?_⟩
  cases ha:zi st.s.sto k with
  |none=>rfl
  |some o=>have:=(h7.s.sto k o ha).1;omega
 have hfin:∀(a':Act) (Λ':L),Rel C Λ' st' a'->Λ'.nxt=b'->zab C Q .normal a' Λ'.w:=fun a' Λ' k1 k2=>⟨.normal,_,Λ',rfl,hq,k1.yq live b',k2,rfl⟩;obtain ⟨hlen,_⟩:=QA hres
 cases draw with
 |false=>
  refine wp_region ?_;have:=z7b (Q:=zab C Q) h4 hd hres b' ops 0 st.s.nxt st outs (Λ.up b') a rfl hch hr' rfl (Nat.le_refl _) (fun k k1 k2=>⟨⟨(hfree k k1).1.obj,(hfree k k1).1.arr,(hfree k k1).1.fro,(hfree k k1).1.fob,(hfree k k1).1.far,(hfree k k1).1.frf⟩,(hfree k k1).2⟩) hfin;rw [List.range_eq_range'];rw [←hlen,Array.length_toList] at this;exact this
 |true=>
  refine wp_region_any h3 ?_;rw [haft rfl] at hok
  have h0:∀j,dOf (Array.replicate os.size false) j=false:=by
   intro j;unfold dOf;simp [Array.getD_eq_getD_getElem?,Array.getElem?_replicate]
   split<;>rfl
  have hst0:stD (dOf (Array.replicate os.size false)) 0 st ops outs=st:=WD _ _ _ _ (fun j _=>h0 j)
  have hdrew:Rel C {Λ.up b' with w:={Λ.w with drawn:=Λ.w.drawn+1}} st a:=by
   have hk:Kp (Λ.up b') {Λ.up b' with w:={Λ.w with drawn:=Λ.w.drawn+1}}:=
    ⟨⟨rfl,rfl,rfl,Nat.le_refl _,fun _ _ _ h=>⟨h,rfl⟩,fun _ _ _ _ h o ho=>⟨by simp [Rd,h,ho],rfl⟩,fun _ _ _ _ _ h o ho=>⟨by simp [Rd,h,ho],rfl⟩⟩,Nat.le_refl _,fun _ _ _ h=>h,fun _ _ _ _ _ h _=>⟨h,rfl⟩,fun _ _=>Nat.le_refl _,fun _ _ _ _ h=>⟨h,fun _ h=>h⟩,fun _ _ _ _ _ _ h _=>⟨h,rfl⟩,fun _ _ _=>Nat.le_refl _,fun _ _ _ _ _ _ h=>h⟩
   refine ⟨hr'.kp.trans hk,hr'.size,hr'.defers,fun t=>(hr'.env t).mono hk,hr'.s.step hk Z (fun k o ho=> .inl ⟨ho,fun _ _=>rfl,rfl⟩) hr'.s.inj hr'.s.new hr'.s.bnd hr'.s.frz ⟨fun _ _ _=>Iff.rfl,fun _ _ _ _=>Iff.rfl,rfl,fun _ _ _ _=>rfl,fun _ _ _ _ _ _=>rfl⟩⟩
  have:=z84 (Q:=zab C Q) h4 hd hres hch (hok rfl) (Nat.le_refl _) (fun k k1 _=>(hfree k (by omega)).2) hfin os.size (Array.replicate os.size false) {Λ.up b' with w:={Λ.w with drawn:=Λ.w.drawn+1}} a (by simp) (by rw [z7J (fun j _=>h0 j)];exact Nat.le_refl _)
   (fun i hi=>by rw [h0] at hi;cases hi) (by rw [hst0];exact hdrew) rfl (fun i o _ _ k k1 k2=>by
    rw [hst0]
    have hk:st.s.nxt<=k:=by omega
    exact ⟨⟨(hfree k hk).1.obj,(hfree k hk).1.arr,(hfree k hk).1.fro,(hfree k hk).1.fob,(hfree k hk).1.far,(hfree k hk).1.frf⟩,(hfree k hk).2⟩)
  exact this
end
inductive WC where
 |tmp (t:Nat)
 |cell (a:Nat) (ag:Bool) (n:Nat)
def z4q (P:Program):ResultVar->Option WC
 | .tmp t=>some (.tmp t)
 | .cell a t=>
  match Zs P t,P.underlying t with
  |some n,some _=>some (.cell a (zI P t) n)
  |_,_=>none
def WC.v (st:St):WC->Option V
 | .tmp t=>some (look st.env t)
 | .cell a ag n=>
  match look st.env a with
  | .ptr k o=>
   match zi st.s.sto k with
   |some (.cells cs)=>if ag then (if o+n<=cs.length then some (.agg ((cs.drop o).take n)) else none) else cs[o]?
   |_=>none
  |_=>none
def z0A (st:St):List WC->Option V
 |[]=>some (.tup [])
 |[r]=>r.v st
 |[r,q]=>match r.v st,q.v st with|some x,some y=>some (.tup [x,y])|_,_=>none
 |[r,q,p]=>match r.v st,q.v st,p.v st with|some x,some y,some z=>some (.tup [x,y,z])|_,_,_=>none
 |_=>none
def zb (P:Program) (f:FuncId):Option (Nat×zW×List WC):=
 match P.funcs[f]? with
 |some fn=>
  match fn.body with
  |some c=>
   match Y7 P c,fn.results.toList.mapM (z4q P) with
   |some a,some rs=>if codeOk fn.ntmps c&&!(fn.name== "runtime.NumGoroutine") then some (fn.ntmps,a,rs) else none
   |_,_=>none
  |none=>none
 |none=>none
def WN:Nat->List V->List (Nat×V)
 |_,[]=>[]
 |i,x::r=>(i,x)::WN (i+1) r
theorem z1Y:∀(vs:List V) (i t:Nat),look (WN i vs) t=if i<=t then (vs[t - i]?).getD .top else .top
 |[],i,t=>by simp [WN,look,zi]
 |x::r,i,t=>by
  simp only [WN];by_cases e:i=t
  ·subst e;simp [look,zi]
  ·have:=z1Y r (i+1) t;simp only [look,zi,e,if_false] at this⊢;rw [this];by_cases h:i<=t
   ·have:t - i=(t - (i+1))+1:=by omega
    rw [if_pos (by omega),if_pos h,this];simp
   ·rw [if_neg (by omega),if_neg h]
def z9 (P:Program) (f:FuncId) (vs:List V) (s:S) (out:Out):Prop:=
 zcN P f/\∀(Λ:L) (args:Array Value),Z4 Λ s->Λ.nxt=s.nxt->args.size=vs.length->(∀(j:Nat) (v:Value) (x:V),args[j]?=some v->vs[j]?=some x->zn Λ v x)->
  Calls P f args Λ.w fun e w'=>∃v Λ',e= .returned v/\Λ'.w=w'/\Kp Λ Λ'/\Λ'.nxt=s.nxt+out.n/\Z4 Λ' ⟨Zj s.sto out.ob,0⟩/\zn Λ' v out.v
def LeR (m:Nat) (s:S) (r r':V):Prop:=∀(Λ:L) (v:Value),m<=Λ.nxt->Z4 Λ s->zn Λ v r->zn (Λ.cut m m) v r'
theorem LeR.le {m:Nat} {s:S} {r r':V} (h:LeX m m r r'):LeR m s r r':=fun _ _ hm _ hr=>h.cut (Nat.le_refl _) hm hr
inductive z5X (m:Nat) (s:S):List V->List V->Prop
 |nil:z5X m s [] []
 |cons {x y:V} {xs ys:List V} (h:LeR m s x y) (t:z5X m s xs ys):z5X m s (x::xs) (y::ys)
theorem z5X.spec {m:Nat} {s:S} {xs ys:List V} (h:z5X m s xs ys):xs.length=ys.length/\∀(j:Nat) (c d:V),xs[j]?=some c->ys[j]?=some d->LeR m s c d:=by
 induction h with
 |nil=>exact ⟨rfl,fun j c d h=>by simp at h⟩
 |cons h _ ih=>
  refine ⟨by simp [ih.1],fun j c d h1 h2=>?_⟩
  cases j with
  |zero=>simp at h1 h2;subst h1;subst h2;exact h
  |succ j=>exact ih.2 j c d (by simpa using h1) (by simpa using h2)
theorem LeR.tup {m:Nat} {s:S} {xs ys:List V} (h:z5X m s xs ys):LeR m s (.tup xs) (.tup ys):=by
 intro Λ v hm hr hv;obtain ⟨h1,h2⟩:=h.spec
 cases hv with
 |tup hs hv=>
  refine .tup (hs.trans h1) fun j u d hj hd=>?_
  have hlt:j<xs.length:=by rw [h1];exact (List.getElem?_eq_some_iff.1 hd).1
  exact h2 j xs[j] d (by simp [hlt]) hd Λ u hm hr (hv j u _ hj (by simp [hlt]))
theorem LeR.agg {m:Nat} {s:S} {xs ys:List V} (h:z5X m s xs ys):LeR m s (.agg xs) (.agg ys):=by
 intro Λ v hm hr hv;obtain ⟨h1,h2⟩:=h.spec
 cases hv with
 |agg hs hv=>
  refine .agg (hs.trans h1) fun j u d hj hd=>?_
  have hlt:j<xs.length:=by rw [h1];exact (List.getElem?_eq_some_iff.1 hd).1
  exact h2 j xs[j] d (by simp [hlt]) hd Λ u hm hr (hv j u _ hj (by simp [hlt]))
section
variable {P:Program}
def zcG (tmps:Array Value):ResultVar->Sem Value
 | .tmp t=>pure (tmps.getD t undef)
 | .cell a t=>do loadVar t (←asAddr (tmps.getD a undef))
theorem qW (fn:Func) (tmps:Array Value):results fn tmps=(do let vs ←fn.results.mapM (zcG tmps);pure (if h:vs.size=1 then vs[0] else .tuple vs)):=by
 unfold results;congr 2
theorem qy {C:Ctx} {Λ:L} {st:St} {a:Act} (hr:Rel C Λ st a) {rv:ResultVar} {r:WC} {x:V} (h1:z4q P rv=some r) (h2:r.v st=some x):
  ∃v,(zcG a.tmps rv).run P Λ.w= .ok v Λ.w/\zn Λ v x:=by
 cases rv with
 |tmp t=>simp [z4q] at h1;subst h1;simp [WC.v] at h2;subst h2;exact ⟨_,rfl,hr.env t⟩
 |cell ad t=>
  simp only [z4q] at h1;split at h1
  ·rename_i n d hn hu;simp at h1;subst h1;simp only [WC.v] at h2;split at h2
   ·rename_i k o hl;split at h2
    ·rename_i cs hk;have hx:=hr.env ad;rw [hl] at hx;simp only [zcG];generalize a.tmps.getD ad undef=u at hx⊢
     cases hx with
     |@ptr b _ _ _ hb=>
      obtain ⟨arr,e,e1,e2,e3⟩:=hr.s.WM hk hb;split at h2
      ·rename_i hag;split at h2
       ·rename_i hle;simp at h2;subst h2
        have hvl:((arr.toList.drop o).take n).length=n:=by simp;omega
        have hcell:∀(j:Nat) (v:Value),((arr.toList.drop o).take n)[j]?=some v->Λ.w.cell? ⟨b,o+j,none⟩=some v:=by
         intro j v hj;rw [List.getElem?_take] at hj;split at hj
         ·rw [List.getElem?_drop] at hj;rw [cell_of_row Λ.w b _ arr e _ e1];simpa using hj
         ·cases hj
        have:=Y8 (P:=P) hn hag hvl hcell;simp [Instr.loadAt,Instr.sureAddr] at this
        exact ⟨.agg ((arr.toList.drop o).take n).toArray,by simp [asAddr,this],zn.zd3 (vs:=arr.toList) (fun j v c a1 a2=>e3 j v c (by simpa using a1) a2) (by simpa using e2) o n⟩
       ·cases h2
      ·rename_i hag;have hlt:o<cs.length:=(List.getElem?_eq_some_iff.1 h2).1
       have hcell:Λ.w.cell? ⟨b,o,none⟩=some (arr[o]'(by omega)):=by rw [cell_of_row Λ.w b o arr e _ e1];simp [e2,hlt]
       have:=Yj (P:=P) hu (by simpa using hag) hcell;simp [Instr.loadAt,Instr.sureAddr] at this
       exact ⟨arr[o]'(by omega),by simp [asAddr,this],e3 o _ x (by simp) h2⟩
    ·cases h2
   ·cases h2
  ·cases h1
theorem z5m {C:Ctx} {Λ:L} {st:St} {a:Act} (hr:Rel C Λ st a) {fn:Func} {rs:List WC} {x:V} (h1:fn.results.toList.mapM (z4q P)=some rs) (h2:z0A st rs=some x):
  ∃v,(results fn a.tmps).run P Λ.w= .ok v Λ.w/\zn Λ v x:=by
 have hmap:∀(l:List ResultVar) (rs:List WC),l.mapM (z4q P)=some rs->l.length=rs.length/\∀(j:Nat) (x:ResultVar) (y:WC),l[j]?=some x->rs[j]?=some y->z4q P x=some y:=by
  intro l
  induction l with
  |nil=>intro c h;simp at h;subst h;simp
  |cons d cs ih=>
   intro c h;simp only [List.mapM_cons,Option.bind_eq_bind,Option.pure_def,Option.bind_eq_some_iff] at h;obtain ⟨y,hy,c',hc',h⟩:=h;simp at h;subst h;obtain ⟨i1,i2⟩:=ih c' hc'
   refine ⟨by simp [i1],fun j e z h1 h2=>?_⟩
   cases j with
   |zero=>simp at h1 h2;subst h1;subst h2;exact hy
   |succ j=>exact i2 j e z (by simpa using h1) (by simpa using h2)
 obtain ⟨k1,k2⟩:=hmap _ _ h1;unfold z0A at h2;split at h2
 ·simp at h2;subst h2
  have:fn.results=#[]:=by simpa using k1
  exact ⟨.tuple #[],by simp [results,this],.tup rfl (by simp)⟩
 ·rename_i r
  have:∃x0,fn.results=#[x0]:=by
   match hfn:fn.results.toList,k1 with
   |[x0],_=>exact ⟨x0,by apply Array.ext';simpa using hfn⟩
  obtain ⟨x0,he⟩:=this;have hr0:=k2 0 x0 r (by simp [he]) rfl;obtain ⟨v,e1,e2⟩:=qy hr hr0 h2;refine ⟨v,?_,e2⟩;rw [qW];simp [he,e1]
 ·rename_i r q
  have:∃x0 x1,fn.results=#[x0,x1]:=by
   match hfn:fn.results.toList,k1 with
   |[x0,x1],_=>exact ⟨x0,x1,by apply Array.ext';simpa using hfn⟩
  obtain ⟨x0,x1,he⟩:=this;split at h2
  ·rename_i y0 y1 g0 g1;simp at h2;subst h2;obtain ⟨v0,a1,a2⟩:=qy hr (k2 0 x0 r (by simp [he]) rfl) g0;obtain ⟨v1,b1,b2⟩:=qy hr (k2 1 x1 q (by simp [he]) rfl) g1;refine ⟨.tuple #[v0,v1],?_,.tup Z fun j v c hv hc=>?_⟩
   ·rw [qW];simp [he,a1,b1]
   ·match j,hv,hc with
    |0,hv,hc=>simp at hv hc;subst hv;subst hc;exact a2
    |1,hv,hc=>simp at hv hc;subst hv;subst hc;exact b2
  ·cases h2
 ·rename_i r q p
  have:∃x0 x1 x2,fn.results=#[x0,x1,x2]:=by
   match hfn:fn.results.toList,k1 with
   |[x0,x1,x2],_=>exact ⟨x0,x1,x2,by apply Array.ext';simpa using hfn⟩
  obtain ⟨x0,x1,x2,he⟩:=this;split at h2
  ·rename_i y0 y1 y2 g0 g1 g2;simp at h2;subst h2;obtain ⟨v0,a1,a2⟩:=qy hr (k2 0 x0 r (by simp [he]) rfl) g0;obtain ⟨v1,b1,b2⟩:=qy hr (k2 1 x1 q (by simp [he]) rfl) g1;obtain ⟨v2,c1,c2⟩:=qy hr (k2 2 x2 p (by simp [he]) rfl) g2;refine ⟨.tuple #[v0,v1,v2],?_,.tup Z fun j v c hv hc=>?_⟩
   ·rw [qW];simp [he,a1,b1,c1]
   ·match j,hv,hc with
    |0,hv,hc=>simp at hv hc;subst hv;subst hc;exact a2
    |1,hv,hc=>simp at hv hc;subst hv;subst hc;exact b2
    |2,hv,hc=>simp at hv hc;subst hv;subst hc;exact c2
  ·cases h2
 ·cases h2
def z2l (m:Nat) (s:S) (sto':List (Nat×z3)):Prop:=∀(Λ:L),m<=Λ.nxt->Z4 Λ s->Z4 (Λ.cut m m) ⟨sto',0⟩
theorem z2l.le {m:Nat} {s:S} {sto':List (Nat×z3)} (h:LeS m m s.sto sto'):z2l m s sto':=fun _ hm hr=>hr.WJ (s':=⟨sto',0⟩) hm (Nat.le_refl _) h
def z3.bd (m:Nat):z3->Bool
 | .cells cs=>V.bds m cs
 | .map _ es _=>V.bds m (es.map (·.2))
 | .arr _=>true
 | .iter q _ _ _=>decide (q<m)
 | .gro _ cs=>V.bds m cs
 | .yJ os=>os.all (V.bds m)
 | .yh _=>true
 | .zP _ _=>true
 | .abs _=>true
def zG (m:Nat):List (Nat×z3)->Bool
 |[]=>true
 |(k,o)::r=>decide (k<m)&&o.bd m&&zG m r
theorem WW {m:Nat}:∀{s:List (Nat×z3)},zG m s=true->∀k o,zi s k=some o->k<m/\o.bd m=true
 |[],_,k,o,h=>by simp [zi] at h
 |(j,x)::r,hb,k,o,h=>by
  simp only [zG,Bool.and_eq_true,decide_eq_true_eq] at hb;by_cases e:j=k
  ·subst e;simp [zi] at h;subst h;exact ⟨hb.1.1,hb.1.2⟩
  ·simp only [zi,e,if_false] at h;exact WW hb.2 k o h
theorem W5.cut {Λ:L} {m m' k:Nat} {o:z3} (hm:m<=m') (hk:k<m) (hb:o.bd m=true) (h:W5 Λ k o):W5 (Λ.cut m m') k o:=by
 cases o with
 |cells cs=>
  obtain ⟨b,arr,e,e1,e2,e3,e4⟩:=h;exact ⟨b,arr,e,ZY e1 hk,e2,e3,fun j v c a1 a2=>(e4 j v c a1 a2).cut hm (V.Zw (by simpa [z3.bd] using hb) j c a2)⟩
 |map kag es sx=>
  obtain ⟨b,ents,clock,e1,e2,e3⟩:=h;exact ⟨b,ents,clock,ZY e1 hk,e2,e3.yq (fun _ _ h=>h.cut) (fun i kv v hi hv=>hv.cut hm (V.Zw (by simpa [z3.bd] using hb) i kv.2 (by simp [hi])))⟩
 |arr n=>unfold W5 at*;simp [L.cut,hk,h]
 |iter q s seen c=>
  have hq:q<m:=by simpa [z3.bd] using hb
  obtain ⟨b,bm,e1,e2,e3,e4⟩:=h;exact ⟨b,bm,ZY e1 hk,e2,ZY e3 hq,Nat.lt_of_lt_of_le hq hm⟩
 |gro r cs=>
  obtain ⟨h0,hr⟩:=h
  refine ⟨by simp [L.cut,hk,h0],?_⟩
  rcases hr with ⟨e1,e2⟩|⟨b,arr,e,⟨i,e1,e1'⟩,e2,e3,e4⟩
  ·exact .inl ⟨e1,fun b i hb=>e2 b i (zQ hb).1⟩
  ·exact .inr ⟨b,arr,e,⟨i,Yc e1 hk,fun b' i' h'=>e1' b' i' (zQ h').1⟩,e2,e3,fun j v c a1 a2=>(e4 j v c a1 a2).cut hm (V.Zw (by simpa [z3.bd] using hb) j c a2)⟩
 |yJ os=>
  obtain ⟨h0,hr⟩:=h;refine ⟨fun b i hbi=>h0 b i (zQ hbi).1,fun i cs hi=>?_⟩;obtain ⟨b,arr,e,e1,e2,e3,e4⟩:=hr i cs hi
  have hbs:V.bds m cs=true:=by
   have:=hb;simp only [z3.bd,List.all_eq_true] at this;exact this cs (zMG hi)
  exact ⟨b,arr,e,Yc e1 hk,e2,e3,fun j v c a1 a2=>(e4 j v c a1 a2).cut hm (V.Zw hbs j c a2)⟩
 |yh ns=>intro i;have:=h i;simpa [L.cut,hk] using this
 |zP kag I=>
  obtain ⟨b,ents,clock,e1,e2,e3,e4,e5⟩:=h;refine ⟨b,ents,clock,ZY e1 hk,e2,e3,e4,fun i e hi=>?_⟩;obtain ⟨cs,v,g1,g2,g3⟩:=e5 i e hi;exact ⟨cs,v,g1.yq fun _ _ h=>h.cut,g2.cut,g3⟩
 |abs J=>exact ⟨h.1,by simp [L.cut,hk,h.2.1],h.1 _ _ _ _ _ _ (fun _ _ h=>h.cut) (fun b i=>⟨fun h=>Yc h hk,fun h=>(zQ h).1⟩) (fun _ _ _=>rfl) h.2.2⟩
theorem z2l.same {m:Nat} {s:S} {sto':List (Nat×z3)} (h:∀k o,zi sto' k=some o->zi s.sto k=some o/\k<m/\o.bd m=true):z2l m s sto':=by
 intro Λ hm hr
 refine ⟨fun k o hk=>?_,fun b b' k h1 h2=>hr.inj b b' k (Y3 h1).1 (Y3 h2).1,fun b hb=>z0R (hr.new b hb),fun b k hb=>?_,fun k hk=>by have hk':m<=k:=hk;simp [L.cut];omega,fun b b' k i h1 h2=>hr.YO b b' k i (zQ h1).1 (zQ h2).1,fun b k hb=>?_,fun k i hk=>by have hk':m<=k:=hk;simp [L.cut];omega⟩
 ·obtain ⟨h1,h2,h3⟩:=h k o hk;exact ⟨h2,(hr.sto k o h1).2.cut (Nat.le_refl _) h2 h3⟩
 ·rcases hb with hb|⟨n,hb⟩
  ·exact (Y3 hb).2
  ·exact (z0w hb).2
 ·rcases hb with ⟨i,hb⟩|⟨i,n,hb⟩
  ·exact (zQ hb).2
  ·exact (z0l hb).2
def z5 (s:S) (out:Out) (rs:List WC):YX->St->Prop
 | .exit _,_=>False
 |_,st=>∃r,z0A st rs=some r/\s.nxt+out.n<=st.s.nxt/\LeR (s.nxt+out.n) st.s r out.v/\z2l (s.nxt+out.n) st.s (Zj s.sto out.ob)
theorem z5s {f:FuncId} {n:Nat} {ac:zW} {rs:List WC} (h:zb P f=some (n,ac,rs)):∃fn c,P.funcs[f]?=some fn/\fn.body=some c/\Y7 P c=some ac/\fn.results.toList.mapM (z4q P)=some rs/\codeOk n c=true/\fn.ntmps=n/\zcN P f:=by
 unfold zb at h;split at h
 ·rename_i fn hfn;split at h
  ·rename_i c hc;split at h
   ·rename_i a r h1 h2;split at h
    ·rename_i hok;simp at h;obtain ⟨rfl,rfl,rfl⟩:=h;simp only [Bool.and_eq_true,Bool.not_eq_true'] at hok;refine ⟨fn,c,hfn,hc,h1,h2,hok.1,rfl,fun args w=>?_⟩;simp only [callFunc];simp [program,Sem.run,hfn,hc];have:=hok.2;simp at this;simp [this]
    ·cases h
   ·cases h
  ·cases h
 ·cases h
theorem z9.zcA {f:FuncId} {n:Nat} {ac:zW} {rs:List WC} {vs:List V} {s:S} {out:Out} (hi:zb P f=some (n,ac.bare,rs)) (hm:P.follows .mixedOrders=true) (hn:vs.length<=n)
  (h:Sat P n s.nxt ac {env:=WN 0 vs,s:=s} (z5 s out rs)):z9 P f vs s out:=by
 obtain ⟨fn,c,h1,h2,h3,h4,h5,h6,h7⟩:=z5s hi;refine ⟨h7,fun Λ args hs hx hsz hargs=>?_⟩;refine calls_of_wp h1 h2 ?_
 have hrel:Rel {P:=P,n:=n,Λ:=Λ} Λ {env:=WN 0 vs,s:=s} {tmps:=args++Array.replicate (fn.ntmps - args.size) undef,defers:=[]}:=by
  refine ⟨Kp.refl _,by simp [h6];omega,rfl,fun t=>?_,hs⟩
  simp only;rw [z1Y,if_pos (Nat.zero_le _),Nat.sub_zero]
  cases hv:vs[t]? with
  |none=>exact .top
  |some x=>
   have hlt:t<args.size:=by rw [hsz];exact (List.getElem?_eq_some_iff.1 hv).1
   have he:(args++Array.replicate (fn.ntmps - args.size) undef).getD t undef=args[t]:=by
    rw [Array.getD_eq_getD_getElem?,Array.getElem?_append_left hlt];simp [hlt]
   rw [he];exact hargs t args[t] x (by simp [hlt]) hv
 refine wp_mono (h c h3 h5 hm {P:=P,n:=n,Λ:=Λ} Λ _ Z Z hx hrel hx) fun e a' w' hp=>?_;obtain ⟨x,st',Λ',k1,k2,k3,k4,rfl⟩:=hp
 have fin:(∃r,z0A st' rs=some r/\s.nxt+out.n<=st'.s.nxt/\LeR (s.nxt+out.n) st'.s r out.v/\z2l (s.nxt+out.n) st'.s (Zj s.sto out.ob))->
   a'.defers=[]/\∃v,(results fn a'.tmps).run P Λ'.w= .ok v Λ'.w/\∃v' Λ'',Ending.returned v= .returned v'/\Λ''.w=Λ'.w/\Kp Λ Λ''/\Λ''.nxt=s.nxt+out.n/\Z4 Λ'' ⟨Zj s.sto out.ob,0⟩/\zn Λ'' v' out.v:=by
  rintro ⟨r,e1,e2,e3,e4⟩;obtain ⟨v,f1,f2⟩:=z5m k3 h4 e1;refine ⟨k3.defers,v,f1,v,Λ'.cut (s.nxt+out.n) (s.nxt+out.n),rfl,rfl,k3.kp.cut (by simp;omega) (Nat.le_refl _),rfl,?_,e3 Λ' v (by omega) k3.s f2⟩;exact e4 Λ' (by omega) k3.s
 cases e with
 |normal=>simp [Zn] at k1;subst k1;exact fin k2
 |ret=>simp [Zn] at k1;subst k1;exact fin k2
 |exit id=>simp [Zn] at k1;subst k1;exact k2.elim
 |goto l=>simp [Zn] at k1
 |panic ch=>simp [Zn] at k1
 |outgrown=>simp [Zn] at k1
def L.WR (Λ:L):L where
 lab:=fun b=>match Λ.lab b with
  | .obj _=> .fix (some 0)
  | .arr _ fr=> .fix (some fr)
  | .fob _ _=> .fix (some 0)
  | .far _ _ fr=> .fix (some fr)
  |x=>x
 fro:=fun _=>0
 nxt:=0
 w:=Λ.w
 frf:=fun _ _=>0
theorem WS (Λ:L) (b:Nat):∃fr,Λ.WR.lab b= .fix fr:=by
 simp only [L.WR]
 cases Λ.lab b with
 |fix fr=>exact ⟨_,rfl⟩
 |obj k=>exact ⟨_,rfl⟩
 |arr k n=>exact ⟨_,rfl⟩
 |fob k i=>exact ⟨_,rfl⟩
 |far k i n=>exact ⟨_,rfl⟩
theorem z7K {Λ:L} {b o:Nat}:Rd Λ.WR.lab b o↔Rd Λ.lab b o:=by
 unfold Rd;simp only [L.WR]
 cases Λ.lab b with
 |fix fr=>exact Iff.rfl
 |obj k=>simp
 |arr k n=>simp
 |fob k i=>simp
 |far k i n=>simp
theorem zO.WR {Λ:L} {v:Value} {x:T} (h:zO Λ.lab Λ.w v x):zO Λ.WR.lab Λ.WR.w v x:=h.yq fun _ _ _ _ hr=>⟨z7K.2 hr,rfl⟩
theorem zn.WR {Λ:L} {v:Value} {x:V} (h:zn Λ v x) (hb:x.bd 0=true):zn Λ.WR v x:=by
 induction h with
 |t h=>exact .t h.WR
 |zV=>exact .zV
 |own _ _ _ _ _=>simp [V.bd] at hb
 |slc _ _ _=>simp [V.bd] at hb
 |agg hs _ ih=>exact .agg hs fun j v c h1 h2=>ih j v c h1 h2 (V.Zw (by simpa [V.bd] using hb) j c h2)
 |tup hs _ ih=>exact .tup hs fun j v c h1 h2=>ih j v c h1 h2 (V.Zw (by simpa [V.bd] using hb) j c h2)
 |ptr _ _=>simp [V.bd] at hb
 |mp _ _=>simp [V.bd] at hb
 |@fn f vs cs hs h=>
  refine .fn hs fun j v c h1 h2=>?_;simp only [V.bd,List.all_eq_true] at hb;have:=hb c (zMG h2);simp at this
 |gd _ h' ih=>exact .gd (fun hc=>ih hc (by simpa [V.bd] using hb)) h'
 |top=>exact .top
 |ub h h'=>exact .ub h h'
 |ui=>exact .ui
 |fpt _ _=>simp [V.bd] at hb
 |gpt _ _ _ _=>simp [V.bd] at hb
 |gsl _ _ _ _=>simp [V.bd] at hb
 |fow _ _ _ _ _=>simp [V.bd] at hb
theorem Z4.WR {Λ:L} {sto:List (Nat×z3)} (h:Z4 Λ ⟨sto,Λ.nxt⟩):Z4 Λ.WR ⟨[],0⟩:=by
 refine ⟨by simp [zi],fun b b' k h1=>?_,fun b hb=>?_,fun b k hb=>?_,fun _ _=>rfl,fun b b' k i h1=>?_,fun b k hb=>?_,fun _ _ _=>rfl⟩
 ·obtain ⟨fr,e⟩:=WS Λ b;rw [e] at h1;simp at h1
 ·simp only [L.WR,h.new b hb]
 ·obtain ⟨fr,e⟩:=WS Λ b;rw [e] at hb;simp at hb
 ·obtain ⟨fr,e⟩:=WS Λ b;rw [e] at h1;simp at h1
 ·obtain ⟨fr,e⟩:=WS Λ b;rw [e] at hb;simp at hb
def L.back (Λ Λ':L):L where
 lab:=fun b=>if b<Λ.w.heap.size then Λ.lab b else Λ'.lab b
 fro:=Λ.fro
 nxt:=Λ.nxt
 w:=Λ'.w
 frf:=Λ.frf
theorem z9.pure {f:FuncId} {vs:List V} {x:V} {base:Nat} {s:List (Nat×z3)} (h:z9 P f vs ⟨[],0⟩ {v:=x}) (hb:V.bds 0 vs=true) (hx:x.bd 0=true):YK P f vs base s {v:=x}:=by
 refine ⟨h.1,by simp,fun Λ args hs _ _ hsz hargs=>?_⟩
 refine (h.2 Λ.WR args hs.WR Z hsz fun j v y h1 h2=>(hargs j v y h1 h2).WR (V.Zw hb j y h2)).mono fun e w' he=>?_;obtain ⟨v,Λ',rfl,rfl,k1,k2,k3,k4⟩:=he;simp only [Zj,Nat.add_zero] at k2 k3
 have hnl:∀b,∃fr,Λ'.lab b= .fix fr:=by
  intro b
  cases hl:Λ'.lab b with
  |fix fr=>exact ⟨fr,rfl⟩
  |obj k=>have:=k3.bnd b k (.inl hl);omega
  |arr k n=>have:=k3.bnd b k (.inr ⟨n,hl⟩);omega
  |fob k i=>have:=k3.YM b k (.inl ⟨i,hl⟩);omega
  |far k i n=>have:=k3.YM b k (.inr ⟨i,n,hl⟩);omega
 have hold:∀b,b<Λ.w.heap.size->Λ'.lab b=Λ.WR.lab b/\Λ'.w.heap[b]?=Λ.w.heap[b]?:=by
  intro b hb;obtain ⟨fr,e⟩:=WS Λ b;obtain ⟨e1,e2⟩:=k1.fr.fix b hb fr e
  exact ⟨by rw [e1,e],e2⟩
 have hlt:∀{b:Nat},b<Λ.w.heap.size->(Λ.back Λ').lab b=Λ.lab b:=fun h=>by simp [L.back,h]
 have hlow:∀{b:Nat} {x:Lab},Λ.lab b=x->x≠ .fix none->b<Λ.w.heap.size:=by
  intro b x hl hx
  rcases Nat.lt_or_ge b Λ.w.heap.size with h|h
  ·exact h
  ·rw [hs.new b h] at hl;exact absurd hl.symm hx
 have hinv:∀b,(∀fr,(Λ.back Λ').lab b≠ .fix fr)->(Λ.back Λ').lab b=Λ.lab b:=by
  intro b hb
  rcases Nat.lt_or_ge b Λ.w.heap.size with h|h
  ·exact hlt h
  ·exfalso;obtain ⟨fr,e⟩:=hnl b;exact hb fr (by simp [L.back,Nat.not_lt.2 h,e])
 have hinv':∀{b:Nat} {x:Lab},(Λ.back Λ').lab b=x->(∀fr,x≠ .fix fr)->Λ.lab b=x:=by
  intro b x hl hx;rw [←hl];exact (hinv b (fun fr e=>hx fr (hl.symm.trans e))).symm
 have hgo:∀{b:Nat} {x:Lab},Λ.lab b=x->x≠ .fix none->(Λ.back Λ').lab b=x/\(Λ.back Λ').w.heap[b]?=Λ.w.heap[b]?:=by
  intro b x hl hx;have hb:=hlow hl hx
  exact ⟨by rw [hlt hb];exact hl,(hold b hb).2⟩
 have hkp:Kp Λ (Λ.back Λ'):=by
  refine ⟨⟨k1.fr.os,k1.fr.tape,k1.fr.output,k1.fr.size,fun b hb fr hl=>⟨by rw [hlt hb];exact hl,(hold b hb).2⟩,fun b hb k fr hl o ho=>⟨by simp only [Rd,hlt hb,hl];exact ho,cell?_heap (hold b hb).2⟩,fun b hb k i fr hl o ho=>⟨by simp only [Rd,hlt hb,hl];exact ho,cell?_heap (hold b hb).2⟩⟩,Nat.le_refl _,fun b k _ hl=>(hgo hl (by simp)).1,fun b k n _ hb hl _=>⟨by rw [hlt hb];exact hl,(hold b hb).2⟩,fun _ _=>Nat.le_refl _,
   fun b k i _ hl=>⟨(hgo hl (by simp)).1,fun N hN=>by unfold Zk at hN⊢;rw [(hgo hl (by simp)).2];exact hN⟩,fun b k i n _ hb hl _=>hgo hl (by simp),fun _ _ _=>Nat.le_refl _,fun b k i _ _ _ hl=>hinv' hl (by simp)⟩
 have hF:Zb Λ (Λ.back Λ'):=⟨fun b k i=>⟨fun hl=>hinv' hl (by simp),fun hl=>(hgo hl (by simp)).1⟩,fun b k i n=>⟨fun hl=>hinv' hl (by simp),fun hl=>(hgo hl (by simp)).1⟩,rfl,fun b k i hl=>(hgo hl (by simp)).2,fun b k i n _ hl=>(hgo hl (by simp)).2⟩;refine ⟨v,Λ.back Λ',rfl,rfl,hkp,rfl,?_,?_,fun k hk _ _=>hk.yq hF (fun b hb=>hk.obj b (hinv' hb (by simp))) (fun b n hb=>hk.arr b n (hinv' hb (by simp))) hk.fro⟩
 ·refine hs.step hkp Z (fun k o ho=> .inl ⟨ho,fun b hb=>(hgo hb (by simp)).2,rfl⟩) (fun b b' k h1 h2=>hs.inj b b' k (hinv' h1 (by simp)) (hinv' h2 (by simp))) (fun b hb=>?_) (fun b k hb=>?_) hs.frz hF
  ·have hsz:Λ.w.heap.size<=b:=Nat.le_trans k1.fr.size hb
   have:(Λ.back Λ').lab b=Λ'.lab b:=by simp [L.back,Nat.not_lt.2 hsz]
   rw [this];exact k3.new b hb
  ·rcases hb with hb|⟨n,hb⟩
   ·exact hs.bnd b k (.inl (hinv' hb (by simp)))
   ·exact hs.bnd b k (.inr ⟨n,hinv' hb (by simp)⟩)
 ·have hrep:∀{u:Value} {y:T},zO Λ'.lab Λ'.w u y->zO (Λ.back Λ').lab (Λ.back Λ').w u y:=by
   intro u y hy;refine hy.yq fun b o _ _ hr=>⟨?_,rfl⟩
   rcases Nat.lt_or_ge b Λ.w.heap.size with h|h
   ·unfold Rd;rw [hlt h];have:Rd Λ'.lab b o:=hr;unfold Rd at this;rw [(hold b h).1] at this;exact z7K.1 this
   ·have e:(Λ.back Λ').lab b=Λ'.lab b:=by simp [L.back,Nat.not_lt.2 h]
    unfold Rd;rw [e];exact hr
  clear hb h
  simp only at k4⊢;generalize x=y at k4 hx
  induction k4 with
  |t h=>exact .t (hrep h)
  |zV=>exact .zV
  |own _ _ _ _ _=>simp [V.bd] at hx
  |slc _ _ _=>simp [V.bd] at hx
  |agg hs _ ih=>exact .agg hs fun j v c h1 h2=>ih j v c h1 h2 (V.Zw (by simpa [V.bd] using hx) j c h2)
  |tup hs _ ih=>exact .tup hs fun j v c h1 h2=>ih j v c h1 h2 (V.Zw (by simpa [V.bd] using hx) j c h2)
  |ptr _ _=>simp [V.bd] at hx
  |mp _ _=>simp [V.bd] at hx
  |@fn f vs cs hs h=>
   refine .fn hs fun j v c h1 h2=>?_;simp only [V.bd,List.all_eq_true] at hx;have:=hx c (zMG h2);simp at this
  |gd _ h' ih=>exact .gd (fun hc=>ih hc (by simpa [V.bd] using hx)) h'
  |top=>exact .top
  |ub h h'=>exact .ub h h'
  |ui=>exact .ui
  |fpt _ _=>simp [V.bd] at hx
  |gpt _ _ _ _=>simp [V.bd] at hx
  |gsl _ _ _ _=>simp [V.bd] at hx
  |fow _ _ _ _ _=>simp [V.bd] at hx
def L.zr (Λ:L) (m:Nat):L where
 lab:=fun b=>match Λ.lab b with
  | .obj k=>if k<m then .obj k else .fix (some 0)
  | .arr k fr=>if k<m then .arr k fr else .fix (some fr)
  | .fob k i=>if k<m then .fob k i else .fix (some 0)
  | .far k i fr=>if k<m then .far k i fr else .fix (some fr)
  |x=>x
 fro:=fun k=>if k<m then Λ.fro k else 0
 nxt:=m
 w:=Λ.w
 frf:=fun k i=>if k<m then Λ.frf k i else 0
def L.high (Λ:L) (m b:Nat):Bool:=
 match Λ.lab b with
 | .obj k=>decide (m<=k)
 | .arr k _=>decide (m<=k)
 | .fob k _=>decide (m<=k)
 | .far k _ _=>decide (m<=k)
 |_=>false
theorem z3w {Λ:L} {m b:Nat} (h:Λ.high m b=false):(Λ.zr m).lab b=Λ.lab b:=by
 unfold L.high at h;simp only [L.zr]
 cases hl:Λ.lab b with
 |fix fr=>rfl
 |obj k=>rw [hl] at h;simp at h;simp [h]
 |arr k fr=>rw [hl] at h;simp at h;simp [h]
 |fob k i=>rw [hl] at h;simp at h;simp [h]
 |far k i fr=>rw [hl] at h;simp at h;simp [h]
theorem z7k {Λ:L} {m b:Nat} (h:Λ.high m b=true):∃fr,(Λ.zr m).lab b= .fix (some fr)/\((∃k,Λ.lab b= .obj k/\m<=k/\fr=0)∨(∃k,Λ.lab b= .arr k fr/\m<=k)∨(∃k i,Λ.lab b= .fob k i/\m<=k/\fr=0)∨∃k i,Λ.lab b= .far k i fr/\m<=k):=by
 unfold L.high at h;simp only [L.zr]
 cases hl:Λ.lab b with
 |fix fr=>rw [hl] at h;simp at h
 |obj k=>rw [hl] at h;simp at h;exact ⟨0,by simp;omega,.inl ⟨k,rfl,h,rfl⟩⟩
 |arr k fr=>rw [hl] at h;simp at h;exact ⟨fr,by simp;omega,.inr (.inl ⟨k,rfl,h⟩)⟩
 |fob k i=>rw [hl] at h;simp at h;exact ⟨0,by simp;omega,.inr (.inr (.inl ⟨k,i,rfl,h,rfl⟩))⟩
 |far k i fr=>rw [hl] at h;simp at h;exact ⟨fr,by simp;omega,.inr (.inr (.inr ⟨k,i,rfl,h⟩))⟩
theorem zdZ {Λ:L} {m b o:Nat}:Rd (Λ.zr m).lab b o↔Rd Λ.lab b o:=by
 cases hh:Λ.high m b with
 |false=>unfold Rd;rw [z3w hh]
 |true=>
  obtain ⟨fr,h1,h2⟩:=z7k hh;unfold Rd
  rcases h2 with ⟨k,e,_,rfl⟩|⟨k,e,_⟩|⟨k,i,e,_,rfl⟩|⟨k,i,e,_⟩<;>rw [h1,e]<;>simp
theorem wJ {Λ:L} {m b k:Nat} (h:Λ.lab b= .obj k) (hk:k<m):(Λ.zr m).lab b= .obj k:=by simp [L.zr,h,hk]
theorem zaB {Λ:L} {m b k n:Nat} (h:Λ.lab b= .arr k n) (hk:k<m):(Λ.zr m).lab b= .arr k n:=by simp [L.zr,h,hk]
theorem qR {Λ:L} {m b k:Nat} (h:(Λ.zr m).lab b= .obj k):Λ.lab b= .obj k/\k<m:=by
 simp only [L.zr] at h
 cases hl:Λ.lab b with
 |fix fr=>simp [hl] at h
 |obj j=>simp only [hl] at h;split at h<;>simp_all
 |arr j n=>simp only [hl] at h;split at h<;>simp_all
 |fob j n=>simp only [hl] at h;split at h<;>simp_all
 |far j n q=>simp only [hl] at h;split at h<;>simp_all
theorem qQ {Λ:L} {m b k i:Nat} (h:Λ.lab b= .fob k i) (hk:k<m):(Λ.zr m).lab b= .fob k i:=by simp [L.zr,h,hk]
theorem zaR {Λ:L} {m b k i n:Nat} (h:Λ.lab b= .far k i n) (hk:k<m):(Λ.zr m).lab b= .far k i n:=by simp [L.zr,h,hk]
theorem ya {Λ:L} {m b k i:Nat} (h:(Λ.zr m).lab b= .fob k i):Λ.lab b= .fob k i/\k<m:=by
 simp only [L.zr] at h
 cases hl:Λ.lab b with
 |fix fr=>simp [hl] at h
 |obj j=>simp only [hl] at h;split at h<;>simp_all
 |arr j n=>simp only [hl] at h;split at h<;>simp_all
 |fob j n=>simp only [hl] at h;split at h<;>simp_all
 |far j n q=>simp only [hl] at h;split at h<;>simp_all
theorem z5E {Λ:L} {m b k i n:Nat} (h:(Λ.zr m).lab b= .far k i n):Λ.lab b= .far k i n/\k<m:=by
 simp only [L.zr] at h
 cases hl:Λ.lab b with
 |fix fr=>simp [hl] at h
 |obj j=>simp only [hl] at h;split at h<;>simp_all
 |arr j n=>simp only [hl] at h;split at h<;>simp_all
 |fob j n=>simp only [hl] at h;split at h<;>simp_all
 |far j n q=>simp only [hl] at h;split at h<;>simp_all
theorem z5L {Λ:L} {m b k n:Nat} (h:(Λ.zr m).lab b= .arr k n):Λ.lab b= .arr k n/\k<m:=by
 simp only [L.zr] at h
 cases hl:Λ.lab b with
 |fix fr=>simp [hl] at h
 |obj j=>simp only [hl] at h;split at h<;>simp_all
 |arr j n=>simp only [hl] at h;split at h<;>simp_all
 |fob j n=>simp only [hl] at h;split at h<;>simp_all
 |far j n q=>simp only [hl] at h;split at h<;>simp_all
theorem zO.hf {Λ:L} {m:Nat} {v:Value} {x:T} (h:zO Λ.lab Λ.w v x):zO (Λ.zr m).lab (Λ.zr m).w v x:=h.yq fun _ _ _ _ hr=>⟨zdZ.2 hr,rfl⟩
theorem zn.hf {Λ:L} {m:Nat} {v:Value} {x:V} (h:zn Λ v x) (hb:x.bd m=true):zn (Λ.zr m) v x:=by
 induction h with
 |t h=>exact .t h.hf
 |zV=>exact .zV
 |@own v k sz xs h hsz hl hn ho=>
  have hk:k<m:=by simpa [V.bd] using hb
  have hf:(Λ.zr m).fro k=Λ.fro k:=by simp [L.zr,hk]
  refine .own h.hf hsz hk (by rw [hf];exact hn) fun he=>?_
  rcases ho (by rw [←hf];exact he) with ho|⟨b,cap,arr,e,hv,hb',hh,hc,hn'⟩
  ·exact .inl ho
  ·exact .inr ⟨b,cap,arr,e,hv,zaB hb' hk,hh,hc,hn'⟩
 |@slc b k off len cap sz hl hc h=>
  have hk:k<m:=by simpa [V.bd] using hb
  exact .slc hk hc (wJ h hk)
 |agg hs _ ih=>exact .agg hs fun j v c h1 h2=>ih j v c h1 h2 (V.Zw (by simpa [V.bd] using hb) j c h2)
 |tup hs _ ih=>exact .tup hs fun j v c h1 h2=>ih j v c h1 h2 (V.Zw (by simpa [V.bd] using hb) j c h2)
 |@ptr b k off hl h=>
  have hk:k<m:=by simpa [V.bd] using hb
  exact .ptr hk (wJ h hk)
 |@mp b k hl h=>
  have hk:k<m:=by simpa [V.bd] using hb
  exact .mp hk (wJ h hk)
 |fn hs h=>
  refine .fn hs fun j v c h1 h2=>?_;obtain ⟨b,e1,e2,e3⟩:=h j v c h1 h2
  have hk:c.1<m:=by
   simp only [V.bd,List.all_eq_true,decide_eq_true_eq] at hb;exact hb c (zMG h2)
  exact ⟨b,e1,wJ e2 hk,hk⟩
 |gd _ h' ih=>exact .gd (fun hc=>ih hc (by simpa [V.bd] using hb)) h'
 |top=>exact .top
 |ub h h'=>exact .ub h h'
 |ui=>exact .ui
 |@fpt b k i off hl h=>
  have hk:k<m:=by simpa [V.bd] using hb
  exact .fpt hk (qQ h hk)
 |@gpt v k ver off hv hl hn h=>
  have hk:k<m:=by simpa [V.bd] using hb
  have hf:(Λ.zr m).frf k 0=Λ.frf k 0:=by simp [L.zr,hk]
  refine .gpt hv hk (by rw [hf];exact hn) fun he=>?_;obtain ⟨b,e1,i,e2,e3⟩:=h (by rw [←hf];exact he);exact ⟨b,e1,i,qQ e2 hk,fun b' i' h'=>e3 b' i' (ya h').1⟩
 |@gsl v k ver off len sz hv hl hn h=>
  have hk:k<m:=by simpa [V.bd] using hb
  have hf:(Λ.zr m).frf k 0=Λ.frf k 0:=by simp [L.zr,hk]
  refine .gsl hv hk (by rw [hf];exact hn) fun he=>?_
  rcases h (by rw [←hf];exact he) with h|⟨b,cap,N,hv,hc,⟨i,e2,e3⟩,hN,he'⟩
  ·exact .inl h
  ·exact .inr ⟨b,cap,N,hv,hc,⟨i,qQ e2 hk,fun b' i' h'=>e3 b' i' (ya h').1⟩,hN,he'⟩
 |@fow v k i sz xs h hsz hl hn ho=>
  have hk:k<m:=by simpa [V.bd] using hb
  have hf:(Λ.zr m).frf k i=Λ.frf k i:=by simp [L.zr,hk]
  refine .fow h.hf hsz hk (by rw [hf];exact hn) fun he=>?_
  rcases ho (by rw [←hf];exact he) with ho|⟨b,cap,arr,e,hv,hb',hh,hc,hn'⟩
  ·exact .inl ho
  ·exact .inr ⟨b,cap,arr,e,hv,zaR hb' hk,hh,hc,hn'⟩
theorem Z4.hf {Λ:L} {m:Nat} {sto:List (Nat×z3)} (h:Z4 Λ ⟨sto,Λ.nxt⟩) (hs:zG m sto=true):Z4 (Λ.zr m) ⟨sto,m⟩:=by
 refine ⟨fun k o hk=>?_,fun b b' k h1 h2=>h.inj b b' k (qR h1).1 (qR h2).1,fun b hb=>?_,fun b k hb=>?_,fun k hk=>?_,fun b b' k i h1 h2=>h.YO b b' k i (ya h1).1 (ya h2).1,fun b k hb=>?_,fun k i hk=>?_⟩
 ·obtain ⟨h1,h2⟩:=WW hs k o hk;refine ⟨h1,?_⟩;have hr:=(h.sto k o hk).2
  cases o with
  |cells cs=>
   obtain ⟨b,arr,e,e1,e2,e3,e4⟩:=hr;exact ⟨b,arr,e,wJ e1 h1,e2,e3,fun j v c a1 a2=>(e4 j v c a1 a2).hf (V.Zw (by simpa [z3.bd] using h2) j c a2)⟩
  |map kag es sx=>
   obtain ⟨b,ents,clock,e1,e2,e3⟩:=hr;exact ⟨b,ents,clock,wJ e1 h1,e2,e3.yq (fun _ _ h=>h.hf) (fun i kv v hi hv=>hv.hf (V.Zw (by simpa [z3.bd] using h2) i kv.2 (by simp [hi])))⟩
  |arr n=>unfold W5 at*;simp [L.zr,h1,hr]
  |iter q s seen c=>
   have hq:q<m:=by simpa [z3.bd] using h2
   obtain ⟨b,bm,e1,e2,e3,e4⟩:=hr;exact ⟨b,bm,wJ e1 h1,e2,wJ e3 hq,hq⟩
  |gro r cs=>
   obtain ⟨h0,hr⟩:=hr
   refine ⟨by simp [L.zr,h1,h0],?_⟩
   rcases hr with ⟨e1,e2⟩|⟨b,arr,e,⟨i,e1,e1'⟩,e2,e3,e4⟩
   ·exact .inl ⟨e1,fun b i hb=>e2 b i (ya hb).1⟩
   ·exact .inr ⟨b,arr,e,⟨i,qQ e1 h1,fun b' i' h'=>e1' b' i' (ya h').1⟩,e2,e3,fun j v c a1 a2=>(e4 j v c a1 a2).hf (V.Zw (by simpa [z3.bd] using h2) j c a2)⟩
  |yJ os=>
   obtain ⟨h0,hr⟩:=hr;refine ⟨fun b i hbi=>h0 b i (ya hbi).1,fun i cs hi=>?_⟩;obtain ⟨b,arr,e,e1,e2,e3,e4⟩:=hr i cs hi
   have hbs:V.bds m cs=true:=by
    have:=h2;simp only [z3.bd,List.all_eq_true] at this;exact this cs (zMG hi)
   exact ⟨b,arr,e,qQ e1 h1,e2,e3,fun j v c a1 a2=>(e4 j v c a1 a2).hf (V.Zw hbs j c a2)⟩
  |yh ns=>intro i;have:=hr i;simpa [L.zr,h1] using this
  |zP kag I=>
   obtain ⟨b,ents,clock,e1,e2,e3,e4,e5⟩:=hr;refine ⟨b,ents,clock,wJ e1 h1,e2,e3,e4,fun i e hi=>?_⟩;obtain ⟨cs,v,g1,g2,g3⟩:=e5 i e hi;exact ⟨cs,v,g1.yq fun _ _ h=>h.hf,g2.hf,g3⟩
  |abs J=>exact ⟨hr.1,by simp [L.zr,h1,hr.2.1],hr.1 _ _ _ _ _ _ (fun _ _ h=>h.hf) (fun b i=>⟨fun h=>qQ h h1,fun h=>(ya h).1⟩) (fun _ _ _=>rfl) hr.2.2⟩
 ·simp only [L.zr,h.new b hb]
 ·rcases hb with hb|⟨n,hb⟩
  ·exact (qR hb).2
  ·exact (z5L hb).2
 ·have hk':m<=k:=hk;simp [L.zr];omega
 ·rcases hb with ⟨i,hb⟩|⟨i,n,hb⟩
  ·exact (ya hb).2
  ·exact (z5E hb).2
 ·have hk':m<=k:=hk;simp [L.zr];omega
end
section
variable {P:Program} {n m:Nat} {st:St} {Q:YX->St->Prop}
theorem Sat.ite {z:Ar} {a b:zW} {t:Bool} (hz:z.v st= .t (.bool t)) (h1:t=true->Sat P n m a st Q) (h2:t=false->Sat P n m b st Q):Sat P n m (.cond z a b) st Q:=by
 refine Sat.cond hz ?_
 cases t with
 |true=>exact h1 rfl
 |false=>exact h2 rfl
theorem z9b {f:FuncId} {vs:List V} {x:V} {base:Nat} {sto:List (Nat×z3)} {K:Out->Prop} (h:z9 P f vs ⟨[],0⟩ {v:=x}) (hb:V.bds 0 vs=true) (hx:x.bd 0=true) (hk:K {v:=x}):z01 P f vs base sto K:=
 ⟨{v:=x},by simp only [Bool.false_eq_true,if_false];exact fun s=>h.pure hb hx,hk⟩
theorem z6n {gc:Bool} {op:AOp} {base:Nat} {K:Out->Prop} (h1:gc=true->evX P base st K op) (h2:gc=false->K {v:= .gd false .top,rd:=Za st op}):z9V P gc base st K op:= .inr ⟨fun hg=> .inl (h1 hg),h2⟩
theorem z5.go {rs:List WC} {x:V} (h:match z0A st rs with|some r=>LeR 0 st.s r x|none=>False):z5 ⟨[],0⟩ {v:=x} rs .ret st:=by
 cases hr:z0A st rs with
 |none=>rw [hr] at h;exact h.elim
 |some r=>rw [hr] at h;exact ⟨r,hr,Nat.zero_le _,h,.le trivial⟩
theorem LeR.t {m:Nat} {s:S} {x y:T} (h:x=y):LeR m s (.t x) (.t y):= .le (.tEq h)
theorem LeR.own {m:Nat} {s:S} {k sz:Nat} {xs ys:List (List T)} (h:xs=ys):LeR m s (.own k sz xs) (.t (.lst ys)):= .le (h▸ .Z2)
theorem LeR.nil {m:Nat} {s:S} {ys:List (List T)} (h:[]=ys):LeR m s .zV (.t (.lst ys)):= .le (h▸ .Z3)
theorem LeR.wu {m:Nat} {s:S} {a b c d:V} (h1:LeR m s a c) (h2:LeR m s b d):LeR m s (.tup [a,b]) (.tup [c,d]):= .tup (.cons h1 (.cons h2 .nil))
end
theorem wrap64 {x:Int} (h1:-9223372036854775808<=x) (h2:x<=9223372036854775807):IntKind.i64.wrap x=x:=by rw [IntKind.wrap_i64];omega
theorem z0V {α:Type} {l:List α} {i:Nat} {x:α} {r:List α} (h:l.drop i=x::r):l[i]?=some x/\l.drop (i+1)=r/\i<l.length:=by
 have h1:l[i]?=some x:=by
  have:=List.getElem?_drop (xs:=l) (i:=i) (j:=0);rw [h] at this;simpa using this.symm
 refine ⟨h1,?_,(List.getElem?_eq_some_iff.1 h1).1⟩;rw [←List.drop_drop,h];rfl
theorem zaK {α:Type} {l:List α} {i:Nat} (h:l.drop i=[]):l.length<=i:=List.drop_eq_nil_iff.1 h
end Go.GB
