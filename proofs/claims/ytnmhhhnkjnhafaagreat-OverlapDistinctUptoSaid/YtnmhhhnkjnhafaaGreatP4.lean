/-
  YtnmhhhnkjnhafaaGreatP4: lemmas. No conditions.
-/
import Derived.Test.YtnmhhhnkjnhafaaGreatP3
import Derived.Maps.RangeRun
set_option linter.all false
set_option maxRecDepth 100000
set_option maxHeartbeats 16000000
namespace Go.GB
def Wp {ρ:Type} (n:Nat) (K:Nat->ρ):ρ:=
 match n with
 |0=>K 0|1=>K 1|2=>K 2|3=>K 3|4=>K 4|5=>K 5|6=>K 6|7=>K 7|8=>K 8|9=>K 9|10=>K 10|11=>K 11|12=>K 12|13=>K 13|14=>K 14|15=>K 15
 |16=>K 16|17=>K 17|18=>K 18|19=>K 19|20=>K 20|21=>K 21|22=>K 22|23=>K 23|24=>K 24|25=>K 25|26=>K 26|27=>K 27|28=>K 28|29=>K 29|30=>K 30|n=>K n
theorem YZ {ρ:Type} (n:Nat) (K:Nat->ρ):Wp n K=K n:=by
 unfold Wp;split<;>rfl
inductive It where
 |c (a:zW)
 |blk (id:Nat)
 |lp (a:zW)
section
variable {P:Program} {n m:Nat} {R:St->Prop}
def ZO (P:Program) (n m:Nat) (R:St->Prop):List It->YX->St->Prop
 |[],.exit _,_=>False
 |[],_,st=>R st
 | .c a::k,.normal,st=>Sat P n m a st (ZO P n m R k)
 | .c _::k,e,st=>ZO P n m R k e st
 | .blk id::k,.exit id',st=>if id'=id then ZO P n m R k .normal st else ZO P n m R k (.exit id') st
 | .blk _::k,e,st=>ZO P n m R k e st
 | .lp a::k,.normal,st=>z2c P n m a st (ZO P n m R k)
 | .lp _::k,e,st=>ZO P n m R k e st
def Run (P:Program) (n m:Nat) (R:St->Prop) (k:List It) (st:St):Prop:=ZO P n m R k .normal st
theorem qu:∀(k:List It) (st:St),ZO P n m R k .ret st=R st
 |[],st=>rfl
 | .c a::k,st=>by simp only [ZO];exact qu k st
 | .blk a::k,st=>by simp only [ZO];exact qu k st
 | .lp a::k,st=>by simp only [ZO];exact qu k st
def QB (id:Nat):List It->Option (List It)
 |[]=>none
 | .blk i::k=>bif Nat.beq id i then some k else QB id k
 | .c _::k=>QB id k
 | .lp _::k=>QB id k
theorem Qa {id:Nat} {st:St}:∀{k k':List It},QB id k=some k'->Run P n m R k' st->ZO P n m R k (.exit id) st
 | .c _::k,k',h,hr=>by simp only [ZO];exact Qa (by simpa [QB] using h) hr
 | .lp _::k,k',h,hr=>by simp only [ZO];exact Qa (by simpa [QB] using h) hr
 | .blk i::k,k',h,hr=>by
  simp only [QB] at h;simp only [ZO];by_cases e:id=i
  ·subst e;simp at h;subst h;simp only [if_true];exact hr
  ·have hb:Nat.beq id i=false:=by
    cases hb:Nat.beq id i with
    |false=>rfl
    |true=>exact absurd (Nat.eq_of_beq_eq_true hb) e
   rw [hb] at h;simp only [e,if_false];exact Qa h hr
def ZT:Nat->List It->List It
 |0,k=>k
 |f+1,.c (.seq a b)::k=>ZT f (.c a:: .c b::k)
 |f+1,.c (.block id a)::k=>ZT f (.c a:: .blk id::k)
 |f+1,.c .skip::k=>ZT f k
 |f+1,.c (.scope a)::k=>ZT f (.c a::k)
 |f+1,.c .lbl::k=>ZT f k
 |f+1,.blk _::k=>ZT f k
 |_+1,.c .ret::_=>[]
 |f+1,.c (.exit id)::k=>match QB id k with|some k'=>ZT f k'|none=> .c (.exit id)::k
 |_+1,k=>k
theorem Run.adv:∀(f:Nat) {k k':List It} {st:St},ZT f k=k'->Run P n m R k' st->Run P n m R k st
 |0,k,k',st,h,hr=>by simp only [Go.GB.ZT] at h;subst h;exact hr
 |f+1,[],k',st,h,hr=>by simp only [Go.GB.ZT] at h;subst h;exact hr
 |f+1,.lp a::k,k',st,h,hr=>by simp only [Go.GB.ZT] at h;subst h;exact hr
 |f+1,.blk id::k,k',st,h,hr=>by
  simp only [Go.GB.ZT] at h;have:=Run.adv f h hr;simpa only [Run,ZO] using this
 |f+1,.c a::k,k',st,h,hr=>by
  cases a with
  |seq a b=>
   simp only [Go.GB.ZT] at h;have:=Run.adv f h hr;simp only [Run,ZO] at this⊢;refine Sat.seq (this.mono fun e st' he=>?_)
   cases e with
   |normal=>simpa only [ZO,z0i] using he
   |exit id=>simpa only [ZO,z0i] using he
   |ret=>simpa only [ZO,z0i] using he
  |block id a=>
   simp only [Go.GB.ZT] at h;have:=Run.adv f h hr;simp only [Run,ZO] at this⊢;refine Sat.block (this.mono fun e st' he=>?_)
   cases e with
   |normal=>simpa only [ZO,z5u] using he
   |exit id=>simpa only [ZO,z5u] using he
   |ret=>simpa only [ZO,z5u] using he
  |skip=>
   simp only [Go.GB.ZT] at h;have:=Run.adv f h hr;exact Sat.skip this
  |lbl=>
   simp only [Go.GB.ZT] at h;have:=Run.adv f h hr;exact Sat.lbl this
  |scope a=>
   simp only [Go.GB.ZT] at h;have:=Run.adv f h hr;exact Sat.scope this
  |ret=>
   simp only [Go.GB.ZT] at h;subst h;refine Sat.ret ?_;rw [qu];exact hr
  |exit id=>
   simp only [Go.GB.ZT] at h
   cases hp:QB id k with
   |none=>rw [hp] at h;subst h;exact hr
   |some k2=>
    rw [hp] at h;exact Sat.exit (Qa hp (Run.adv f h hr))
  |region d o a l=>simp only [Go.GB.ZT] at h;subst h;exact hr
  |cond z a b=>simp only [Go.GB.ZT] at h;subst h;exact hr
  |loop c=>simp only [Go.GB.ZT] at h;subst h;exact hr
def Mid (P:Program) (n m:Nat) (R:St->Prop) (draw:Bool) (all:List AO) (after:List (List Nat)) (live:List Nat) (k:List It) (b:Nat) (fl:List (Bool×Bool)) (ops:List AO) (st:St):Prop:=
 evR P b st ops fl.reverse fun b st' fl=>zas draw all after fl st'.env/\Run P n m R k (z5d live b st')
theorem Run.region {b:Nat} {k k':List It} {draw:Bool} {ops:List AO} {after:List (List Nat)} {live:List Nat} {st:St} (hk:ZT 200 k= .c (.region draw ops after live)::k') (hb:Wp st.s.nxt some=some b) (h:Mid P n m R draw ops after live k' b [] ops st):Run P n m R k st:=
 Run.adv 200 hk (Sat.region (by rw [YZ] at hb;simp at hb;subst hb;exact h))
theorem Run.cond {k k':List It} {z:Ar} {a b:zW} {st:St} {t:Bool} (hk:ZT 200 k= .c (.cond z a b)::k') (hz:z.v st= .t (.bool t)) (h1:t=true->Run P n m R (.c a::k') st) (h2:t=false->Run P n m R (.c b::k') st):Run P n m R k st:=
 Run.adv 200 hk (Sat.ite hz h1 h2)
theorem Run.zm {k k':List It} {z:Ar} {a b:zW} {st:St} {t:Bool} (hk:ZT 200 k= .c (.cond z a b)::k') (hz:z.v st= .t (.bool t)) (ht:t=true) (h1:Run P n m R (.c a::k') st):Run P n m R k st:=
 Run.adv 200 hk (Sat.ite hz (fun _=>h1) (fun h=>by rw [ht] at h;cases h))
theorem Run.zj {k k':List It} {z:Ar} {a b:zW} {st:St} {t:Bool} (hk:ZT 200 k= .c (.cond z a b)::k') (hz:z.v st= .t (.bool t)) (ht:t=false) (h1:Run P n m R (.c b::k') st):Run P n m R k st:=
 Run.adv 200 hk (Sat.ite hz (fun h=>by rw [ht] at h;cases h) (fun _=>h1))
theorem Run.fin {k:List It} {st:St} (hk:ZT 200 k=[]) (h:R st):Run P n m R k st:=Run.adv 200 hk h
theorem Run.loop {k k':List It} {c:zW} {st:St} (hk:ZT 200 k= .c (.loop c)::k') (h:Run P n m R (.lp c::k') st):Run P n m R k st:=
 Run.adv 200 hk (Sat.loop h)
theorem Run.z1y {k:List It} {c:zW} {st:St} (h:Run P n m R (.c c:: .lp c::k) st):Run P n m R (.lp c::k) st:=by
 simp only [Run,ZO] at h⊢;refine z2c.z1y (Sat.mono h fun e st' he=>?_)
 cases e with
 |normal=>simpa only [ZO,z0i] using he
 |exit id=>simpa only [ZO,z0i] using he
 |ret=>simpa only [ZO,z0i] using he
theorem Run.WJ {k k':List It} {c:zW} {st st':St} (j:Nat) (hk:ZT 200 k= .lp c::k') (h:Run P n m R (.lp c::k') st') (h1:Nat.ble m j=true) (h2:Nat.ble j st.s.nxt=true) (h3:Nat.ble j st'.s.nxt=true) (he:LeE j st'.s.nxt st.env st'.env) (hs:LeS j st'.s.nxt st.s.sto st'.s.sto):Run P n m R k st:=
 Run.adv 200 hk (z2c.WJ j h (zLB h1) (zLB h2) (zLB h3) he hs)
theorem Run.zdx {k k':List It} {c:zW} {st st':St} (j:Nat) (hk:ZT 200 k= .c c::k') (h:Run P n m R (.c c::k') st') (h1:Nat.ble m j=true) (h2:Nat.ble j st.s.nxt=true) (h3:Nat.ble j st'.s.nxt=true) (he:LeE j st'.s.nxt st.env st'.env) (hs:LeS j st'.s.nxt st.s.sto st'.s.sto):Run P n m R k st:=
 Run.adv 200 hk (Sat.WJ j h (zLB h1) (zLB h2) (zLB h3) he hs)
def V.zaS {ρ:Type} (v:V) (K:V->ρ):ρ:=
 match v with
 | .agg cs=>K (.agg cs)
 | .tup cs=>K (.tup cs)
 | .t x=>K (.t x)
 | .zV=>K .zV
 | .own k sz xs=>K (.own k sz xs)
 | .slc k o l s=>K (.slc k o l s)
 | .ptr k o=>K (.ptr k o)
 | .mp k=>K (.mp k)
 | .fn f cs=>K (.fn f cs)
 | .gd c x=>K (.gd c x)
 | .ub c x=>K (.ub c x)
 | .ui k=>K (.ui k)
 | .top=>K .top
 | .fpt k i o=>K (.fpt k i o)
 | .gpt k w o=>K (.gpt k w o)
 | .gsl k w o l s=>K (.gsl k w o l s)
 | .fow k i sz xs=>K (.fow k i sz xs)
theorem V.z53 {ρ:Type} (v:V) (K:V->ρ):v.zaS K=K v:=by
 cases v<;>rfl
def Wn {ρ:Type}:List V->(List V->ρ)->ρ
 |[],K=>K []
 |x::r,K=>x.zaS fun x'=>Wn r fun r'=>K (x'::r')
theorem wW {ρ:Type}:∀(l:List V) (K:List V->ρ),Wn l K=K l
 |[],K=>rfl
 |x::r,K=>by simp only [Wn,V.z53];exact wW r _
def V.force {ρ:Type} (v:V) (K:V->ρ):ρ:=
 match v with
 | .agg cs=>Wn cs fun cs'=>K (.agg cs')
 | .tup cs=>Wn cs fun cs'=>K (.tup cs')
 | .t x=>K (.t x)
 | .zV=>K .zV
 | .own k sz xs=>K (.own k sz xs)
 | .slc k o l s=>K (.slc k o l s)
 | .ptr k o=>K (.ptr k o)
 | .mp k=>K (.mp k)
 | .fn f cs=>K (.fn f cs)
 | .gd c x=>K (.gd c x)
 | .ub c x=>K (.ub c x)
 | .ui k=>K (.ui k)
 | .top=>K .top
 | .fpt k i o=>K (.fpt k i o)
 | .gpt k w o=>K (.gpt k w o)
 | .gsl k w o l s=>K (.gsl k w o l s)
 | .fow k i sz xs=>K (.fow k i sz xs)
theorem V.force_eq {ρ:Type} (v:V) (K:V->ρ):v.force K=K v:=by
 cases v<;>simp only [V.force,wW]
def z45 {ρ:Type}:Nat->List V->(List (Nat×V)->ρ)->ρ
 |_,[],K=>K []
 |i,x::r,K=>x.force fun x'=>Wp (i+1) fun j=>z45 j r fun e=>K ((i,x')::e)
theorem z2B {ρ:Type}:∀(vs:List V) (i:Nat) (K:List (Nat×V)->ρ),z45 i vs K=K (WN i vs)
 |[],i,K=>rfl
 |x::r,i,K=>by simp only [z45,V.force_eq,YZ,z2B r,WN]
theorem z9.run {f:FuncId} {n:Nat} {ac:zW} {rs:List WC} {vs:List V} {s:S} {out:Out} (hi:zb P f=some (n,ac.bare,rs)) (hm:P.follows .mixedOrders=true) (hn:Nat.ble vs.length n=true)
  {e:List (Nat×V)} (he:z45 0 vs some=some e) (h:Run P n s.nxt (z5 s out rs .ret) [.c ac] {env:=e,s:=s}):z9 P f vs s out:=by
 rw [z2B] at he;simp at he;subst he;refine z9.zcA hi hm (zLB hn) (Sat.mono h fun e st he=>?_)
 cases e with
 |normal=>exact he
 |exit id=>exact he.elim
 |ret=>exact he
def z3a {α ρ:Type}:List (Nat×α)->Nat->α->(List (Nat×α)->ρ)->ρ
 |[],d,v,K=>K [(d,v)]
 |(k,x)::r,d,v,K=>bif Nat.beq k d then K ((k,v)::r) else z3a r d v fun r'=>K ((k,x)::r')
theorem Qc {α ρ:Type}:∀(e:List (Nat×α)) (d:Nat) (v:α) (K:List (Nat×α)->ρ),z3a e d v K=K (yC e d v)
 |[],d,v,K=>rfl
 |(k,x)::r,d,v,K=>by
  simp only [z3a,yC];by_cases e:k=d
  ·subst e;simp
  ·have hb:Nat.beq k d=false:=by
    cases hb:Nat.beq k d with
    |false=>rfl
    |true=>exact absurd (Nat.eq_of_beq_eq_true hb) e
   simp only [hb,cond_false,e,if_false];exact Qc r d v _
def z4R {ρ:Type} (live:List Nat):List (Nat×V)->(List (Nat×V)->ρ)->ρ
 |[],K=>K []
 |(t,x)::r,K=>bif live.any (Nat.beq t) then z4R live r fun r'=>K ((t,x)::r') else z4R live r K
theorem any_beq (live:List Nat) (t:Nat):live.any (Nat.beq t)=live.contains t:=by
 induction live with
 |nil=>rfl
 |cons a r ih=>
  simp only [List.any_cons,List.contains_cons,ih];congr 1;by_cases e:t=a
  ·subst e;simp
  ·have hb:Nat.beq t a=false:=by
    cases hb:Nat.beq t a with
    |false=>rfl
    |true=>exact absurd (Nat.eq_of_beq_eq_true hb) e
   simp [hb,e]
theorem wU {ρ:Type} (live:List Nat):∀(e:List (Nat×V)) (K:List (Nat×V)->ρ),z4R live e K=K (wB live e)
 |[],K=>rfl
 |(t,x)::r,K=>by
  simp only [z4R,wB,any_beq]
  cases h:live.contains t<;>simp [wU live r]
def setEnv {ρ:Type} (st:St) (d:Option Nat) (v:V) (K:List (Nat×V)->ρ):ρ:=
 match d with
 |some d=>z3a st.env d v K
 |none=>K st.env
theorem ZA {ρ:Type} (st:St) (d:Option Nat) (v:V) (K:List (Nat×V)->ρ):setEnv st d v K=K (match d with|some d=>yC st.env d v|none=>st.env):=by
 cases d<;>simp only [setEnv,Qc]
def qP {ρ:Type} (b:Bool) (K:Bool->ρ):ρ:=match b with|true=>K true|false=>K false
theorem wO {ρ:Type} (b:Bool) (K:Bool->ρ):qP b K=K b:=by cases b<;>rfl
def St.z3n {ρ:Type} (st:St) (e:List (Nat×V)) (K:St->ρ):ρ:=match st with|⟨_,⟨sto,nx⟩⟩=>K ⟨e,⟨sto,nx⟩⟩
theorem St.ZX {ρ:Type} (st:St) (e:List (Nat×V)) (K:St->ρ):st.z3n e K=K ⟨e,st.s⟩:=rfl
def z7a (gc:Bool) (st:St) (op:AOp):Option (V×List Bool):=
 match op with
 | .pick c (.c (.t (.bool true))) b=>
  match rd gc st c with
  |(.t (.bool cb),p1)=>
   match rd (gc&&!cb) st b with
   |(.t (.bool xb),p3)=>some (.t (.bool (cb||xb)),p1++([]++p3))
   |_=>zg gc st op
  |_=>zg gc st op
 | .pick c a (.c (.t (.bool false)))=>
  match rd gc st c with
  |(.t (.bool cb),p1)=>
   match rd (gc&&cb) st a with
   |(.t (.bool xa),p2)=>some (.t (.bool (cb&&xa)),p1++(p2++[]))
   |_=>zg gc st op
  |_=>zg gc st op
 | .eqb true x y=>
  match rd gc st x with
  |(.t (.bool a),p1)=>
   match rd gc st y with
   |(.t (.bool b),p2)=>some (.t (.bool (!(a==b))),p1++p2)
   |_=>zg gc st op
  |_=>zg gc st op
 | .eqb false x y=>
  match rd gc st x with
  |(.t (.bool a),p1)=>
   match rd gc st y with
   |(.t (.bool b),p2)=>some (.t (.bool (a==b)),p1++p2)
   |_=>zg gc st op
  |_=>zg gc st op
 |op=>zg gc st op
theorem z4t (gc:Bool) (st:St) (op:AOp):z7a gc st op=zg gc st op:=by
 unfold z7a;split
 ·rename_i c b;split
  ·rename_i cb p1 hc;split
   ·rename_i xb p3 hb;simp only [zg,hc,hb];simp only [rd,Ar.v,V.un]
    cases cb<;>rfl
   ·rfl
  ·rfl
 ·rename_i c a _;split
  ·rename_i cb p1 hc;split
   ·rename_i xa p2 ha;simp only [zg,hc,ha];simp only [rd,Ar.v,V.un]
    cases cb<;>rfl
   ·rfl
  ·rfl
 ·split
  ·rename_i h1;split
   ·rename_i h2;simp [zg,h1,h2]
   ·rfl
  ·rfl
 ·split
  ·rename_i h1;split
   ·rename_i h2;simp [zg,h1,h2]
   ·rfl
  ·rfl
 ·rfl
theorem qF (a:Bool):(!a||(!a||a))=true:=by cases a<;>rfl
theorem qI (a:Bool):(!a||true)=true:=by cases a<;>rfl
theorem qJ (a b:Bool):(!a||(!(a&&b)||(a&&b)))=true:=by cases a<;>cases b<;>rfl
def z0m (st:St) (d:Option Nat) (op:AOp):Option (List Bool×St×Bool):=
 match z7a true st op with
 |some (v,ps)=>v.force fun v'=>setEnv st d v' fun e=>qP (Za st op) fun l=>st.z3n e fun st'=>some (ps,st',l)
 |none=>none
theorem zao {st st':St} {d:Option Nat} {op:AOp} {ps:List Bool} {l:Bool} (h:z0m st d op=some (ps,st',l)):
  ∃v,zg true st op=some (v,ps)/\st'=st.app d {v:=v,rd:=l}/\Za st op=l:=by
 unfold z0m at h;rw [z4t] at h;split at h
 ·rename_i v ps' hv;simp only [V.force_eq,ZA,wO,St.ZX,Option.some.injEq,Prod.mk.injEq] at h;obtain ⟨rfl,h2,h3⟩:=h;refine ⟨v,hv,?_,h3⟩
  rw [←h2];cases d<;>rfl
 ·cases h
variable {draw:Bool} {all:List AO} {after:List (List Nat)} {live:List Nat} {k:List It} {b:Nat} {fl:List (Bool×Bool)} {ops:List AO} {st st':St} {d:Option Nat}
theorem Mid.pure {op:AOp} {ps:List Bool} {l:Bool} (h:z0m st d op=some (ps,st',l)) (hp:Zg ps) (h':Mid P n m R draw all after live k b ((l,false)::fl) ops st'):Mid P n m R draw all after live k b fl (⟨d,none,op⟩::ops) st:=by
 obtain ⟨v,h1,rfl,h3⟩:=zao h;unfold Mid at h'⊢;simp only [evR,evO,evU,h1,h3];refine ⟨hp,?_⟩;simpa using h'
theorem Mid.zcf {op:AOp} {l:Bool} (h:z0m st d op=some ([],st',l)) (h':Mid P n m R draw all after live k b ((l,false)::fl) ops st'):Mid P n m R draw all after live k b fl (⟨d,none,op⟩::ops) st:=
 Mid.pure h trivial h'
def yB (want:Bool):V->Option Bool
 | .t (.bool b)=>match want with|true=>some b|false=>some (!b)
 | .gd c (.t (.bool b))=>match want with|true=>some (c&&b)|false=>some (c&&!b)
 | .gd false .top=>some false
 |_=>none
theorem W0 (want:Bool) (v:V):yB want v=z2K want v:=by
 unfold yB z2K
 cases want<;>split<;>simp_all
def stepG (st:St) (d:Option Nat) (s:Nat) (want:Bool) (op:AOp):Option (List Bool×St×Bool):=
 match yB want (look st.env s) with
 |none=>none
 |some gc=>
  match z7a gc st op with
  |some (v,ps)=>v.force fun v'=>setEnv st d (.gd gc v') fun e=>qP (Za st op) fun l=>st.z3n e fun st'=>some (ps.map (fun p=>!gc||p),st',l)
  |none=>none
theorem Mid.grd {op:AOp} {s:Nat} {want:Bool} {ps:List Bool} {l:Bool} (h:stepG st d s want op=some (ps,st',l)) (hp:Zg ps) (h':Mid P n m R draw all after live k b ((l,false)::fl) ops st'):Mid P n m R draw all after live k b fl (⟨d,some (s,want),op⟩::ops) st:=by
 unfold stepG at h;rw [W0] at h;split at h
 ·cases h
 ·rename_i gc hgc;rw [z4t] at h;split at h
  ·rename_i v ps' hv;simp only [V.force_eq,ZA,wO,St.ZX,Option.some.injEq,Prod.mk.injEq] at h;obtain ⟨rfl,h2,h3⟩:=h;unfold Mid at h'⊢;simp only [evR,evO,hgc,hv,h3];refine ⟨hp,?_⟩
   have:st'=st.app d {v:= .gd gc v,rd:=l}:=by rw [←h2];cases d<;>rfl
   rw [this] at h';simpa using h'
  ·cases h
theorem Mid.opX {op:AOp} (hn:zg true st op=none) (h:evX P b st (fun o=>Mid P n m R draw all after live k (b+o.n) ((o.rd,!o.ob.isEmpty||decide (0<o.n))::fl) ops (st.app d o)) op):Mid P n m R draw all after live k b fl (⟨d,none,op⟩::ops) st:=by
 unfold Mid at h⊢;simp only [evR,evO,evU,hn];exact .inl (by simpa using h)
def V.qL:V->V
 | .own _ _ xs=> .t (.lst xs)
 | .fow _ _ _ xs=> .t (.lst xs)
 | .zV=> .t (.lst [])
 |v=>v
def z4V {ρ:Type}:List V->(List V->ρ)->ρ
 |[],K=>K []
 |x::r,K=>x.qL.zaS fun x'=>z4V r fun r'=>K (x'::r')
theorem z11 {ρ:Type}:∀(l:List V) (K:List V->ρ),z4V l K=K (l.map V.qL)
 |[],K=>rfl
 |x::r,K=>by simp only [z4V,V.z53,z11 r,List.map_cons]
def V.Ww:V->V
 | .agg cs=> .agg (cs.map V.qL)
 |v=>v.qL
def V.z7F {ρ:Type} (v:V) (K:V->ρ):ρ:=
 match v with
 | .agg cs=>z4V cs fun cs'=>K (.agg cs')
 | .own _ _ xs=>K (.t (.lst xs))
 | .zV=>K (.t (.lst []))
 | .tup cs=>Wn cs fun cs'=>K (.tup cs')
 | .t x=>K (.t x)
 | .slc k o l s=>K (.slc k o l s)
 | .ptr k o=>K (.ptr k o)
 | .mp k=>K (.mp k)
 | .fn f cs=>K (.fn f cs)
 | .gd c x=>K (.gd c x)
 | .ub c x=>K (.ub c x)
 | .ui k=>K (.ui k)
 | .top=>K .top
 | .fpt k i o=>K (.fpt k i o)
 | .gpt k w o=>K (.gpt k w o)
 | .gsl k w o l s=>K (.gsl k w o l s)
 | .fow _ _ _ xs=>K (.t (.lst xs))
theorem V.z4L {ρ:Type} (v:V) (K:V->ρ):v.z7F K=K v.Ww:=by
 cases v<;>simp only [V.z7F,V.Ww,V.qL,z11,wW]
theorem zn.qL {Λ:L} {u:Value} {x:V} (h:zn Λ u x):zn Λ u x.qL:=by
 cases h with
 |own h _ _ _ _=>exact .t h
 |zV=>exact .t .nil
 |t h=>exact .t h
 |slc a b c=>exact .slc a b c
 |agg a b=>exact .agg a b
 |tup a b=>exact .tup a b
 |ptr a b=>exact .ptr a b
 |mp a b=>exact .mp a b
 |fn a b=>exact .fn a b
 |gd a b=>exact .gd a b
 |ub a b=>exact .ub a b
 |ui=>exact .ui
 |top=>exact .top
 |fpt a b=>exact .fpt a b
 |gpt a b c d=>exact .gpt a b c d
 |gsl a b c d=>exact .gsl a b c d
 |fow h _ _ _ _=>exact .t h
theorem zn.Ww {Λ:L} {u:Value} {x:V} (h:zn Λ u x):zn Λ u x.Ww:=by
 cases x with
 |agg cs=>
  cases h with
  |agg hs hv=>
   refine .agg (by simpa using hs) fun j v c h1 h2=>?_;rw [List.getElem?_map,Option.map_eq_some_iff] at h2;obtain ⟨c',h3,rfl⟩:=h2;exact (hv j v c' h1 h3).qL
 |_=>exact h.qL
def qE (vs vs':List V):Prop:=vs.length=vs'.length/\∀(Λ:L) (j:Nat) (u:Value) (x y:V),vs[j]?=some x->vs'[j]?=some y->zn Λ u x->zn Λ u y
theorem qE.pure (vs:List V):qE vs (vs.map V.Ww):=by
 refine ⟨by simp,fun Λ j u x y h1 h2 h=>?_⟩
 rw [List.getElem?_map,h1] at h2;simp at h2;subst h2;exact h.Ww
theorem qE.rfl {vs:List V}:qE vs vs:=⟨Eq.refl _,fun Λ j u x y h1 h2 h=>by rw [h1] at h2;simp at h2;subst h2;exact h⟩
theorem qE.app {a b c d:List V} (h:qE a b) (k:qE c d):qE (a++c) (b++d):=by
 refine ⟨by simp [h.1,k.1],fun Λ j u x y h1 h2 hr=>?_⟩
 by_cases hj:j<a.length
 ·rw [List.getElem?_append_left hj] at h1;rw [List.getElem?_append_left (by rw [←h.1];exact hj)] at h2;exact h.2 Λ j u x y h1 h2 hr
 ·rw [List.getElem?_append_right (by omega)] at h1;rw [List.getElem?_append_right (by rw [←h.1];omega),←h.1] at h2;exact k.2 Λ _ u x y h1 h2 hr
theorem YK.le {f:FuncId} {vs vs':List V} {base:Nat} {sto:List (Nat×z3)} {out:Out} (hl:qE vs vs') (h:YK P f vs' base sto out):YK P f vs base sto out:=
 ⟨h.1,h.2.1,fun Λ args h1 h2 h3 h4 h5=>h.2.2 Λ args h1 h2 h3 (h4.trans hl.1) fun j v x hj hx=>by
  have hlt:j<vs.length:=by rw [hl.1];exact (List.getElem?_eq_some_iff.1 hx).1
  have hv:=List.getElem?_eq_getElem hlt
  exact hl.2 Λ j v _ x hv hx (h5 j v _ hj hv)⟩
theorem z01.le {f:FuncId} {vs vs':List V} {base:Nat} {sto:List (Nat×z3)} {K:Out->Prop} (hl:qE vs vs') (h:z01 P f vs' base sto K):z01 P f vs base sto K:=by
 obtain ⟨out,h1,h2⟩:=h;refine ⟨out,?_,h2⟩;split
 ·rename_i e;rw [e] at h1;exact fun s hs=>YK.le hl (h1 s hs)
 ·rename_i e
  have h1':∀s,YK P f vs' base s out:=by simpa [e] using h1
  exact fun s=>YK.le hl (h1' s)
theorem Wr.le {f:FuncId} {vs vs':List V} {base:Nat} {sto:List (Nat×z3)} {K:Out->Prop} (hl:qE vs vs') (h:Wr P f vs' base sto K):Wr P f vs base sto K:=by
 obtain ⟨out,h1,h2⟩:=h;refine ⟨out,?_,h2⟩;split
 ·rename_i e;rw [e] at h1;exact YK.le hl h1
 ·rename_i e
  have h1':∀s,YK P f vs' base s out:=by simpa [e] using h1
  exact fun s=>YK.le hl (h1' s)
def z0o {α:Type} (st:St):List Ar->(List V->α)->α
 |[],K=>K []
 |x::r,K=>V.z7F (x.u st) fun v=>z0o st r fun vs=>K (v::vs)
theorem qf {α:Type} (st:St):∀(l:List Ar) (K:List V->α),z0o st l K=K ((yk st l).map V.Ww)
 |[],K=>rfl
 |x::r,K=>by simp only [z0o,V.z4L,qf st r,yk,List.map_cons]
def Z9 {α:Type} (st:St) (d:Option Nat) (v:V) (K:St->α):α:=v.force fun v'=>setEnv st d v' fun e=>st.z3n e K
theorem Mid.call {f:FuncId} {args:List Ar} {vs:List V} {x:V} (h:z9 P f vs ⟨[],0⟩ {v:=x}) (hv:z0o st args some=some vs) (hb:V.bds 0 vs=true) (hx:x.bd 0=true) (hs:Z9 st d x some=some st')
  (h':Mid P n m R draw all after live k b ((false,false)::fl) ops st'):Mid P n m R draw all after live k b fl (⟨d,none,.call f args⟩::ops) st:=by
 rw [qf] at hv;simp at hv;refine Mid.opX Z ?_;simp only [evX];refine z01.le (qE.pure _) ?_;rw [hv];refine z9b h hb hx ?_;simp only [Z9,V.force_eq,ZA,St.ZX,Option.some.injEq] at hs
 have:st'=st.app d {v:=x}:=by rw [←hs];cases d<;>rfl
 rw [this] at h';exact h'
theorem Mid.zdp {f:FuncId} {caps:List (Nat×Nat)} {y:Ar} {args:List Ar} {vs:List V} {x:V} (hf:y.u st= .fn f caps) (h:z9 P f (vs++Wy caps) ⟨st.s.sto,b⟩ {v:=x,rd:=true}) (hv:z0o st args some=some vs) (hb:V.bds b (vs++Wy caps)=true) (hsb:zG b st.s.sto=true) (hs:Z9 st d x some=some st')
  (h':Mid P n m R draw all after live k b ((true,false)::fl) ops st'):Mid P n m R draw all after live k b fl (⟨d,none,.Qo y args⟩::ops) st:=by
 rw [qf] at hv;simp at hv;refine Mid.opX Z ?_;simp only [evX,hf];refine Wr.le ((qE.pure _).app .rfl) ?_;rw [hv];refine z8u h hb hsb ?_;simp only [Z9,V.force_eq,ZA,St.ZX,Option.some.injEq] at hs
 have:st'=st.app d {v:=x,rd:=true}:=by rw [←hs];cases d<;>rfl
 rw [this] at h';exact h'
def unK {α:Type} (gc:Bool) (v:V) (K:V->List Bool->α):α:=
 match v with
 | .gd c x=>x.z7F fun x'=>K x' [!gc||c]
 | .agg cs=>z4V cs fun cs'=>K (.agg cs') []
 | .tup cs=>Wn cs fun cs'=>K (.tup cs') []
 | .t x=>K (.t x) []
 | .zV=>K (.t (.lst [])) []
 | .own _ _ xs=>K (.t (.lst xs)) []
 | .slc k o l s=>K (.slc k o l s) []
 | .ptr k o=>K (.ptr k o) []
 | .mp k=>K (.mp k) []
 | .fn f cs=>K (.fn f cs) []
 | .ub c d=>K (.ub c d) []
 | .ui k=>K (.ui k) []
 | .top=>K .top []
 | .fpt k i o=>K (.fpt k i o) []
 | .gpt k w o=>K (.gpt k w o) []
 | .gsl k w o l s=>K (.gsl k w o l s) []
 | .fow _ _ _ xs=>K (.t (.lst xs)) []
theorem zcP {α:Type} (gc:Bool) (v:V) (K:V->List Bool->α):unK gc v K=K (v.un gc).1.Ww (v.un gc).2:=by
 cases v<;>simp only [unK,z11,wW,V.z4L,V.un,V.Ww,V.qL]
def z2U {α:Type} (gc:Bool) (st:St):List Ar->(List V->List Bool->α)->α
 |[],K=>K [] []
 |x::r,K=>unK gc (x.v st) fun v p=>z2U gc st r fun vs ps=>K (v::vs) (p++ps)
theorem wX {a b:List Bool}:Zg (a++b)↔Zg a/\Zg b:=by
 induction a with
 |nil=>simp [Zg]
 |cons x r ih=>simp [Zg,ih,and_assoc]
theorem z8Z {st:St}:∀{l:List Ar} {vs:List V} {ps:List Bool},z2U true st l (fun vs ps=>some (vs,ps))=some (vs,ps)->Zg ps->(yk st l).map V.Ww=vs:=by
 have key:∀(l:List Ar) {ρ:Type} (K:List V->List Bool->ρ),∃vs ps,z2U true st l K=K vs ps/\(Zg ps->(yk st l).map V.Ww=vs):=by
  intro l
  induction l with
  |nil=>intro ρ K;exact ⟨[],[],rfl,fun _=>rfl⟩
  |cons x r ih=>
   intro ρ K;simp only [z2U,zcP];obtain ⟨vs,ps,h1,h2⟩:=ih fun vs ps=>K (((x.v st).un true).1.Ww::vs) (((x.v st).un true).2++ps);refine ⟨_,_,h1,fun hp=>?_⟩;rw [wX] at hp;simp only [yk,List.map_cons,h2 hp.2,Ar.u];congr 1;congr 1
   cases hv:x.v st<;>simp only [V.un,V.ug] at*
   rename_i c y;have:=hp.1;rw [hv] at this;simp [V.un,Zg] at this;simp [this]
 intro l vs ps h hp;obtain ⟨vs',ps',h1,h2⟩:=key l fun vs ps=>some (vs,ps);rw [h1] at h;simp at h;obtain ⟨rfl,rfl⟩:=h;exact h2 hp
theorem Mid.WK {f:FuncId} {s:Nat} {want gc:Bool} {args:List Ar} {vs:List V} {ps:List Bool} {x:V} (hg:yB want (look st.env s)=some gc) (hv:z2U gc st args (fun vs ps=>some (vs,ps))=some (vs,ps)) (hp:Zg (ps.map fun p=>!gc||p)) (h:gc=true->∃vs',vs=vs'/\z9 P f vs' ⟨[],0⟩ {v:=x}/\V.bds 0 vs'=true) (hx:x.bd 0=true) (hs:Z9 st d (.gd gc x) some=some st')
  (h':Mid P n m R draw all after live k b ((false,false)::fl) ops st'):Mid P n m R draw all after live k b fl (⟨d,some (s,want),.call f args⟩::ops) st:=by
 rw [W0] at hg;simp only [Z9,V.force_eq,ZA,St.ZX,Option.some.injEq] at hs
 have:st'=st.app d {v:= .gd gc x}:=by rw [←hs];cases d<;>rfl
 rw [this] at h';unfold Mid at h'⊢;simp only [evR,evO,hg,zg];refine .inl ⟨{v:=x},?_,⟨rfl,rfl⟩,?_⟩
 ·intro hgc;simp only [Bool.false_eq_true,if_false];intro s;obtain ⟨vs',e1,e2,e3⟩:=h hgc;subst hgc
  have hpp:Zg ps:=by
   have:∀l:List Bool,Zg (l.map fun p=>!true||p)->Zg l:=by
    intro l
    induction l with
    |nil=>exact fun h=>h
    |cons a r ih=>intro h;exact ⟨by simpa using h.1,ih h.2⟩
   exact this ps hp
  refine YK.le (qE.pure _) ?_;rw [z8Z hv hpp,e1];exact e2.pure e3 hx
 ·simpa using h'
def z4a {α:Type} (live:List Nat) (b:Nat) (st:St) (K:St->α):α:=match st with|⟨env,⟨sto,_⟩⟩=>z4R live env fun e=>K ⟨e,⟨sto,b⟩⟩
theorem Mid.done (h:z4a live b st some=some st') (hr:zas draw all after fl.reverse st.env) (h':Run P n m R k st'):Mid P n m R draw all after live k b fl [] st:=by
 obtain ⟨env,⟨sto,nx⟩⟩:=st;simp only [z4a,wU,Option.some.injEq] at h;subst h;exact ⟨hr,h'⟩
theorem Mid.z7C (h:z4a live b st some=some st') (h':Run P n m R k st'):Mid P n m R false all after live k b fl [] st:=
 Mid.done h (fun h=>by cases h) h'
def z3.force {ρ:Type} (o:z3) (K:z3->ρ):ρ:=
 match o with
 | .cells cs=>Wn cs fun cs'=>K (.cells cs')
 | .map kag es s=>K (.map kag es s)
 | .arr n=>K (.arr n)
 | .iter q s u c=>K (.iter q s u c)
 | .gro w cs=>Wn cs fun cs'=>K (.gro w cs')
 | .yJ os=>K (.yJ os)
 | .yh ns=>K (.yh ns)
 | .zP a I=>K (.zP a I)
 | .abs J=>K (.abs J)
theorem z3.force_eq {ρ:Type} (o:z3) (K:z3->ρ):o.force K=K o:=by
 cases o<;>simp only [z3.force,wW]
def z47 {ρ:Type}:List (Nat×z3)->List (Nat×z3)->(List (Nat×z3)->ρ)->ρ
 |s,[],K=>K s
 |s,(k,o)::r,K=>o.force fun o'=>z3a s k o' fun s'=>z47 s' r K
theorem z2F {ρ:Type}:∀(r s:List (Nat×z3)) (K:List (Nat×z3)->ρ),z47 s r K=K (Zj s r)
 |[],s,K=>rfl
 |(k,o)::r,s,K=>by simp only [z47,z3.force_eq,Qc,z2F r,Zj]
def z63 {α ρ:Type}:List α->(List α->ρ)->ρ
 |[],K=>K []
 |x::r,K=>z63 r fun r'=>K (x::r')
theorem z2V {α ρ:Type}:∀(l:List α) (K:List α->ρ),z63 l K=K l
 |[],K=>rfl
 |x::r,K=>z2V r _
def z0M {α ρ:Type}:List (List α)->(List (List α)->ρ)->ρ
 |[],K=>K []
 |x::r,K=>z63 x fun x'=>z0M r fun r'=>K (x'::r')
theorem z1J {α ρ:Type}:∀(l:List (List α)) (K:List (List α)->ρ),z0M l K=K l
 |[],K=>rfl
 |x::r,K=>by simp only [z0M,z2V];exact z1J r _
def z0q {ρ:Type} (b:Nat) (st:St) (d:Option Nat) (o:Out) (K:Nat->St->ρ):ρ:=
 Wp (b+o.n) fun b'=>o.v.force fun v'=>setEnv st d v' fun e=>z47 st.s.sto o.ob fun sto=>match st with|⟨_,⟨_,nx⟩⟩=>K b' ⟨e,⟨sto,nx⟩⟩
theorem z1v {ρ:Type} (b:Nat) (st:St) (d:Option Nat) (o:Out) (K:Nat->St->ρ):z0q b st d o K=K (b+o.n) (st.app d o):=by
 obtain ⟨env,⟨sto,nx⟩⟩:=st;simp only [z0q,YZ,V.force_eq,ZA,z2F]
 cases d<;>rfl
def z4T (b:Nat) (st:St):AOp->Option Out
 | .st n x v=>
  match x.u st with
  | .ptr k o=>
   match zi st.s.sto k with
   |some (.cells cs)=>
    match (v.u st).parts with
    |some vs=>bif Nat.beq vs.length n&&Nat.ble (o+n) cs.length&&vs.all V.ZJ then some {v:= .top,ob:=[(k,.cells (setAt cs o vs))],rd:=true} else none
    |none=>none
   |_=>none
  |_=>none
 | .box n x=>
  match (x.u st).parts with
  |some vs=>bif Nat.beq vs.length n&&vs.all V.ZJ then some {v:= .ptr b 0,ob:=[(b,.cells vs)],n:=1} else none
  |none=>none
 | .alloc zs=>some {v:= .ptr b 0,ob:=[(b,.cells zs)],n:=1}
 | .bsl ow sz zs ps=>
  match ZB st sz zs ps with
  |some xs=>z0M xs fun xs=>bif ye sz xs then (match ow with|true=>(match xs with|[]=>some {v:= .zV}|y::ys=>some {v:= .own b sz (y::ys),ob:=[(b,.arr (y::ys).length)],n:=1})|false=>some {v:= .t (.lst xs)}) else none
  |none=>none
 |_=>none
theorem z9Y {P:Program} {b:Nat} {st:St} {op:AOp} {o:Out} {K:Out->Prop} (h:z4T b st op=some o) (hk:K o):evX P b st K op:=by
 unfold z4T at h;split at h
 ·rename_i nn x v;simp only [evX];split at h
  ·rename_i k oo hx;rw [hx];simp only;split at h
   ·rename_i cs hc;rw [hc];simp only;split at h
    ·rename_i vs hv;rw [hv];simp only
     cases hh:(Nat.beq vs.length nn&&Nat.ble (oo+nn) cs.length&&vs.all V.ZJ) with
     |false=>rw [hh] at h;simp at h
     |true=>
      rw [hh] at h;simp at h;subst h;simp only [Bool.and_eq_true] at hh;refine ⟨⟨?_,hh.2⟩,hk⟩;have h1:=Nat.eq_of_beq_eq_true hh.1.1;have h2:=zLB hh.1.2;simp [h1,h2]
    ·cases h
   ·cases h
  ·cases h
 ·rename_i nn x;simp only [evX];split at h
  ·rename_i vs hv;rw [hv];simp only
   cases hh:(Nat.beq vs.length nn&&vs.all V.ZJ) with
   |false=>rw [hh] at h;simp at h
   |true=>
    rw [hh] at h;simp at h;subst h;simp only [Bool.and_eq_true] at hh;refine ⟨⟨?_,hh.2⟩,hk⟩;have h1:=Nat.eq_of_beq_eq_true hh.1;simp [h1]
  ·cases h
 ·simp at h;subst h;exact hk
 ·rename_i ow sz zs ps;simp only [evX];split at h
  ·rename_i xs hv;rw [hv];simp only [z1J] at h⊢
   cases hh:ye sz xs with
   |false=>rw [hh] at h;simp at h
   |true=>
    rw [hh] at h;refine ⟨rfl,?_⟩
    cases ow with
    |false=>simp at h;subst h;exact hk
    |true=>
     left
     cases xs with
     |nil=>simp at h;subst h;exact hk
     |cons y ys=>simp at h;subst h;exact hk
  ·cases h
 ·cases h
def z6V (b:Nat) (st:St) (d:Option Nat) (op:AOp):Option (Nat×St×Bool×Bool):=
 match z4T b st op with
 |some o=>qP o.rd fun r=>qP (!o.ob.isEmpty||decide (0<o.n)) fun c=>z0q b st d o fun b' st'=>some (b',st',r,c)
 |none=>none
theorem z5C {st:St} {op:AOp} {b:Nat} {o:Out} (h:z4T b st op=some o):zg true st op=none:=by
 cases op<;>first |rfl|(simp [z4T] at h)
variable {b':Nat}
theorem Mid.eff {op:AOp} {r c:Bool} (h:z6V b st d op=some (b',st',r,c)) (h':Mid P n m R draw all after live k b' ((r,c)::fl) ops st'):Mid P n m R draw all after live k b fl (⟨d,none,op⟩::ops) st:=by
 unfold z6V at h;split at h
 ·rename_i o ho;simp only [wO,z1v,Option.some.injEq,Prod.mk.injEq] at h;obtain ⟨rfl,rfl,rfl,rfl⟩:=h;exact Mid.opX (z5C ho) (z9Y ho h')
 ·cases h
theorem Mid.zcY {sz by_ j s nn:Nat} {x y:Ar} {xs ys:List (List T)} (hx:x.u st= .own j s xs) (hy:(y.u st).zy=some (.lst ys)) (hn:zi st.s.sto j=some (.arr nn)) (he:nn=xs.length) (hs:Nat.beq s sz=true) (hl:ye sz ys=true)
  (h1:(xs.length+ys.length)*by_<=140737488355328) (h2:xs.length+ys.length<=9223372036854775807)
  (hst:z0q b st d {v:= .own j sz (xs++ys),ob:=[(j,.arr (xs.length+ys.length))],rd:=true} (fun b' st'=>some (b',st'))=some (b',st'))
  (h':Mid P n m R draw all after live k b' ((true,true)::fl) ops st'):Mid P n m R draw all after live k b fl (⟨d,none,.app sz by_ x y⟩::ops) st:=by
 refine Mid.opX Z ?_;have hs':=Nat.eq_of_beq_eq_true hs;simp only [z1v,Option.some.injEq,Prod.mk.injEq] at hst;obtain ⟨rfl,rfl⟩:=hst;simp only [evX,hx,hy,hn];exact ⟨hs',he,hl,h1,h2,h'⟩
theorem Mid.appMap {α:Type} (f:α->List T) (l1 l2:List α) {sz by_ j s nn:Nat} {x y:Ar} (hx:x.u st= .own j s (l1.map f)) (hy:(y.u st).zy=some (.lst (l2.map f))) (hn:zi st.s.sto j=some (.arr nn)) (he:nn=l1.length) (hs:Nat.beq s sz=true) (hl:∀x,(f x).length=sz)
  (h1:(l1.length+l2.length)*by_<=140737488355328) (h2:l1.length+l2.length<=9223372036854775807)
  (hst:z0q b st d {v:= .own j sz ((l1++l2).map f),ob:=[(j,.arr (l1++l2).length)],rd:=true} (fun b' st'=>some (b',st'))=some (b',st'))
  (h':Mid P n m R draw all after live k b' ((true,true)::fl) ops st'):Mid P n m R draw all after live k b fl (⟨d,none,.app sz by_ x y⟩::ops) st:=
 Mid.zcY hx hy hn (by simpa using he) hs (by simp [ye,hl]) (by simpa using h1) (by simpa using h2) (by rw [←hst];simp) h'
theorem Mid.z86 {α:Type} (f:α->List T) (l2:List α) {sz by_:Nat} {x y:Ar} (hx:x.u st= .zV) (hy:(y.u st).zy=some (.lst (l2.map f))) (hl:∀x,(f x).length=sz)
  (h1:l2.length*by_<=140737488355328) (h2:l2.length<=9223372036854775807)
  (hst:z0q b st d {v:= .own b sz (l2.map f),ob:=[(b,.arr l2.length)],n:=1} (fun b' st'=>some (b',st'))=some (b',st'))
  (h':Mid P n m R draw all after live k b' ((false,true)::fl) ops st'):Mid P n m R draw all after live k b fl (⟨d,none,.app sz by_ x y⟩::ops) st:=by
 refine Mid.opX Z ?_;simp only [z1v,Option.some.injEq,Prod.mk.injEq] at hst;obtain ⟨rfl,rfl⟩:=hst;simp only [evX,hx,hy]
 exact ⟨by simp [ye,hl],by simpa using h1,by simpa using h2,by simpa using h'⟩
theorem Y2 {gc:Bool} {x:Ar} {v:V} {p:List Bool} {t:T} (hx:rd gc st x=(v,p)) (hv:v.zy=some t):Ys (x.v st)=false:=by
 unfold rd at hx;generalize x.v st=u at hx⊢
 cases u<;>simp only [V.un,Prod.mk.injEq] at hx<;>obtain ⟨rfl,_⟩:=hx<;>simp_all [V.zy,Ys]
 rename_i c y _
 cases y<;>simp_all
theorem Mid.elem {sz:Nat} {x i:Ar} {v:V} {p1 p2:List Bool} {kd:IntKind} {z:Int} {xs:List (List T)} {c:List T} (hx:rd true st x=(v,p1)) (hv:v.zy=some (.lst xs)) (hi:rd true st i=(.t (.int kd z),p2)) (hc:xs[z.toNat]?=some c) (hl:(Nat.beq c.length sz&&!(Nat.beq sz 0))=true) (h0:0<=z) (hp:Zg (p1++p2))
  (hs:Z9 st d (.t (.ptr c)) some=some st') (h':Mid P n m R draw all after live k b ((false,false)::fl) ops st'):Mid P n m R draw all after live k b fl (⟨d,none,.ia sz x i⟩::ops) st:=by
 have hl1:c.length=sz/\sz≠0:=by
  simp only [Bool.and_eq_true] at hl;refine ⟨Nat.eq_of_beq_eq_true hl.1,?_⟩;rintro rfl;simp at hl
 have hev:zg true st (.ia sz x i)=some (.t (.ptr c),p1++(p2++[decide (0<=z)])):=by
  simp only [zg,hx,hi]
  cases v<;>simp_all [V.zy]
 simp only [Z9,V.force_eq,ZA,St.ZX,Option.some.injEq] at hs
 have e:st'=st.app d {v:= .t (.ptr c)}:=by rw [←hs];cases d<;>rfl
 rw [e] at h';unfold Mid at h'⊢;simp only [evR,evO,evU,hev,Za,Y2 hx hv]
 refine ⟨?_,by simpa using h'⟩
 have hpa:∀(a b:List Bool),Zg (a++b)↔Zg a/\Zg b:=by
  intro a b
  induction a with
  |nil=>simp [Zg]
  |cons x r ih=>simp [Zg,ih,and_assoc]
 rw [hpa] at hp;simp [hpa,hp.1,hp.2,Zg,h0]
theorem Mid.val {op:AOp} {v:V} {ps:List Bool} (hev:zg true st op=some (v,ps)) (hl:Za st op=false) (hp:Zg ps) (hs:Z9 st d v some=some st')
  (h':Mid P n m R draw all after live k b ((false,false)::fl) ops st'):Mid P n m R draw all after live k b fl (⟨d,none,op⟩::ops) st:=by
 simp only [Z9,V.force_eq,ZA,St.ZX,Option.some.injEq] at hs
 have e:st'=st.app d {v:=v}:=by rw [←hs];cases d<;>rfl
 rw [e] at h';unfold Mid at h'⊢;simp only [evR,evO,evU,hev,hl]
 exact ⟨hp,by simpa using h'⟩
theorem Mid.zek {x y:Ar} {i jn:Nat} {j:Int} (hx:rd true st x=(.t (.int .i64 i),[])) (hy:rd true st y=(.t (.int .i64 j),[])) (hj:Wp j.toNat some=some jn) (hjn:j=(jn:Int)) (h2:i+jn<=9223372036854775807) (hs:Z9 st d (.t (.int .i64 ((i+jn:Nat):Int))) some=some st')
  (h':Mid P n m R draw all after live k b ((false,false)::fl) ops st'):Mid P n m R draw all after live k b fl (⟨d,none,.bin .add x y⟩::ops) st:=
 Mid.val (v:= .t (.int .i64 ((i+jn:Nat):Int))) (ps:=[]) (by subst hjn;simp only [zg,hx,hy,z14];simp;exact wrap64 (by omega) (by omega)) rfl trivial hs h'
theorem Mid.zdY {x y:Ar} {i j:Int} (hx:rd true st x=(.t (.int .i64 i),[])) (hy:rd true st y=(.t (.int .i64 j),[])) (h1:-9223372036854775808<=i+j) (h2:i+j<=9223372036854775807) (hs:Z9 st d (.t (.int .i64 (i+j))) some=some st')
  (h':Mid P n m R draw all after live k b ((false,false)::fl) ops st'):Mid P n m R draw all after live k b fl (⟨d,none,.bin .add x y⟩::ops) st:=
 Mid.val (v:= .t (.int .i64 (i+j))) (ps:=[]) (by simp only [zg,hx,hy,z14];simp [wrap64 h1 h2]) rfl trivial hs h'
theorem Mid.zcQ {α:Type} {f:α->List T} {l:List α} {x:Ar} {v:V} (hx:rd true st x=(v,[])) (hv:v.zy=some (.lst (l.map f))) (hs:Z9 st d (.t (.int .i64 l.length)) some=some st')
  (h':Mid P n m R draw all after live k b ((false,false)::fl) ops st'):Mid P n m R draw all after live k b fl (⟨d,none,.len x⟩::ops) st:=by
 refine Mid.val (v:= .t (.int .i64 l.length)) (ps:=[]) ?_ (Y2 hx hv) trivial hs h';simp only [zg,hx]
 cases v<;>simp_all [V.zy]
theorem Mid.ze {α:Type} {f:α->List T} {l:List α} {e:α} {sz j:Nat} {x i:Ar} {v:V} {kd:IntKind} (hx:rd true st x=(v,[])) (hv:v.zy=some (.lst (l.map f))) (hi:rd true st i=(.t (.int kd j),[])) (hc:l[j]?=some e) (hl:(Nat.beq (f e).length sz&&!(Nat.beq sz 0))=true)
  (hs:Z9 st d (.t (.ptr (f e))) some=some st') (h':Mid P n m R draw all after live k b ((false,false)::fl) ops st'):Mid P n m R draw all after live k b fl (⟨d,none,.ia sz x i⟩::ops) st:=
 Mid.elem hx hv hi (by simp [hc]) hl (by simp) trivial hs h'
theorem Mid.byte {x i:Ar} {kd:IntKind} {j:Nat} {s:List UInt8} {c:UInt8} (hx:rd true st x=(.t (.str s),[])) (hi:rd true st i=(.t (.int kd j),[])) (hc:s[j]?=some c)
  (hs:Z9 st d (.t (.int .u8 c.toNat)) some=some st') (h':Mid P n m R draw all after live k b ((false,false)::fl) ops st'):Mid P n m R draw all after live k b fl (⟨d,none,.ixs x i⟩::ops) st:=
 Mid.val (v:= .t (.int .u8 c.toNat)) (ps:=[true]) (by simp only [zg,hx,hi];simp [hc]) rfl ⟨rfl,trivial⟩ hs h'
theorem Mid.z8F {op:AOp} {s:Nat} {want gc:Bool} {v:V} {ps:List Bool} (hg:yB want (look st.env s)=some gc) (hev:zg gc st op=some (v,ps)) (hl:Za st op=false) (hp:Zg (ps.map fun p=>!gc||p)) (hs:Z9 st d (.gd gc v) some=some st')
  (h':Mid P n m R draw all after live k b ((false,false)::fl) ops st'):Mid P n m R draw all after live k b fl (⟨d,some (s,want),op⟩::ops) st:=by
 rw [W0] at hg;simp only [Z9,V.force_eq,ZA,St.ZX,Option.some.injEq] at hs
 have e:st'=st.app d {v:= .gd gc v}:=by rw [←hs];cases d<;>rfl
 rw [e] at h';unfold Mid at h'⊢;simp only [evR,evO,hg,hev,hl]
 exact ⟨hp,by simpa using h'⟩
theorem Mid.zdF {s:Nat} {want gc:Bool} {x i:Ar} {kd:IntKind} {j:Nat} {str:List UInt8} {c:UInt8} {p1 p2:List Bool} (hg:yB want (look st.env s)=some gc) (hx:rd gc st x=(.t (.str str),p1)) (hi:rd gc st i=(.t (.int kd j),p2)) (hc:str[j]?=some c)
  (hp1:Zg (p1.map fun p=>!gc||p)) (hp2:Zg (p2.map fun p=>!gc||p))
  (hs:Z9 st d (.gd gc (.t (.int .u8 c.toNat))) some=some st') (h':Mid P n m R draw all after live k b ((false,false)::fl) ops st'):Mid P n m R draw all after live k b fl (⟨d,some (s,want),.ixs x i⟩::ops) st:=
 Mid.z8F (v:= .t (.int .u8 c.toNat)) (ps:=p1++(p2++[true])) hg (by simp only [zg,hx,hi];simp [hc]) rfl (by simp only [List.map_append,wX];exact ⟨hp1,hp2,by simp [Zg]⟩) hs h'
theorem Mid.zbF {α:Type} {f:α->List T} {l:List α} {s:Nat} {want gc:Bool} {x:Ar} {v:V} {p1:List Bool} (hg:yB want (look st.env s)=some gc) (hx:rd gc st x=(v,p1)) (hv:v.zy=some (.lst (l.map f))) (hp1:Zg (p1.map fun p=>!gc||p)) (hs:Z9 st d (.gd gc (.t (.int .i64 l.length))) some=some st')
  (h':Mid P n m R draw all after live k b ((false,false)::fl) ops st'):Mid P n m R draw all after live k b fl (⟨d,some (s,want),.len x⟩::ops) st:=by
 refine Mid.z8F (v:= .t (.int .i64 l.length)) (ps:=p1) hg ?_ (Y2 hx hv) hp1 hs h';simp only [zg,hx]
 cases v<;>simp_all [V.zy]
theorem Mid.z9u {α:Type} {f:α->List T} {l:List α} {e:α} {sz j:Nat} {s:Nat} {want gc:Bool} {x i:Ar} {v:V} {kd:IntKind} {p1 p2:List Bool} (hg:yB want (look st.env s)=some gc) (hx:rd gc st x=(v,p1)) (hv:v.zy=some (.lst (l.map f))) (hi:rd gc st i=(.t (.int kd j),p2)) (hc:l[j]?=some e) (hl:(Nat.beq (f e).length sz&&!(Nat.beq sz 0))=true)
  (hp1:Zg (p1.map fun p=>!gc||p)) (hp2:Zg (p2.map fun p=>!gc||p)) (hs:Z9 st d (.gd gc (.t (.ptr (f e)))) some=some st') (h':Mid P n m R draw all after live k b ((false,false)::fl) ops st'):Mid P n m R draw all after live k b fl (⟨d,some (s,want),.ia sz x i⟩::ops) st:=by
 have hl1:(f e).length=sz/\sz≠0:=by
  simp only [Bool.and_eq_true] at hl;refine ⟨Nat.eq_of_beq_eq_true hl.1,?_⟩;rintro rfl;simp at hl
 refine Mid.z8F (v:= .t (.ptr (f e))) (ps:=p1++(p2++[true])) hg ?_ (Y2 hx hv) (by simp only [List.map_append,wX];exact ⟨hp1,hp2,by simp [Zg]⟩) hs h';simp only [zg,hx,hi]
 cases v<;>simp_all [V.zy]
theorem Mid.zec {x y:Ar} {i j:Nat} (hx:rd true st x=(.t (.int .i64 i),[])) (hy:rd true st y=(.t (.int .i64 j),[])) (h2:i+j<=9223372036854775807) (hs:Z9 st d (.t (.int .i64 ((i+j:Nat):Int))) some=some st')
  (h':Mid P n m R draw all after live k b ((false,false)::fl) ops st'):Mid P n m R draw all after live k b fl (⟨d,none,.bin .add x y⟩::ops) st:=
 Mid.val (v:= .t (.int .i64 ((i+j:Nat):Int))) (ps:=[]) (by simp only [zg,hx,hy,z14];simp;exact wrap64 (by omega) (by omega)) rfl trivial hs h'
theorem Mid.zdo {s:Nat} {want gc:Bool} {x y:Ar} {i j:Int} {p1 p2:List Bool} (hg:yB want (look st.env s)=some gc) (hx:rd gc st x=(.t (.int .i64 i),p1)) (hy:rd gc st y=(.t (.int .i64 j),p2)) (h1:-9223372036854775808<=i - j) (h2:i - j<=9223372036854775807)
  (hp1:Zg (p1.map fun p=>!gc||p)) (hp2:Zg (p2.map fun p=>!gc||p)) (hs:Z9 st d (.gd gc (.t (.int .i64 (i - j)))) some=some st')
  (h':Mid P n m R draw all after live k b ((false,false)::fl) ops st'):Mid P n m R draw all after live k b fl (⟨d,some (s,want),.bin .sub x y⟩::ops) st:=
 Mid.z8F (v:= .t (.int .i64 (i - j))) (ps:=p1++(p2++[])) hg (by simp only [zg,hx,hy,z14];simp [wrap64 h1 h2]) rfl (by simp only [List.map_append,wX];exact ⟨hp1,hp2,trivial⟩) hs h'
theorem Mid.zdD {α:Type} {f:α->List T} {l:List α} {sz:Nat} {x hi:Ar} {v:V} {kd:IntKind} {j:Nat} (hx:rd true st x=(v,[])) (hv:v.zy=some (.lst (l.map f))) (hh:rd true st hi=(.t (.int kd j),[])) (hj:j<=l.length) (hsz:∀x,(f x).length=sz) (hs:Z9 st d (.t (.lst ((l.take j).map f))) some=some st')
  (h':Mid P n m R draw all after live k b ((false,false)::fl) ops st'):Mid P n m R draw all after live k b fl (⟨d,none,.sll sz x none (some hi)⟩::ops) st:=
 Mid.val (v:= .t (.lst ((l.take j).map f))) (ps:=[true,true,true,true]) (by simp only [zg,hx,hv,bnd,hh];simp [hj,ye,hsz]) (Y2 hx hv) ⟨rfl,rfl,rfl,rfl,trivial⟩ hs h'
theorem Mid.z6W {α:Type} {f:α->List T} {l:List α} {sz:Nat} {x lo:Ar} {v:V} {kd:IntKind} {j:Nat} (hx:rd true st x=(v,[])) (hv:v.zy=some (.lst (l.map f))) (hh:rd true st lo=(.t (.int kd j),[])) (hj:j<=l.length) (hsz:∀x,(f x).length=sz) (hs:Z9 st d (.t (.lst ((l.drop j).map f))) some=some st')
  (h':Mid P n m R draw all after live k b ((false,false)::fl) ops st'):Mid P n m R draw all after live k b fl (⟨d,none,.sll sz x (some lo) none⟩::ops) st:=
 Mid.val (v:= .t (.lst ((l.drop j).map f))) (ps:=[true,true,true,true]) (by simp only [zg,hx,hv,bnd,hh];simp [hj,ye,hsz,List.take_of_length_le]) (Y2 hx hv) ⟨rfl,rfl,rfl,rfl,trivial⟩ hs h'
theorem Mid.Y1 {op:AOp} {s:Nat} {want gc:Bool} {l:Bool} (hg:yB want (look st.env s)=some gc) (hf:gc=false) (hn:zg gc st op=none) (hl:Za st op=l) (hs:Z9 st d (.gd false .top) some=some st')
  (h':Mid P n m R draw all after live k b ((l,false)::fl) ops st'):Mid P n m R draw all after live k b fl (⟨d,some (s,want),op⟩::ops) st:=by
 rw [W0] at hg;subst hl;simp only [Z9,V.force_eq,ZA,St.ZX,Option.some.injEq] at hs
 have e:st'=st.app d {v:= .gd false .top,rd:=Za st op}:=by rw [←hs];cases d<;>rfl
 rw [e] at h';unfold Mid at h'⊢;simp only [evR,evO,hg,hn]
 refine z6n (fun h=>by rw [hf] at h;cases h) (fun _=>?_)
 simpa using h'
theorem z0x {α:Type} {k:Nat} {o:α}:∀{a b:List (Nat×α)},zi a k=some o->zi (a++b) k=some o
 |[],b,h=>by simp [zi] at h
 |(j,x)::r,b,h=>by
  simp only [List.cons_append,zi] at h⊢;split
  ·rename_i e;simpa [e] using h
  ·rename_i e;simp only [e,if_false] at h;exact z0x h
theorem z5.wA {s:S} {st:St} {rs:List WC} {x r:V} {rd:Bool} {ex:List (Nat×z3)} (hr:z0A st rs=some r) (he:st.s.sto=s.sto++ex) (hn:Nat.ble s.nxt st.s.nxt=true) (hs:zG s.nxt s.sto=true) (h:LeR s.nxt st.s r x):z5 s {v:=x,rd:=rd} rs .ret st:=by
 refine ⟨r,hr,zLB hn,h,.same fun k o hk=>⟨?_,WW hs k o hk⟩⟩;rw [he];exact z0x hk
theorem Run.list {α β:Type} {k k':List It} {c:zW} {st:St} (l:List α) (stf:Nat->β->St) (Inv:List α->Nat->β->Prop) (j:Nat) (b0:β) (hk:ZT 200 k= .c (.loop c)::k') (h0:Inv l 0 b0)
  (h1:Nat.ble m j=true) (h2:Nat.ble j st.s.nxt=true) (h3:Nat.ble j (stf 0 b0).s.nxt=true) (he:LeE j (stf 0 b0).s.nxt st.env (stf 0 b0).env) (hs:LeS j (stf 0 b0).s.nxt st.s.sto (stf 0 b0).s.sto)
  (hend:∀b,Inv [] l.length b->Run P n m R (.c c:: .lp c::k') (stf l.length b))
  (hstep:∀(i:Nat) (x:α) (r:List α) (b:β),l[i]?=some x->i<l.length->l.drop (i+1)=r->Inv (x::r) i b->(∀b',Inv r (i+1) b'->Run P n m R (.lp c::k') (stf (i+1) b'))->Run P n m R (.c c:: .lp c::k') (stf i b)):
  Run P n m R k st:=by
 refine Run.loop hk (Run.WJ j Z ?_ h1 h2 h3 he hs)
 have key:∀(r:List α) (i:Nat) (b:β),l.drop i=r->i<=l.length->Inv r i b->Run P n m R (.lp c::k') (stf i b):=by
  intro r
  induction r with
  |nil=>
   intro i b hd hi hb;have:=zaK hd
   have e:i=l.length:=by omega
   subst e;exact Run.z1y (hend b hb)
  |cons x r ih=>
   intro i b hd hi hb;obtain ⟨e1,e2,e3⟩:=z0V hd;exact Run.z1y (hstep i x r b e1 e3 e2 hb fun b' hb'=>ih (i+1) b' e2 (by omega) hb')
 exact key l 0 b0 Z (Nat.zero_le _) h0
theorem Run.zdU {β:Type} {k k':List It} {c:zW} {st:St} (stf:β->St) (Inv:β->Prop) (μ:β->Nat) (j:Nat) (b0:β) (hk:ZT 200 k= .c (.loop c)::k') (h0:Inv b0)
  (h1:Nat.ble m j=true) (h2:Nat.ble j st.s.nxt=true) (h3:Nat.ble j (stf b0).s.nxt=true) (he:LeE j (stf b0).s.nxt st.env (stf b0).env) (hs:LeS j (stf b0).s.nxt st.s.sto (stf b0).s.sto)
  (hstep:∀(b:β),Inv b->(∀b',μ b'<μ b->Inv b'->Run P n m R (.lp c::k') (stf b'))->Run P n m R (.c c:: .lp c::k') (stf b)):Run P n m R k st:=by
 refine Run.loop hk (Run.WJ j Z ?_ h1 h2 h3 he hs)
 have key:∀(f:Nat) (b:β),μ b<f->Inv b->Run P n m R (.lp c::k') (stf b):=by
  intro f
  induction f with
  |zero=>intro b h;omega
  |succ f ih=>intro b h hb;exact Run.z1y (hstep b hb fun b' hlt hb'=>ih b' (by omega) hb')
 exact key (μ b0+1) b0 (by omega) h0
inductive Cfg where
 |run (k:List It) (st:St)
 |mid (draw:Bool) (all:List AO) (after:List (List Nat)) (live:List Nat) (k:List It) (b:Nat) (fl:List (Bool×Bool)) (ops:List AO) (st:St)
def Go (P:Program) (n m:Nat) (R:St->Prop):Cfg->Prop
 | .run k st=>Run P n m R k st
 | .mid draw all after live k b fl ops st=>Mid P n m R draw all after live k b fl ops st
def AOp.zdy:AOp->Bool
 | .ia _ _ _=>true
 | .z9B _ _ _ _=>true
 | .ixs _ _=>true
 | .ixa _ _ _ _ _=>true
 | .len _=>true
 | .bin .add _ _=>true
 | .bin .sub _ _=>true
 | .bin .mul _ _=>true
 | .bin .quo _ _=>true
 | .bin .rem _ _=>true
 | .sls _ _ _=>true
 | .sll _ _ _ _=>true
 | .z5z _=>true
 | .app _ _ _ _=>true
 | .z5D _ _ _ _=>true
 | .nw _=>true
 | .call _ _=>true
 | .Qo _ _=>true
 |_=>false
def wH {ρ:Type}:Nat->Cfg->List (List Bool)->(Cfg->List (List Bool)->ρ)->ρ
 |0,c,ps,K=>K c ps
 |f+1,.run k st,ps,K=>
  match ZT 200 k with
  | .c (.region draw ops after live)::k'=>Wp st.s.nxt fun b=>wH f (.mid draw ops after live k' b [] ops st) ps K
  |k'=>K (.run k' st) ps
 |f+1,.mid draw all after live k b fl [] st,ps,K=>
  match draw with
  |false=>z4a live b st fun st'=>wH f (.run k st') ps K
  |true=>z4a live b st fun st'=>wH f (.run k st') ([indep all after fl.reverse st.env]::ps) K
 |f+1,.mid draw all after live k b fl (⟨d,g,op⟩::ops) st,ps,K=>
  match op.zdy with
  |true=>K (.mid draw all after live k b fl (⟨d,g,op⟩::ops) st) ps
  |false=>
   match g with
   |none=>
    match z6V b st d op with
    |some (b',st',r,c)=>wH f (.mid draw all after live k b' ((r,c)::fl) ops st') ps K
    |none=>
     match z0m st d op with
     |some ([],st',l)=>wH f (.mid draw all after live k b ((l,false)::fl) ops st') ps K
     |some (p::q,st',l)=>wH f (.mid draw all after live k b ((l,false)::fl) ops st') ((p::q)::ps) K
     |none=>K (.mid draw all after live k b fl (⟨d,none,op⟩::ops) st) ps
   |some (s,want)=>
    match stepG st d s want op with
    |some ([],st',l)=>wH f (.mid draw all after live k b ((l,false)::fl) ops st') ps K
    |some (p::q,st',l)=>wH f (.mid draw all after live k b ((l,false)::fl) ops st') ((p::q)::ps) K
    |none=>K (.mid draw all after live k b fl (⟨d,some (s,want),op⟩::ops) st) ps
def z0s:List (List Bool)->Prop
 |[]=>True
 |p::r=>Zg p/\z0s r
theorem Yn {ρ:Type}:∀(f:Nat) (c:Cfg) (ps:List (List Bool)) (K:Cfg->List (List Bool)->ρ),∃c' ps',wH f c ps K=K c' ps'/\(z0s ps'->z0s ps/\(Go P n m R c'->Go P n m R c))
 |0,c,ps,K=>⟨c,ps,rfl,fun h=>⟨h,fun h=>h⟩⟩
 |f+1,.run k st,ps,K=>by
  simp only [wH];split
  ·rename_i draw ops after live k' hk;simp only [YZ];obtain ⟨c',ps',h1,h2⟩:=Yn f (.mid draw ops after live k' st.s.nxt [] ops st) ps K;refine ⟨c',ps',h1,fun h=>⟨(h2 h).1,fun hg=>Run.region hk (YZ _ _) ((h2 h).2 hg)⟩⟩
  ·exact ⟨_,_,rfl,fun h=>⟨h,fun hg=>Run.adv 200 Z hg⟩⟩
 |f+1,.mid draw all after live k b fl [] st,ps,K=>by
  cases draw with
  |false=>
   simp only [wH];obtain ⟨env,⟨sto,nx⟩⟩:=st;simp only [z4a,wU];obtain ⟨c',ps',h1,h2⟩:=Yn f (.run k ⟨wB live env,⟨sto,b⟩⟩) ps K;exact ⟨c',ps',h1,fun h=>⟨(h2 h).1,fun hg=>Mid.z7C (st':=⟨wB live env,⟨sto,b⟩⟩) (by simp only [z4a,wU]) ((h2 h).2 hg)⟩⟩
  |true=>
   simp only [wH];obtain ⟨env,⟨sto,nx⟩⟩:=st;simp only [z4a,wU];obtain ⟨c',ps',h1,h2⟩:=Yn f (.run k ⟨wB live env,⟨sto,b⟩⟩) ([indep all after fl.reverse env]::ps) K;refine ⟨c',ps',h1,fun h=>?_⟩;obtain ⟨⟨g1,g2⟩,g3⟩:=h2 h;exact ⟨g2,fun hg=>Mid.done (st':=⟨wB live env,⟨sto,b⟩⟩) (by simp only [z4a,wU]) (fun _=>g1.1) (g3 hg)⟩
 |f+1,.mid draw all after live k b fl (⟨d,g,op⟩::ops) st,ps,K=>by
  simp only [wH];split
  ·exact ⟨_,_,rfl,fun h=>⟨h,fun h=>h⟩⟩
  ·split
   ·split
    ·rename_i b' st' r c he;obtain ⟨c',ps',h1,h2⟩:=Yn f (.mid draw all after live k b' ((r,c)::fl) ops st') ps K;exact ⟨c',ps',h1,fun h=>⟨(h2 h).1,fun hg=>Mid.eff he ((h2 h).2 hg)⟩⟩
    ·split
     ·rename_i st' l hs;obtain ⟨c',ps',h1,h2⟩:=Yn f (.mid draw all after live k b ((l,false)::fl) ops st') ps K;exact ⟨c',ps',h1,fun h=>⟨(h2 h).1,fun hg=>Mid.zcf hs ((h2 h).2 hg)⟩⟩
     ·rename_i p q st' l hs;obtain ⟨c',ps',h1,h2⟩:=Yn f (.mid draw all after live k b ((l,false)::fl) ops st') ((p::q)::ps) K;exact ⟨c',ps',h1,fun h=>⟨(h2 h).1.2,fun hg=>Mid.pure hs (h2 h).1.1 ((h2 h).2 hg)⟩⟩
     ·exact ⟨_,_,rfl,fun h=>⟨h,fun h=>h⟩⟩
   ·split
    ·rename_i st' l hs;obtain ⟨c',ps',h1,h2⟩:=Yn f (.mid draw all after live k b ((l,false)::fl) ops st') ps K;exact ⟨c',ps',h1,fun h=>⟨(h2 h).1,fun hg=>Mid.grd hs trivial ((h2 h).2 hg)⟩⟩
    ·rename_i p q st' l hs;obtain ⟨c',ps',h1,h2⟩:=Yn f (.mid draw all after live k b ((l,false)::fl) ops st') ((p::q)::ps) K;exact ⟨c',ps',h1,fun h=>⟨(h2 h).1.2,fun hg=>Mid.grd hs (h2 h).1.1 ((h2 h).2 hg)⟩⟩
    ·exact ⟨_,_,rfl,fun h=>⟨h,fun h=>h⟩⟩
def Cfg.zdt:Cfg->Bool
 | .run k _=>match ZT 200 k with| .c (.region _ _ _ _)::_=>true|_=>false
 | .mid _ _ _ _ _ _ _ [] _=>true
 | .mid _ _ _ _ _ b _ (⟨d,g,op⟩::_) st=>
  match op.zdy with
  |true=>false
  |false=>
   match g with
   |none=>match z6V b st d op with|some _=>true|none=>match z0m st d op with|some _=>true|none=>false
   |some (s,want)=>match stepG st d s want op with|some _=>true|none=>false
def WA (f:Nat) (c:Cfg):Option (Cfg×List (List Bool)):=
 match c.zdt with
 |true=>wH f c [] fun c' ps=>some (c',ps)
 |false=>none
theorem Go.WA {f:Nat} {c c':Cfg} {ps:List (List Bool)} (h:WA f c=some (c',ps)) (hp:z0s ps) (h':Go P n m R c'):Go P n m R c:=by
 unfold Go.GB.WA at h;split at h
 ·obtain ⟨c2,ps2,h1,h2⟩:=Yn (P:=P) (n:=n) (m:=m) (R:=R) f c [] fun c' ps=>some (c',ps);rw [h1] at h;simp at h;obtain ⟨rfl,rfl⟩:=h;exact (h2 hp).2 h'
 ·cases h
theorem Run.WA {f:Nat} {k:List It} {st:St} {c':Cfg} {ps:List (List Bool)} (h:WA f (.run k st)=some (c',ps)) (hp:z0s ps) (h':Go P n m R c'):Run P n m R k st:=Go.WA (c:= .run k st) h hp h'
theorem Mid.WA {f:Nat} {c':Cfg} {ps:List (List Bool)} (h:WA f (.mid draw all after live k b fl ops st)=some (c',ps)) (hp:z0s ps) (h':Go P n m R c'):Mid P n m R draw all after live k b fl ops st:=Go.WA (c:= .mid draw all after live k b fl ops st) h hp h'
attribute [irreducible] Run Mid
end
section
variable {P:Program} {n m:Nat} {R:St->Prop}
variable {draw:Bool} {all:List AO} {after:List (List Nat)} {live:List Nat} {k:List It} {b:Nat} {fl:List (Bool×Bool)} {ops:List AO} {st st':St} {d:Option Nat} {b':Nat}
theorem fR {k:List It} {st:St} {c':Cfg} {ps:List (List Bool)} (h:WA 200 (.run k st)=some (c',ps)) (h':Go P n m R c') (hp:z0s ps:=by (repeat' (first |exact trivial|exact Bool.not_or_self _|exact qF _|exact qI _|exact grd3 _ _|exact qJ _ _|refine And.intro ?_ ?_|exact rfl|(simp;done)|(simp<;>omega)));done):Run P n m R k st:=
 Run.WA h hp h'
theorem fM {c':Cfg} {ps:List (List Bool)} (h:WA 200 (.mid draw all after live k b fl ops st)=some (c',ps)) (h':Go P n m R c') (hp:z0s ps:=by (repeat' (first |exact trivial|exact Bool.not_or_self _|exact qF _|exact qI _|exact grd3 _ _|exact qJ _ _|refine And.intro ?_ ?_|exact rfl|(simp;done)|(simp<;>omega)));done):Mid P n m R draw all after live k b fl ops st:=
 Mid.WA h hp h'
theorem aL {x y:Ar} {i jn:Nat} {j:Int} (hx:rd true st x=(.t (.int .i64 i),[])) (hy:rd true st y=(.t (.int .i64 j),[])) (hj:Wp j.toNat some=some jn) (hjn:j=(jn:Int)) (hs:Z9 st d (.t (.int .i64 ((i+jn:Nat):Int))) some=some st') (h':Mid P n m R draw all after live k b ((false,false)::fl) ops st') (h2:i+jn<=9223372036854775807:=by omega):Mid P n m R draw all after live k b fl (⟨d,none,.bin .add x y⟩::ops) st:=
 Mid.zek hx hy hj hjn h2 hs h'
theorem aN {x y:Ar} {i j:Nat} (hx:rd true st x=(.t (.int .i64 i),[])) (hy:rd true st y=(.t (.int .i64 j),[])) (hs:Z9 st d (.t (.int .i64 ((i+j:Nat):Int))) some=some st') (h':Mid P n m R draw all after live k b ((false,false)::fl) ops st') (h2:i+j<=9223372036854775807:=by omega):Mid P n m R draw all after live k b fl (⟨d,none,.bin .add x y⟩::ops) st:=
 Mid.zec hx hy h2 hs h'
theorem a64 {x y:Ar} {i j:Int} (hx:rd true st x=(.t (.int .i64 i),[])) (hy:rd true st y=(.t (.int .i64 j),[])) (hs:Z9 st d (.t (.int .i64 (i+j))) some=some st') (h':Mid P n m R draw all after live k b ((false,false)::fl) ops st') (h1:-9223372036854775808<=i+j:=by omega) (h2:i+j<=9223372036854775807:=by omega):Mid P n m R draw all after live k b fl (⟨d,none,.bin .add x y⟩::ops) st:=
 Mid.zdY hx hy h1 h2 hs h'
theorem lM {α:Type} {f:α->List T} {l:List α} {x:Ar} {v:V} (hx:rd true st x=(v,[])) (hv:v.zy=some (.lst (l.map f))) (hs:Z9 st d (.t (.int .i64 l.length)) some=some st') (h':Mid P n m R draw all after live k b ((false,false)::fl) ops st'):Mid P n m R draw all after live k b fl (⟨d,none,.len x⟩::ops) st:=
 Mid.zcQ hx hv hs h'
theorem lTo {α:Type} {f:α->List T} {l:List α} {sz:Nat} {x hi:Ar} {v:V} {kd:IntKind} {j:Nat} (hx:rd true st x=(v,[])) (hv:v.zy=some (.lst (l.map f))) (hh:rd true st hi=(.t (.int kd j),[])) (hs:Z9 st d (.t (.lst ((l.take j).map f))) some=some st') (h':Mid P n m R draw all after live k b ((false,false)::fl) ops st') (hj:j<=l.length:=by omega) (hsz:∀x,(f x).length=sz:=by intros;rfl):Mid P n m R draw all after live k b fl (⟨d,none,.sll sz x none (some hi)⟩::ops) st:=
 Mid.zdD hx hv hh hj hsz hs h'
theorem z7x {α:Type} {f:α->List T} {l:List α} {sz:Nat} {x lo:Ar} {v:V} {kd:IntKind} {j:Nat} (hx:rd true st x=(v,[])) (hv:v.zy=some (.lst (l.map f))) (hh:rd true st lo=(.t (.int kd j),[])) (hs:Z9 st d (.t (.lst ((l.drop j).map f))) some=some st') (h':Mid P n m R draw all after live k b ((false,false)::fl) ops st') (hj:j<=l.length:=by omega) (hsz:∀x,(f x).length=sz:=by intros;rfl):Mid P n m R draw all after live k b fl (⟨d,none,.sll sz x (some lo) none⟩::ops) st:=
 Mid.z6W hx hv hh hj hsz hs h'
theorem lMG {α:Type} {f:α->List T} {l:List α} {s:Nat} {want gc:Bool} {x:Ar} {v:V} {p1:List Bool} (hg:yB want (look st.env s)=some gc) (hx:rd gc st x=(v,p1)) (hv:v.zy=some (.lst (l.map f))) (hs:Z9 st d (.gd gc (.t (.int .i64 l.length))) some=some st') (h':Mid P n m R draw all after live k b ((false,false)::fl) ops st') (hp1:Zg (p1.map fun p=>!gc||p):=by (repeat' (first |exact trivial|exact Bool.not_or_self _|exact qF _|exact qI _|exact grd3 _ _|exact qJ _ _|refine And.intro ?_ ?_|exact rfl|(simp;done)|(simp<;>omega)));done):Mid P n m R draw all after live k b fl (⟨d,some (s,want),.len x⟩::ops) st:=
 Mid.zbF hg hx hv hp1 hs h'
theorem zdE {s:Nat} {want gc:Bool} {x y:Ar} {i j:Int} {p1 p2:List Bool} (hg:yB want (look st.env s)=some gc) (hx:rd gc st x=(.t (.int .i64 i),p1)) (hy:rd gc st y=(.t (.int .i64 j),p2)) (hs:Z9 st d (.gd gc (.t (.int .i64 (i - j)))) some=some st') (h':Mid P n m R draw all after live k b ((false,false)::fl) ops st') (h1:-9223372036854775808<=i - j:=by omega) (h2:i - j<=9223372036854775807:=by omega) (hp1:Zg (p1.map fun p=>!gc||p):=by (repeat' (first |exact trivial|exact Bool.not_or_self _|exact qF _|exact qI _|exact grd3 _ _|exact qJ _ _|refine And.intro ?_ ?_|exact rfl|(simp;done)|(simp<;>omega)));done) (hp2:Zg (p2.map fun p=>!gc||p):=by (repeat' (first |exact trivial|exact Bool.not_or_self _|exact qF _|exact qI _|exact grd3 _ _|exact qJ _ _|refine And.intro ?_ ?_|exact rfl|(simp;done)|(simp<;>omega)));done):Mid P n m R draw all after live k b fl (⟨d,some (s,want),.bin .sub x y⟩::ops) st:=
 Mid.zdo hg hx hy h1 h2 hp1 hp2 hs h'
theorem p0 {op:AOp} {l:Bool} (h:z0m st d op=some ([],st',l)) (h':Mid P n m R draw all after live k b ((l,false)::fl) ops st'):Mid P n m R draw all after live k b fl (⟨d,none,op⟩::ops) st:=
 Mid.zcf h h'
theorem gr {op:AOp} {s:Nat} {want:Bool} {ps:List Bool} {l:Bool} (h:stepG st d s want op=some (ps,st',l)) (h':Mid P n m R draw all after live k b ((l,false)::fl) ops st') (hp:Zg ps:=by (repeat' (first |exact trivial|exact Bool.not_or_self _|exact qF _|exact qI _|exact grd3 _ _|exact qJ _ _|refine And.intro ?_ ?_|exact rfl|(simp;done)|(simp<;>omega)));done):Mid P n m R draw all after live k b fl (⟨d,some (s,want),op⟩::ops) st:=
 Mid.grd h hp h'
theorem pu {op:AOp} {ps:List Bool} {l:Bool} (h:z0m st d op=some (ps,st',l)) (h':Mid P n m R draw all after live k b ((l,false)::fl) ops st') (hp:Zg ps:=by (repeat' (first |exact trivial|exact Bool.not_or_self _|exact qF _|exact qI _|exact grd3 _ _|exact qJ _ _|refine And.intro ?_ ?_|exact rfl|(simp;done)|(simp<;>omega)));done):Mid P n m R draw all after live k b fl (⟨d,none,op⟩::ops) st:=
 Mid.pure h hp h'
theorem byG {s:Nat} {want gc:Bool} {x i:Ar} {kd:IntKind} {j:Nat} {str:List UInt8} {c:UInt8} {p1 p2:List Bool} (hg:yB want (look st.env s)=some gc) (hx:rd gc st x=(.t (.str str),p1)) (hi:rd gc st i=(.t (.int kd j),p2)) (hc:str[j]?=some c) (hs:Z9 st d (.gd gc (.t (.int .u8 c.toNat))) some=some st') (h':Mid P n m R draw all after live k b ((false,false)::fl) ops st') (hp1:Zg (p1.map fun p=>!gc||p):=by (repeat' (first |exact trivial|exact Bool.not_or_self _|exact qF _|exact qI _|exact grd3 _ _|exact qJ _ _|refine And.intro ?_ ?_|exact rfl|(simp;done)|(simp<;>omega)));done) (hp2:Zg (p2.map fun p=>!gc||p):=by (repeat' (first |exact trivial|exact Bool.not_or_self _|exact qF _|exact qI _|exact grd3 _ _|exact qJ _ _|refine And.intro ?_ ?_|exact rfl|(simp;done)|(simp<;>omega)));done):Mid P n m R draw all after live k b fl (⟨d,some (s,want),.ixs x i⟩::ops) st:=
 Mid.zdF hg hx hi hc hp1 hp2 hs h'
theorem elG {α:Type} {f:α->List T} {l:List α} {e:α} {sz j:Nat} {s:Nat} {want gc:Bool} {x i:Ar} {v:V} {kd:IntKind} {p1 p2:List Bool} (hg:yB want (look st.env s)=some gc) (hx:rd gc st x=(v,p1)) (hv:v.zy=some (.lst (l.map f))) (hi:rd gc st i=(.t (.int kd j),p2)) (hc:l[j]?=some e) (hl:(Nat.beq (f e).length sz&&!(Nat.beq sz 0))=true) (hs:Z9 st d (.gd gc (.t (.ptr (f e)))) some=some st') (h':Mid P n m R draw all after live k b ((false,false)::fl) ops st') (hp1:Zg (p1.map fun p=>!gc||p):=by (repeat' (first |exact trivial|exact Bool.not_or_self _|exact qF _|exact qI _|exact grd3 _ _|exact qJ _ _|refine And.intro ?_ ?_|exact rfl|(simp;done)|(simp<;>omega)));done) (hp2:Zg (p2.map fun p=>!gc||p):=by (repeat' (first |exact trivial|exact Bool.not_or_self _|exact qF _|exact qI _|exact grd3 _ _|exact qJ _ _|refine And.intro ?_ ?_|exact rfl|(simp;done)|(simp<;>omega)));done):Mid P n m R draw all after live k b fl (⟨d,some (s,want),.ia sz x i⟩::ops) st:=
 Mid.z9u hg hx hv hi hc hl hp1 hp2 hs h'
theorem caG {f:FuncId} {s:Nat} {want gc:Bool} {args:List Ar} {vs:List V} {ps:List Bool} {x:V} (hg:yB want (look st.env s)=some gc) (hv:z2U gc st args (fun vs ps=>some (vs,ps))=some (vs,ps)) (h:gc=true->∃vs',vs=vs'/\z9 P f vs' ⟨[],0⟩ {v:=x}/\V.bds 0 vs'=true) (hx:x.bd 0=true) (hs:Z9 st d (.gd gc x) some=some st') (h':Mid P n m R draw all after live k b ((false,false)::fl) ops st') (hp:Zg (ps.map fun p=>!gc||p):=by (repeat' (first |exact trivial|exact Bool.not_or_self _|exact qF _|exact qI _|exact grd3 _ _|exact qJ _ _|refine And.intro ?_ ?_|exact rfl|(simp;done)|(simp<;>omega)));done):Mid P n m R draw all after live k b fl (⟨d,some (s,want),.call f args⟩::ops) st:=
 Mid.WK hg hv hp h hx hs h'
theorem apM {α:Type} (f:α->List T) (l1:List α) (l2:List α) {sz by_ j s nn:Nat} {x y:Ar} (hx:x.u st= .own j s (l1.map f)) (hy:(y.u st).zy=some (.lst (l2.map f))) (hn:zi st.s.sto j=some (.arr nn)) (hs:Nat.beq s sz=true) (hst:z0q b st d {v:= .own j sz ((l1++l2).map f),ob:=[(j,.arr (l1++l2).length)],rd:=true} (fun b' st'=>some (b',st'))=some (b',st')) (h':Mid P n m R draw all after live k b' ((true,true)::fl) ops st') (he:nn=l1.length:=by first |rfl|simp) (hl:∀x,(f x).length=sz:=by intros;rfl) (h1:(l1.length+l2.length)*by_<=140737488355328:=by simp;omega) (h2:l1.length+l2.length<=9223372036854775807:=by simp;omega):Mid P n m R draw all after live k b fl (⟨d,none,.app sz by_ x y⟩::ops) st:=
 Mid.appMap f l1 l2 hx hy hn he hs hl h1 h2 hst h'
theorem apN {α:Type} (f:α->List T) (l2:List α) {sz by_:Nat} {x y:Ar} (hx:x.u st= .zV) (hy:(y.u st).zy=some (.lst (l2.map f))) (hst:z0q b st d {v:= .own b sz (l2.map f),ob:=[(b,.arr l2.length)],n:=1} (fun b' st'=>some (b',st'))=some (b',st')) (h':Mid P n m R draw all after live k b' ((false,true)::fl) ops st') (hl:∀x,(f x).length=sz:=by intros;rfl) (h1:l2.length*by_<=140737488355328:=by simp;omega) (h2:l2.length<=9223372036854775807:=by simp;omega):Mid P n m R draw all after live k b fl (⟨d,none,.app sz by_ x y⟩::ops) st:=
 Mid.z86 f l2 hx hy hl h1 h2 hst h'
theorem zk {k k':List It} {c:zW} {st st':St} (j:Nat) (hk:ZT 200 k= .lp c::k') (h:Run P n m R (.lp c::k') st') (h1:Nat.ble m j=true) (h2:Nat.ble j st.s.nxt=true) (h3:Nat.ble j st'.s.nxt=true) (he:LeE j st'.s.nxt st.env st'.env:=by repeat' (first |exact trivial|exact LeX.t|exact LeX.top|exact LeX.zp (zLB rfl) (zLB rfl)|exact LeX.Z2|exact LeX.Z3|exact LeX.same rfl|exact LeX.tEq (by simp)|exact LeX.ownEq (by simp) (zLB rfl)|exact LeX.nilGsl (zLB rfl)|exact LeX.fowT|exact LeX.gslEq (by first |rfl|omega|simp) (by first |rfl|omega|simp) (by first |rfl|omega|(simp;done)|(simp;omega)) (zLB rfl)|exact LeX.fowEq (by first |rfl|omega) (by simp) (zLB rfl)|exact LeO.groE (by first |rfl|omega|simp) (za.gE (by first |rfl|simp) (fun _=>rfl))|refine LeO.groE (by first |rfl|omega) ?_|exact za.gE (by first |rfl|simp) (fun _=>rfl)|exact LeO.yh (by first |rfl|simp)|exact LeX.tEq (by congr 1<;>omega)|exact Or.inr ⟨zLB rfl,zLB rfl,rfl⟩|refine Or.inl ⟨zLB rfl,_,rfl,?_⟩|refine LeO.cells ?_|exact LeO.arr rfl|exact LeO.arr (by simp)|exact LeO.mE (by first |rfl|simp) (by first |exact Or.inl rfl|exact Or.inr rfl)|exact LeO.cE (by first |rfl|simp)|exact za.cE (by first |rfl|simp)|refine LeO.map (by first |rfl|simp) ?_ (by first |exact Or.inl rfl|exact Or.inr rfl)|exact LeO.iter (by first |rfl|simp) (zLB rfl)|refine za.cons ?_ ?_|exact za.nil|refine And.intro ?_ ?_)) (hs:LeS j st'.s.nxt st.s.sto st'.s.sto:=by repeat' (first |exact trivial|exact LeX.t|exact LeX.top|exact LeX.zp (zLB rfl) (zLB rfl)|exact LeX.Z2|exact LeX.Z3|exact LeX.same rfl|exact LeX.tEq (by simp)|exact LeX.ownEq (by simp) (zLB rfl)|exact LeX.nilGsl (zLB rfl)|exact LeX.fowT|exact LeX.gslEq (by first |rfl|omega|simp) (by first |rfl|omega|simp) (by first |rfl|omega|(simp;done)|(simp;omega)) (zLB rfl)|exact LeX.fowEq (by first |rfl|omega) (by simp) (zLB rfl)|exact LeO.groE (by first |rfl|omega|simp) (za.gE (by first |rfl|simp) (fun _=>rfl))|refine LeO.groE (by first |rfl|omega) ?_|exact za.gE (by first |rfl|simp) (fun _=>rfl)|exact LeO.yh (by first |rfl|simp)|exact LeX.tEq (by congr 1<;>omega)|exact Or.inr ⟨zLB rfl,zLB rfl,rfl⟩|refine Or.inl ⟨zLB rfl,_,rfl,?_⟩|refine LeO.cells ?_|exact LeO.arr rfl|exact LeO.arr (by simp)|exact LeO.mE (by first |rfl|simp) (by first |exact Or.inl rfl|exact Or.inr rfl)|exact LeO.cE (by first |rfl|simp)|exact za.cE (by first |rfl|simp)|refine LeO.map (by first |rfl|simp) ?_ (by first |exact Or.inl rfl|exact Or.inr rfl)|exact LeO.iter (by first |rfl|simp) (zLB rfl)|refine za.cons ?_ ?_|exact za.nil|refine And.intro ?_ ?_)):Run P n m R k st:=
 Run.WJ j hk h h1 h2 h3 he hs
theorem Wc {k k':List It} {c:zW} {st st':St} (j:Nat) (hk:ZT 200 k= .c c::k') (h:Run P n m R (.c c::k') st') (h1:Nat.ble m j=true) (h2:Nat.ble j st.s.nxt=true) (h3:Nat.ble j st'.s.nxt=true) (he:LeE j st'.s.nxt st.env st'.env:=by repeat' (first |exact trivial|exact LeX.t|exact LeX.top|exact LeX.zp (zLB rfl) (zLB rfl)|exact LeX.Z2|exact LeX.Z3|exact LeX.same rfl|exact LeX.tEq (by simp)|exact LeX.ownEq (by simp) (zLB rfl)|exact LeX.nilGsl (zLB rfl)|exact LeX.fowT|exact LeX.gslEq (by first |rfl|omega|simp) (by first |rfl|omega|simp) (by first |rfl|omega|(simp;done)|(simp;omega)) (zLB rfl)|exact LeX.fowEq (by first |rfl|omega) (by simp) (zLB rfl)|exact LeO.groE (by first |rfl|omega|simp) (za.gE (by first |rfl|simp) (fun _=>rfl))|refine LeO.groE (by first |rfl|omega) ?_|exact za.gE (by first |rfl|simp) (fun _=>rfl)|exact LeO.yh (by first |rfl|simp)|exact LeX.tEq (by congr 1<;>omega)|exact Or.inr ⟨zLB rfl,zLB rfl,rfl⟩|refine Or.inl ⟨zLB rfl,_,rfl,?_⟩|refine LeO.cells ?_|exact LeO.arr rfl|exact LeO.arr (by simp)|exact LeO.mE (by first |rfl|simp) (by first |exact Or.inl rfl|exact Or.inr rfl)|exact LeO.cE (by first |rfl|simp)|exact za.cE (by first |rfl|simp)|refine LeO.map (by first |rfl|simp) ?_ (by first |exact Or.inl rfl|exact Or.inr rfl)|exact LeO.iter (by first |rfl|simp) (zLB rfl)|refine za.cons ?_ ?_|exact za.nil|refine And.intro ?_ ?_)) (hs:LeS j st'.s.nxt st.s.sto st'.s.sto:=by repeat' (first |exact trivial|exact LeX.t|exact LeX.top|exact LeX.zp (zLB rfl) (zLB rfl)|exact LeX.Z2|exact LeX.Z3|exact LeX.same rfl|exact LeX.tEq (by simp)|exact LeX.ownEq (by simp) (zLB rfl)|exact LeX.nilGsl (zLB rfl)|exact LeX.fowT|exact LeX.gslEq (by first |rfl|omega|simp) (by first |rfl|omega|simp) (by first |rfl|omega|(simp;done)|(simp;omega)) (zLB rfl)|exact LeX.fowEq (by first |rfl|omega) (by simp) (zLB rfl)|exact LeO.groE (by first |rfl|omega|simp) (za.gE (by first |rfl|simp) (fun _=>rfl))|refine LeO.groE (by first |rfl|omega) ?_|exact za.gE (by first |rfl|simp) (fun _=>rfl)|exact LeO.yh (by first |rfl|simp)|exact LeX.tEq (by congr 1<;>omega)|exact Or.inr ⟨zLB rfl,zLB rfl,rfl⟩|refine Or.inl ⟨zLB rfl,_,rfl,?_⟩|refine LeO.cells ?_|exact LeO.arr rfl|exact LeO.arr (by simp)|exact LeO.mE (by first |rfl|simp) (by first |exact Or.inl rfl|exact Or.inr rfl)|exact LeO.cE (by first |rfl|simp)|exact za.cE (by first |rfl|simp)|refine LeO.map (by first |rfl|simp) ?_ (by first |exact Or.inl rfl|exact Or.inr rfl)|exact LeO.iter (by first |rfl|simp) (zLB rfl)|refine za.cons ?_ ?_|exact za.nil|refine And.intro ?_ ?_)):Run P n m R k st:=
 Run.zdx j hk h h1 h2 h3 he hs
theorem zx {α β:Type} {k k':List It} {c:zW} {st:St} (l:List α) (stf:Nat->β->St) (Inv:List α->Nat->β->Prop) (j:Nat) (b0:β) (hk:ZT 200 k= .c (.loop c)::k') (h0:Inv l 0 b0) (h1:Nat.ble m j=true) (h2:Nat.ble j st.s.nxt=true) (h3:Nat.ble j (stf 0 b0).s.nxt=true) (hend:∀b,Inv [] l.length b->Run P n m R (.c c:: .lp c::k') (stf l.length b)) (hstep:∀(i:Nat) (x:α) (r:List α) (b:β),l[i]?=some x->i<l.length->l.drop (i+1)=r->Inv (x::r) i b->(∀b',Inv r (i+1) b'->Run P n m R (.lp c::k') (stf (i+1) b'))->Run P n m R (.c c:: .lp c::k') (stf i b)) (he:LeE j (stf 0 b0).s.nxt st.env (stf 0 b0).env:=by repeat' (first |exact trivial|exact LeX.t|exact LeX.top|exact LeX.zp (zLB rfl) (zLB rfl)|exact LeX.Z2|exact LeX.Z3|exact LeX.same rfl|exact LeX.tEq (by simp)|exact LeX.ownEq (by simp) (zLB rfl)|exact LeX.nilGsl (zLB rfl)|exact LeX.fowT|exact LeX.gslEq (by first |rfl|omega|simp) (by first |rfl|omega|simp) (by first |rfl|omega|(simp;done)|(simp;omega)) (zLB rfl)|exact LeX.fowEq (by first |rfl|omega) (by simp) (zLB rfl)|exact LeO.groE (by first |rfl|omega|simp) (za.gE (by first |rfl|simp) (fun _=>rfl))|refine LeO.groE (by first |rfl|omega) ?_|exact za.gE (by first |rfl|simp) (fun _=>rfl)|exact LeO.yh (by first |rfl|simp)|exact LeX.tEq (by congr 1<;>omega)|exact Or.inr ⟨zLB rfl,zLB rfl,rfl⟩|refine Or.inl ⟨zLB rfl,_,rfl,?_⟩|refine LeO.cells ?_|exact LeO.arr rfl|exact LeO.arr (by simp)|exact LeO.mE (by first |rfl|simp) (by first |exact Or.inl rfl|exact Or.inr rfl)|exact LeO.cE (by first |rfl|simp)|exact za.cE (by first |rfl|simp)|refine LeO.map (by first |rfl|simp) ?_ (by first |exact Or.inl rfl|exact Or.inr rfl)|exact LeO.iter (by first |rfl|simp) (zLB rfl)|refine za.cons ?_ ?_|exact za.nil|refine And.intro ?_ ?_)) (hs:LeS j (stf 0 b0).s.nxt st.s.sto (stf 0 b0).s.sto:=by repeat' (first |exact trivial|exact LeX.t|exact LeX.top|exact LeX.zp (zLB rfl) (zLB rfl)|exact LeX.Z2|exact LeX.Z3|exact LeX.same rfl|exact LeX.tEq (by simp)|exact LeX.ownEq (by simp) (zLB rfl)|exact LeX.nilGsl (zLB rfl)|exact LeX.fowT|exact LeX.gslEq (by first |rfl|omega|simp) (by first |rfl|omega|simp) (by first |rfl|omega|(simp;done)|(simp;omega)) (zLB rfl)|exact LeX.fowEq (by first |rfl|omega) (by simp) (zLB rfl)|exact LeO.groE (by first |rfl|omega|simp) (za.gE (by first |rfl|simp) (fun _=>rfl))|refine LeO.groE (by first |rfl|omega) ?_|exact za.gE (by first |rfl|simp) (fun _=>rfl)|exact LeO.yh (by first |rfl|simp)|exact LeX.tEq (by congr 1<;>omega)|exact Or.inr ⟨zLB rfl,zLB rfl,rfl⟩|refine Or.inl ⟨zLB rfl,_,rfl,?_⟩|refine LeO.cells ?_|exact LeO.arr rfl|exact LeO.arr (by simp)|exact LeO.mE (by first |rfl|simp) (by first |exact Or.inl rfl|exact Or.inr rfl)|exact LeO.cE (by first |rfl|simp)|exact za.cE (by first |rfl|simp)|refine LeO.map (by first |rfl|simp) ?_ (by first |exact Or.inl rfl|exact Or.inr rfl)|exact LeO.iter (by first |rfl|simp) (zLB rfl)|refine za.cons ?_ ?_|exact za.nil|refine And.intro ?_ ?_)):Run P n m R k st:=
 Run.list l stf Inv j b0 hk h0 h1 h2 h3 he hs hend hstep
theorem zcI {β:Type} {k k':List It} {c:zW} {st:St} (stf:β->St) (Inv:β->Prop) (μ:β->Nat) (j:Nat) (b0:β) (hk:ZT 200 k= .c (.loop c)::k') (h0:Inv b0) (h1:Nat.ble m j=true) (h2:Nat.ble j st.s.nxt=true) (h3:Nat.ble j (stf b0).s.nxt=true) (hstep:∀(b:β),Inv b->(∀b',μ b'<μ b->Inv b'->Run P n m R (.lp c::k') (stf b'))->Run P n m R (.c c:: .lp c::k') (stf b)) (he:LeE j (stf b0).s.nxt st.env (stf b0).env:=by repeat' (first |exact trivial|exact LeX.t|exact LeX.top|exact LeX.zp (zLB rfl) (zLB rfl)|exact LeX.Z2|exact LeX.Z3|exact LeX.same rfl|exact LeX.tEq (by simp)|exact LeX.ownEq (by simp) (zLB rfl)|exact LeX.nilGsl (zLB rfl)|exact LeX.fowT|exact LeX.gslEq (by first |rfl|omega|simp) (by first |rfl|omega|simp) (by first |rfl|omega|(simp;done)|(simp;omega)) (zLB rfl)|exact LeX.fowEq (by first |rfl|omega) (by simp) (zLB rfl)|exact LeO.groE (by first |rfl|omega|simp) (za.gE (by first |rfl|simp) (fun _=>rfl))|refine LeO.groE (by first |rfl|omega) ?_|exact za.gE (by first |rfl|simp) (fun _=>rfl)|exact LeO.yh (by first |rfl|simp)|exact LeX.tEq (by congr 1<;>omega)|exact Or.inr ⟨zLB rfl,zLB rfl,rfl⟩|refine Or.inl ⟨zLB rfl,_,rfl,?_⟩|refine LeO.cells ?_|exact LeO.arr rfl|exact LeO.arr (by simp)|exact LeO.mE (by first |rfl|simp) (by first |exact Or.inl rfl|exact Or.inr rfl)|exact LeO.cE (by first |rfl|simp)|exact za.cE (by first |rfl|simp)|refine LeO.map (by first |rfl|simp) ?_ (by first |exact Or.inl rfl|exact Or.inr rfl)|exact LeO.iter (by first |rfl|simp) (zLB rfl)|refine za.cons ?_ ?_|exact za.nil|refine And.intro ?_ ?_)) (hs:LeS j (stf b0).s.nxt st.s.sto (stf b0).s.sto:=by repeat' (first |exact trivial|exact LeX.t|exact LeX.top|exact LeX.zp (zLB rfl) (zLB rfl)|exact LeX.Z2|exact LeX.Z3|exact LeX.same rfl|exact LeX.tEq (by simp)|exact LeX.ownEq (by simp) (zLB rfl)|exact LeX.nilGsl (zLB rfl)|exact LeX.fowT|exact LeX.gslEq (by first |rfl|omega|simp) (by first |rfl|omega|simp) (by first |rfl|omega|(simp;done)|(simp;omega)) (zLB rfl)|exact LeX.fowEq (by first |rfl|omega) (by simp) (zLB rfl)|exact LeO.groE (by first |rfl|omega|simp) (za.gE (by first |rfl|simp) (fun _=>rfl))|refine LeO.groE (by first |rfl|omega) ?_|exact za.gE (by first |rfl|simp) (fun _=>rfl)|exact LeO.yh (by first |rfl|simp)|exact LeX.tEq (by congr 1<;>omega)|exact Or.inr ⟨zLB rfl,zLB rfl,rfl⟩|refine Or.inl ⟨zLB rfl,_,rfl,?_⟩|refine LeO.cells ?_|exact LeO.arr rfl|exact LeO.arr (by simp)|exact LeO.mE (by first |rfl|simp) (by first |exact Or.inl rfl|exact Or.inr rfl)|exact LeO.cE (by first |rfl|simp)|exact za.cE (by first |rfl|simp)|refine LeO.map (by first |rfl|simp) ?_ (by first |exact Or.inl rfl|exact Or.inr rfl)|exact LeO.iter (by first |rfl|simp) (zLB rfl)|refine za.cons ?_ ?_|exact za.nil|refine And.intro ?_ ?_)):Run P n m R k st:=
 Run.zdU stf Inv μ j b0 hk h0 h1 h2 h3 he hs hstep
end
theorem leSA {m m':Nat} {s s':List (Nat×z3)} (h:LeS m m' s s':=by repeat' (first |exact trivial|exact LeX.t|exact LeX.top|exact LeX.zp (Nat.le_of_ble_eq_true rfl) (Nat.le_of_ble_eq_true rfl)|exact LeX.Z2|exact LeX.Z3|exact LeX.same rfl|exact LeX.tEq (by simp)|exact LeX.ownEq (by simp) (Nat.le_of_ble_eq_true rfl)|exact LeX.tEq (by congr 1<;>omega)|exact Or.inr ⟨Nat.le_of_ble_eq_true rfl,Nat.le_of_ble_eq_true rfl,rfl⟩|refine Or.inl ⟨Nat.le_of_ble_eq_true rfl,_,rfl,?_⟩|refine LeO.cells ?_|exact LeO.arr rfl|exact LeO.arr (by simp)|exact LeO.mE (by first |rfl|simp) (by first |exact Or.inl rfl|exact Or.inr rfl)|exact LeO.zE (by first |rfl|simp) (by first |exact Or.inl rfl|exact Or.inr rfl)|exact LeO.cE (by first |rfl|simp)|exact za.cE (by first |rfl|simp)|exact LeO.zJ (by assumption)|exact LeO.zP (fun _ _ h=>h)|refine LeO.map (by first |rfl|simp) ?_ (by first |exact Or.inl rfl|exact Or.inr rfl)|exact LeO.iter (by first |rfl|simp) (Nat.le_of_ble_eq_true rfl)|refine za.cons ?_ ?_|exact za.nil|refine And.intro ?_ ?_)):LeS m m' s s':=h
theorem leEA {m m':Nat} {s s':List (Nat×V)} (h:LeE m m' s s':=by repeat' (first |exact trivial|exact LeX.t|exact LeX.top|exact LeX.zp (Nat.le_of_ble_eq_true rfl) (Nat.le_of_ble_eq_true rfl)|exact LeX.Z2|exact LeX.Z3|exact LeX.same rfl|exact LeX.tEq (by simp)|exact LeX.ownEq (by simp) (Nat.le_of_ble_eq_true rfl)|exact LeX.tEq (by congr 1<;>omega)|exact Or.inr ⟨Nat.le_of_ble_eq_true rfl,Nat.le_of_ble_eq_true rfl,rfl⟩|refine Or.inl ⟨Nat.le_of_ble_eq_true rfl,_,rfl,?_⟩|refine LeO.cells ?_|exact LeO.arr rfl|exact LeO.arr (by simp)|exact LeO.mE (by first |rfl|simp) (by first |exact Or.inl rfl|exact Or.inr rfl)|exact LeO.zE (by first |rfl|simp) (by first |exact Or.inl rfl|exact Or.inr rfl)|exact LeO.cE (by first |rfl|simp)|exact za.cE (by first |rfl|simp)|exact LeO.zJ (by assumption)|exact LeO.zP (fun _ _ h=>h)|refine LeO.map (by first |rfl|simp) ?_ (by first |exact Or.inl rfl|exact Or.inr rfl)|exact LeO.iter (by first |rfl|simp) (Nat.le_of_ble_eq_true rfl)|refine za.cons ?_ ?_|exact za.nil|refine And.intro ?_ ?_)):LeE m m' s s':=h
structure z6F {κ:Type} (ks:List KSh) (ek:κ->List T):Prop where
 ok:∀x,zT ks (ek x)=true
 eq:∀x y,ZL (ek x) (ek y)=true->x=y
 refl:∀x,ZL (ek x) (ek x)=true
section
variable {κ ν:Type} [DecidableEq κ]
variable {ks:List KSh} {ek:κ->List T} {ev:ν->T}
theorem z6F.iff (he:z6F ks ek) (x y:κ):ZL (ek x) (ek y)=decide (x=y):=by
 by_cases h:x=y
 ·subst h;simp [he.refl]
 ·cases hk:ZL (ek x) (ek y) with
  |false=>simp [h]
  |true=>exact absurd (he.eq x y hk) h
end
theorem z3.zF {κ ν:Type} (ρ:Nat->Nat) (kag:Bool) (ek:κ->List T) (ev:ν->T) (l:List (κ×ν)) (sx:Option (Nat×List Nat)):(z3.map kag (mE ek ev l) sx).ren ρ= .map kag (mE ek ev l) sx:=by
 simp [z3.ren,mE,V.ren,Function.comp_def]
def z0K {ρ:Type}:List (Nat×z3)->List (Nat×z3)->(List (Nat×z3)->ρ)->ρ
 |s,[],K=>K s
 |s,(k,o)::r,K=>z3a s k o fun s'=>z0K s' r K
theorem z12 {ρ:Type}:∀(r s:List (Nat×z3)) (K:List (Nat×z3)->ρ),z0K s r K=K (Zj s r)
 |[],s,K=>rfl
 |(k,o)::r,s,K=>by simp only [z0K,Qc,z12 r,Zj]
def Wa {ρ:Type} (b:Nat) (st:St) (d:Option Nat) (o:Out) (K:Nat->St->ρ):ρ:=
 Wp (b+o.n) fun b'=>o.v.force fun v'=>setEnv st d v' fun e=>z0K st.s.sto o.ob fun sto=>match st with|⟨_,⟨_,nx⟩⟩=>K b' ⟨e,⟨sto,nx⟩⟩
theorem Y6 {ρ:Type} (b:Nat) (st:St) (d:Option Nat) (o:Out) (K:Nat->St->ρ):Wa b st d o K=K (b+o.n) (st.app d o):=by
 obtain ⟨env,⟨sto,nx⟩⟩:=st;simp only [Wa,YZ,V.force_eq,ZA,z12]
 cases d<;>rfl
section
variable {P:Program} {n m:Nat} {R:St->Prop}
variable {draw:Bool} {all:List AO} {after:List (List Nat)} {live:List Nat} {k:List It} {b:Nat} {fl:List (Bool×Bool)} {ops:List AO} {st st':St} {d:Option Nat} {b':Nat}
theorem Mid.zej {op:AOp} {v:V} {ps:List Bool} (hev:zg true st op=some (v,ps)) (hl:Za st op=true) (hp:Zg ps) (hs:Z9 st d v some=some st')
  (h':Mid P n m R draw all after live k b ((true,false)::fl) ops st'):Mid P n m R draw all after live k b fl (⟨d,none,op⟩::ops) st:=by
 simp only [Z9,V.force_eq,ZA,St.ZX,Option.some.injEq] at hs
 have e:st'=st.app d {v:=v,rd:=true}:=by rw [←hs];cases d<;>rfl
 rw [e] at h';unfold Mid at h'⊢;simp only [evR,evO,evU,hev,hl]
 exact ⟨hp,by simpa using h'⟩
theorem z8m {gc:Bool} {v:V} {q:Nat} {p:List Bool} (h:v.un gc=(.mp q,p)):yY v=true:=by
 cases v<;>simp [V.un] at h<;>simp_all [yY]
section
variable {κ ν:Type} [DecidableEq κ] {ks:List KSh} {kag:Bool} {ek:κ->List T} {ev:ν->T} {l:List (κ×ν)} {sx:Option (Nat×List Nat)} {zv vk:V} {q:Nat} {z:ν} {x y:Ar} {p1 p2:List Bool}
end
theorem Mid.zcK {κ ν:Type} (ek:κ->List T) (ev:ν->T) {kag vag:Bool} (hst:Wa b st d {v:= .mp b,ob:=[(b,.map kag (mE ek ev []) (some (0,[])))],n:=1} (fun b' st'=>some (b',st'))=some (b',st'))
  (h':Mid P n m R draw all after live k b' ((false,true)::fl) ops st'):Mid P n m R draw all after live k b fl (⟨d,none,.z0u kag vag⟩::ops) st:=by
 refine Mid.opX Z ?_;simp only [Y6,Option.some.injEq,Prod.mk.injEq] at hst;obtain ⟨rfl,rfl⟩:=hst;simp only [evX];exact h'
theorem z5.chg {s:S} {out:Out} {rs:List WC} {r:V} (hr:z0A st rs=some r) (hn:Nat.ble (s.nxt+out.n) st.s.nxt=true) (h:LeR (s.nxt+out.n) st.s r out.v) (hs:LeS (s.nxt+out.n) (s.nxt+out.n) st.s.sto (Zj s.sto out.ob)):z5 s out rs .ret st:=
 ⟨r,hr,zLB hn,h,.le hs⟩
def zt (r:List Nat) (b j:Nat):Nat:=match r[j]? with|some k=>k|none=>b+(j - r.length)
def zbX (r:List Nat) (b n k:Nat):Option Nat:=
 match r.findIdx? (fun x=>Nat.beq x k) with
 |some j=>some j
 |none=>if b<=k/\k<b+n then some (r.length+(k - b)) else none
def WL:List Nat->Bool
 |[]=>true
 |x::r=>!(r.any (Nat.beq x))&&WL r
theorem z38:∀{r:List Nat},WL r=true->r.Nodup
 |[],_=>List.nodup_nil
 |x::r,h=>by
  simp only [WL,Bool.and_eq_true,Bool.not_eq_true'] at h;refine List.nodup_cons.2 ⟨fun hm=>?_,z38 h.2⟩
  have:r.any (Nat.beq x)=true:=List.any_eq_true.2 ⟨x,hm,by simp⟩
  rw [this] at h;cases h.1
theorem zah {r:List Nat} {b n:Nat} (h1:WL r=true) (h2:r.all (fun k=>Nat.blt k b)=true):Rn (zt r b) (zbX r b n) r.length b n:=by
 have hnd:=z38 h1
 have hlt:∀k,k∈r->k<b:=by
  intro k hk;have:=List.all_eq_true.1 h2 k hk;simpa [Nat.blt_eq] using this
 have beq:∀x k,Nat.beq x k=decide (x=k):=by
  intro x k;by_cases e:x=k
  ·subst e;simp
  ·cases hb:Nat.beq x k with
   |false=>simp [e]
   |true=>exact absurd (Nat.eq_of_beq_eq_true hb) e
 refine ⟨fun k j h=>?_,fun j hj=>?_,fun j hj=>?_,fun j hj hj'=>?_⟩
 ·unfold zbX at h;split at h
  ·rename_i i hi;simp at h;subst h;rw [List.findIdx?_eq_some_iff_getElem] at hi;obtain ⟨hi,h3,_⟩:=hi
   refine ⟨?_,by omega⟩
   simp [zt,hi];exact Nat.eq_of_beq_eq_true h3
  ·split at h
   ·rename_i hh;simp at h;subst h
    refine ⟨?_,by omega⟩
    simp [zt];omega
   ·cases h
 ·unfold zt;by_cases hl:j<r.length
  ·simp only [List.getElem?_eq_getElem hl];unfold zbX
   have:r.findIdx? (fun x=>Nat.beq x r[j])=some j:=by
    rw [List.findIdx?_eq_some_iff_getElem]
    refine ⟨hl,by simp,fun i hi=>?_⟩
    rw [beq];simp only [decide_eq_true_eq];exact fun e=>absurd ((List.getElem_inj hnd).1 e) (by omega)
   rw [this]
  ·rw [List.getElem?_eq_none (by omega)];simp only;unfold zbX
   have:r.findIdx? (fun x=>Nat.beq x (b+(j - r.length)))=none:=by
    rw [List.findIdx?_eq_none_iff];intro x hx;have:=hlt x hx;rw [beq];simp;omega
   rw [this];simp only;rw [if_pos (by omega)];congr 1;omega
 ·simp only [zt,List.getElem?_eq_getElem hj];exact hlt _ (List.getElem_mem _)
 ·simp only [zt,List.getElem?_eq_none (by omega:r.length<=j)]
def z8A (ρ:Nat->Nat) (sto s1:List (Nat×z3)):Nat->Prop
 |0=>True
 |j+1=>zi sto (ρ j)=(zi s1 j).map (z3.ren ρ)/\z8A ρ sto s1 j
theorem z0L {ρ:Nat->Nat} {sto s1:List (Nat×z3)}:∀{m:Nat},z8A ρ sto s1 m->∀j,j<m->zi sto (ρ j)=(zi s1 j).map (z3.ren ρ)
 |0,_,j,hj=>by omega
 |m+1,h,j,hj=>by
  by_cases e:j=m
  ·subst e;exact h.1
  ·exact z0L h.2 j (by omega)
def z9m (s1:List (Nat×z3)) (m n:Nat):List (Nat×z3)->Bool
 |[]=>true
 |(k,_)::r=>Nat.blt k (m+n)&&(s1.any (fun e=>Nat.beq e.1 k)||Nat.ble m k)&&z9m s1 m n r
theorem za5 {s:List (Nat×z3)} {k:Nat} (h:s.any (fun e=>Nat.beq e.1 k)=true):zi s k≠none:=by
 induction s with
 |nil=>simp at h
 |cons e r ih=>
  obtain ⟨j,o⟩:=e;simp only [List.any_cons,Bool.or_eq_true] at h;simp only [zi];split
  ·simp
  ·rename_i hne
   rcases h with h|h
   ·exact absurd (Nat.eq_of_beq_eq_true h) hne
   ·exact ih h
theorem z3m {s1:List (Nat×z3)} {m n:Nat}:∀{ob:List (Nat×z3)},z9m s1 m n ob=true->∀k o,(k,o)∈ob->k<m+n/\(zi s1 k≠none∨m<=k)
 |[],_,k,o,h=>by cases h
 |(j,x)::r,h,k,o,hk=>by
  simp only [z9m,Bool.and_eq_true,Bool.or_eq_true] at h
  rcases List.mem_cons.1 hk with e|hk
  ·cases e
   refine ⟨by simpa [Nat.blt_eq] using h.1.1,?_⟩
   rcases h.1.2 with h|h
   ·exact .inl (za5 h)
   ·exact .inr (zLB h)
  ·exact z3m h.2 k o hk
def wx (ρ:Nat->Nat):List (Nat×z3)->List (Nat×z3)
 |[]=>[]
 |(k,o)::r=>(ρ k,o.ren ρ)::wx ρ r
theorem z1p (ρ:Nat->Nat):∀(l:List (Nat×z3)),wx ρ l=l.map fun e=>(ρ e.1,e.2.ren ρ)
 |[]=>rfl
 |(k,o)::r=>by simp [wx,z1p ρ r]
theorem Mid.zdW {f:FuncId} {args:List Ar} {vs vs':List V} {s1:List (Nat×z3)} {m1:Nat} {out:Out} {v':V} {ob':List (Nat×z3)} {cc:Bool} (r:List Nat) (h:z9 P f vs ⟨s1,m1⟩ out) (hr:(WL r&&(r.all (fun k=>Nat.blt k b))&&Nat.beq r.length m1)=true)
  (hv:z0o st args some=some vs') (hvs:V.qk (zt r b) vs=vs') (hb:V.bds m1 vs=true) (hs1:zG m1 s1=true) (hsub:z8A (zt r b) st.s.sto s1 m1) (hob:z9m s1 m1 out.n out.ob=true)
  (hv':out.v.ren (zt r b)=v') (hob':wx (zt r b) out.ob=ob') (hcc:qP (!ob'.isEmpty||decide (0<out.n)) some=some cc)
  (hst:Wa b st d {v:=v',ob:=ob',n:=out.n,rd:=true} (fun b' st'=>some (b',st'))=some (b',st'))
  (h':Mid P n m R draw all after live k b' ((true,cc)::fl) ops st'):Mid P n m R draw all after live k b fl (⟨d,none,.call f args⟩::ops) st:=by
 simp only [Bool.and_eq_true] at hr;obtain ⟨⟨hr1,hr2⟩,hr3⟩:=hr;have hm:r.length=m1:=Nat.eq_of_beq_eq_true hr3;subst hm;rw [qf] at hv;simp at hv;refine Mid.opX Z ?_;simp only [evX];refine z01.le (qE.pure _) ?_;rw [hv,←hvs]
 have hat:FnL P f (V.qk (zt r b) vs) b st.s.sto {v:=v',ob:=ob',n:=out.n,rd:=true}:=by
  intro s' hk;have hrn:=zah (n:=out.n) hr1 hr2;have:=z9.ren hrn h hb hs1 (fun j hj=>(hk _ (hrn.low j hj)).trans (z0L hsub j hj)) (z3m hob);rw [hv',←z1p,hob'] at this;exact this
 simp only [wO,Option.some.injEq] at hcc;simp only [Y6,Option.some.injEq,Prod.mk.injEq] at hst;obtain ⟨rfl,rfl⟩:=hst
 refine ⟨{v:=v',ob:=ob',n:=out.n,rd:=true},by simp only [if_true];exact hat,?_⟩
 simp only [hcc];exact h'
theorem Mid.ZD {f:FuncId} {args:List Ar} {vs vs':List V} {s1:List (Nat×z3)} {m1:Nat} {x:V} (r:List Nat) (h:z9 P f vs ⟨s1,m1⟩ {v:=x,rd:=true}) (hr:(WL r&&(r.all (fun k=>Nat.blt k b))&&Nat.beq r.length m1)=true)
  (hv:z0o st args some=some vs') (hvs:V.qk (zt r b) vs=vs') (hb:V.bds m1 vs=true) (hs1:zG m1 s1=true) (hsub:z8A (zt r b) st.s.sto s1 m1)
  (hst:Z9 st d (x.ren (zt r b)) some=some st')
  (h':Mid P n m R draw all after live k b ((true,false)::fl) ops st'):Mid P n m R draw all after live k b fl (⟨d,none,.call f args⟩::ops) st:=by
 refine Mid.zdW r h hr hv hvs hb hs1 hsub Z Z Z Z (b':=b) (st':=st.app d {v:=x.ren (zt r b),rd:=true}) (by simp only [Y6];rfl) ?_;simp only [Z9,V.force_eq,ZA,St.ZX,Option.some.injEq] at hst
 have e:st'=st.app d {v:=x.ren (zt r b),rd:=true}:=by rw [←hst];cases d<;>rfl
 rw [e] at h';exact h'
end
section
variable {P:Program} {n m:Nat} {R:St->Prop}
theorem zn.zd0 {Λ:L} {v:Value} {c d:Prop} (h:zn Λ v (.ub c d)):∃b,v= .bool b/\(b=true->c)/\(b=false->d):=by
 cases h with
 |ub h h'=>exact ⟨_,rfl,h,h'⟩
theorem Sat.zaD {Q:YX->St->Prop} {st:St} {z:Ar} {a b:zW} {c d:Prop} (hz:z.v st= .ub c d) (h1:c->Sat P n m a st Q) (h2:d->Sat P n m b st Q):Sat P n m (.cond z a b) st Q:=by
 intro code k1 k2 k3 C Λ ac k4 k5 k6 k7 k8;have:=ZR k1;simp only [zW.bare] at this;obtain ⟨e,x,y,rfl,hc,hx,hy⟩:=this;simp only [codeOk,Bool.and_eq_true] at k2;have hv:=k7.opd hc;rw [hz] at hv;obtain ⟨t,ht,g1,g2⟩:=zn.zd0 hv;refine wp_cond ht ?_
 cases t with
 |true=>exact h1 (g1 rfl) x hx k2.1 k3 C Λ ac k4 k5 k6 k7 k8
 |false=>exact h2 (g2 rfl) y hy k2.2 k3 C Λ ac k4 k5 k6 k7 k8
theorem Run.zaD {k k':List It} {z:Ar} {a b:zW} {st:St} {c d:Prop} (hk:ZT 200 k= .c (.cond z a b)::k') (hz:z.v st= .ub c d) (h1:c->Run P n m R (.c a::k') st) (h2:d->Run P n m R (.c b::k') st):Run P n m R k st:=
 Run.adv 200 hk (by
  simp only [Run,ZO] at h1 h2⊢
  exact Sat.zaD hz h1 h2)
variable {draw:Bool} {all:List AO} {after:List (List Nat)} {live:List Nat} {k:List It} {b b':Nat} {fl:List (Bool×Bool)} {ops:List AO} {st st':St} {d:Option Nat}
theorem Mid.z3p {op:AOp} {sl:Nat} {want gc:Bool} (hg:yB want (look st.env sl)=some gc) (ht:gc=true) (hn:zg true st op=none) (h':Mid P n m R draw all after live k b fl (⟨d,none,op⟩::ops) st):Mid P n m R draw all after live k b fl (⟨d,some (sl,want),op⟩::ops) st:=by
 subst ht;rw [W0] at hg;unfold Mid at h'⊢;simp only [evR,evO,hg,evU,hn] at h'⊢
 exact .inr ⟨fun _=>h',fun h=>by cases h⟩
end
end Go.GB
namespace Go.GB
abbrev Str:=List UInt8
def sE (s:Str):List T:=[.str s]
def nE (n:Int):List T:=[.int .i64 n]
inductive Val where
 |mk (kind int:Int) (text:Str) (items:List Val) (keys:List Str)
namespace Val
def kind:Val->Int| .mk k _ _ _ _=>k
def int:Val->Int| .mk _ k _ _ _=>k
def text:Val->Str| .mk _ _ k _ _=>k
def items:Val->List Val| .mk _ _ _ k _=>k
def keys:Val->List Str| .mk _ _ _ _ k=>k
mutual
def enc:Val->List T
 | .mk k i t its ks=>[.int .i64 k,.int .i64 i,.str t,.lst (WH its),.lst (ks.map sE)]
def WH:List Val->List (List T)
 |[]=>[]
 |v::r=>v.enc::WH r
end
theorem YU:∀l:List Val,WH l=l.map enc
 |[]=>by simp [WH]
 |v::r=>by simp [WH,YU r]
def cs (v:Val):List T:=[.int .i64 v.kind,.int .i64 v.int,.str v.text,.lst (v.items.map enc),.lst (v.keys.map sE)]
theorem Zf (v:Val):v.enc=v.cs:=by
 cases v;simp [enc,cs,kind,int,text,items,keys,YU]
def v (x:Val):V:= .agg [.t (.int .i64 x.kind),.t (.int .i64 x.int),.t (.str x.text),.t (.lst (x.items.map enc)),.t (.lst (x.keys.map sE))]
theorem ZQ:∀(v:Val) {x:Val},x∈v.items->SizeOf.sizeOf x<SizeOf.sizeOf v
 | .mk k i t its ks,x,h=>by
  have:=List.sizeOf_lt_of_mem h;simp only [items] at this;simp only [Val.mk.sizeOf_spec];omega
end Val
structure Ref where
 name:Str
 zq:List Int
structure Arg where
 name:Str
 val:Val
def Arg.enc (a:Arg):List T:=[.str a.name,.int .i64 a.val.kind,.int .i64 a.val.int,.str a.val.text,.lst (a.val.items.map Val.enc),.lst (a.val.keys.map sE)]
structure Dir where
 name:Str
 args:List Arg
def Dir.enc (d:Dir):List T:=[.str d.name,.lst (d.args.map Arg.enc)]
structure Input where
 name:Str
 ty:Ref
 has:Bool
 yI:Val
 zS:List Dir
def Input.enc (x:Input):List T:=[.str x.name,.str x.ty.name,.lst (x.ty.zq.map nE),.bool x.has,.int .i64 x.yI.kind,.int .i64 x.yI.int,.str x.yI.text,.lst (x.yI.items.map Val.enc),.lst (x.yI.keys.map sE),.lst (x.zS.map Dir.enc)]
structure Field where
 name:Str
 args:List Input
 ty:Ref
 zS:List Dir
def Field.enc (f:Field):List T:=[.str f.name,.lst (f.args.map Input.enc),.str f.ty.name,.lst (f.ty.zq.map nE),.lst (f.zS.map Dir.enc)]
structure ZF where
 name:Str
 zS:List Dir
def ZF.enc (m:ZF):List T:=[.str m.name,.lst (m.zS.map Dir.enc)]
structure Def where
 kind:Int
 name:Str
 implements:List Str
 zS:List Dir
 fields:List Field
 members:List ZF
 zH:List Input
def Def.enc (d:Def):List T:=[.int .i64 d.kind,.str d.name,.lst (d.implements.map sE),.lst (d.zS.map Dir.enc),.lst (d.fields.map Field.enc),.lst (d.members.map ZF.enc),.lst (d.zH.map Input.enc)]
inductive yO where
 |mk (key on name:Str) (args:List Arg) (ty:Ref) (label:Str) (initial:Int) (z72:List yO)
namespace yO
def key:yO->Str| .mk k _ _ _ _ _ _ _=>k
def on:yO->Str| .mk _ k _ _ _ _ _ _=>k
def name:yO->Str| .mk _ _ k _ _ _ _ _=>k
def args:yO->List Arg| .mk _ _ _ k _ _ _ _=>k
def ty:yO->Ref| .mk _ _ _ _ k _ _ _=>k
def label:yO->Str| .mk _ _ _ _ _ k _ _=>k
def initial:yO->Int| .mk _ _ _ _ _ _ k _=>k
def z72:yO->List yO| .mk _ _ _ _ _ _ _ k=>k
mutual
def enc:yO->List T
 | .mk k o n a t l i ps=>[.str k,.str o,.str n,.lst (a.map Arg.enc),.str t.name,.lst (t.zq.map nE),.str l,.int .i64 i,.lst (WH ps)]
def WH:List yO->List (List T)
 |[]=>[]
 |v::r=>v.enc::WH r
end
theorem YU:∀l:List yO,WH l=l.map enc
 |[]=>by simp [WH]
 |v::r=>by simp [WH,YU r]
def cs (v:yO):List T:=[.str v.key,.str v.on,.str v.name,.lst (v.args.map Arg.enc),.str v.ty.name,.lst (v.ty.zq.map nE),.str v.label,.int .i64 v.initial,.lst (v.z72.map enc)]
theorem Zf (v:yO):v.enc=v.cs:=by
 cases v;simp [enc,cs,key,on,name,args,ty,label,initial,z72,YU]
end yO
def B47:Nat:=140737488355328
inductive Val.Ok:Val->Prop where
 |mk {k i:Int} {t:Str} {its:List Val} {ks:List Str} (h1:its.length*80<=B47) (h2:ks.length*16<=B47) (h3:∀x,x∈its->Val.Ok x) (h4:t.length<=140737488355328) (h5:∀x,x∈ks->x.length<=140737488355328):Val.Ok (.mk k i t its ks)
namespace Val.Ok
theorem il {v:Val} (h:v.Ok):v.items.length*80<=140737488355328:=by cases h with|mk h1 h2 h3=>exact h1
theorem kl {v:Val} (h:v.Ok):v.keys.length*16<=140737488355328:=by cases h with|mk h1 h2 h3=>exact h2
theorem it {v:Val} (h:v.Ok):∀x,x∈v.items->x.Ok:=by cases h with|mk h1 h2 h3=>exact h3
theorem tl {v:Val} (h:v.Ok):v.text.length<=140737488355328:=by cases h with|mk h1 h2 h3 h4=>exact h4
theorem kt {v:Val} (h:v.Ok):∀x,x∈v.keys->x.length<=140737488355328:=by cases h with|mk h1 h2 h3 h4 h5=>exact h5
end Val.Ok
def Val.zero:Val:= .mk 0 0 [] [] []
theorem Val.Wi:Val.zero.Ok:= .mk (by decide) (by decide) (by simp) (by decide) (by simp)
def Arg.Ok (a:Arg):Prop:=a.val.Ok
structure Dir.Ok (d:Dir):Prop where
 l:d.args.length<=140737488355328
 a:∀x,x∈d.args->x.Ok
 nm:d.name.length<=140737488355328
structure Ref.Ok (r:Ref):Prop where
 l:r.zq.length*8<=140737488355328
 nm:r.name.length<=140737488355328
structure Input.Ok (x:Input):Prop where
 t:x.ty.Ok
 v:x.yI.Ok
 l:x.zS.length<=140737488355328
 d:∀y,y∈x.zS->y.Ok
 nm:x.name.length<=140737488355328
structure Field.Ok (x:Field):Prop where
 al:x.args.length<=140737488355328
 a:∀y,y∈x.args->y.Ok
 t:x.ty.Ok
 l:x.zS.length<=140737488355328
 d:∀y,y∈x.zS->y.Ok
 nm:x.name.length<=140737488355328
structure ZF.Ok (x:ZF):Prop where
 l:x.zS.length<=140737488355328
 d:∀y,y∈x.zS->y.Ok
 nm:x.name.length<=140737488355328
structure Def.Ok (x:Def):Prop where
 il:x.implements.length<=140737488355328
 dl:x.zS.length<=140737488355328
 d:∀y,y∈x.zS->y.Ok
 fl:x.fields.length<=140737488355328
 f:∀y,y∈x.fields->y.Ok
 ml:x.members.length<=140737488355328
 m:∀y,y∈x.members->y.Ok
 nl:x.zH.length<=140737488355328
 n:∀y,y∈x.zH->y.Ok
 nm:x.name.length<=140737488355328
 im:∀y,y∈x.implements->y.length<=140737488355328
structure Zd (ds:List Def):Prop where
 l:ds.length<=140737488355328
 d:∀y,y∈ds->y.Ok
 lb:ds.length*144<=140737488355328
inductive yO.Ok:yO->Prop where
 |mk {k o n:Str} {a:List Arg} {t:Ref} {l:Str} {i:Int} {ps:List yO} (h1:a.length*96<=B47) (h2:∀x,x∈a->x.Ok) (h3:t.Ok) (h4:ps.length*160<=B47) (h5:∀x,x∈ps->yO.Ok x):yO.Ok (.mk k o n a t l i ps)
namespace yO.Ok
theorem al {v:yO} (h:v.Ok):v.args.length*96<=140737488355328:=by cases h with|mk h1=>exact h1
theorem t {v:yO} (h:v.Ok):v.ty.Ok:=by cases h with|mk h1 h2 h3=>exact h3
end yO.Ok
def Def.v (d:Def):V:= .agg [.t (.int .i64 d.kind),.t (.str d.name),.t (.lst (d.implements.map sE)),.t (.lst (d.zS.map Dir.enc)),.t (.lst (d.fields.map Field.enc)),.t (.lst (d.members.map ZF.enc)),.t (.lst (d.zH.map Input.enc))]
def Def.zero:Def:=⟨0,[],[],[],[],[],[]⟩
theorem Def.Wi:Def.zero.Ok:=⟨by decide,by decide,by simp [Def.zero],by decide,by simp [Def.zero],by decide,by simp [Def.zero],by decide,by simp [Def.zero],by decide,by simp [Def.zero]⟩
def Field.v (f:Field):V:= .agg [.t (.str f.name),.t (.lst (f.args.map Input.enc)),.t (.str f.ty.name),.t (.lst (f.ty.zq.map nE)),.t (.lst (f.zS.map Dir.enc))]
def Field.zero:Field:=⟨[],[],⟨[],[]⟩,[]⟩
def yd (l:List Def):V:= .agg [.t (.lst (l.map Def.enc))]
def Ref.v (r:Ref):V:= .agg [.t (.str r.name),.t (.lst (r.zq.map nE))]
namespace yO
end yO
section
variable {P:Program} {n m:Nat} {R:St->Prop} {draw:Bool} {all:List AO} {after:List (List Nat)} {live:List Nat} {k:List It} {b b':Nat} {fl:List (Bool×Bool)} {ops:List AO} {st st':St} {d:Option Nat}
theorem Mid.Ze {α:Type} {f:α->List T} {l:List α} {e:α} {c:List T} {sz j:Nat} {x i:Ar} {v:V} {kd:IntKind} (hf:f e=c) (hx:rd true st x=(v,[])) (hv:v.zy=some (.lst (l.map f))) (hi:rd true st i=(.t (.int kd j),[])) (hc:l[j]?=some e) (hl:(Nat.beq c.length sz&&!(Nat.beq sz 0))=true)
  (hs:Z9 st d (.t (.ptr c)) some=some st') (h':Mid P n m R draw all after live k b ((false,false)::fl) ops st'):Mid P n m R draw all after live k b fl (⟨d,none,.ia sz x i⟩::ops) st:=by
 subst hf;exact Mid.ze hx hv hi hc hl hs h'
end
abbrev TCo (t:Def):z3:= .cells [.t (.int .i64 t.kind),.t (.str t.name),.t (.lst (t.implements.map sE)),.t (.lst (t.zS.map Dir.enc)),.t (.lst (t.fields.map Field.enc)),.t (.lst (t.members.map ZF.enc)),.t (.lst (t.zH.map Input.enc))]
abbrev VCo (v:Val):z3:= .cells [.t (.int .i64 v.kind),.t (.int .i64 v.int),.t (.str v.text),.t (.lst (v.items.map Val.enc)),.t (.lst (v.keys.map sE))]
abbrev XBo (x:yO):z3:= .cells [.t (.str x.key),.t (.str x.on),.t (.str x.name),.t (.lst (x.args.map Arg.enc)),.t (.str x.ty.name),.t (.lst (x.ty.zq.map nE)),.t (.str x.label),.t (.int .i64 x.initial),.t (.lst (x.z72.map yO.enc))]
abbrev WOo (ds:List Def) (lit:Bool) (c e:Int):z3:= .cells [.t (.lst (List.map Def.enc ds)),.t (.int .i64 0),.t (.int .i64 0),.t (.str []),.t (.lst []),.t (.lst []),.t (.bool lit),.t (.int .i64 c),.t (.int .i64 e)]
end Go.GB
namespace Go.GB
open Go.ChangeMaps (setBlock)
section
variable {P:Program} {o:Oper} {st:St}
end
end Go.GB
namespace Go.GB
section
variable {P:Program} {n m:Nat} {R:St->Prop} {draw:Bool} {all:List AO} {after:List (List Nat)} {live:List Nat} {k:List It} {b b':Nat} {fl:List (Bool×Bool)} {ops:List AO} {st st':St} {d:Option Nat}
variable {κ ν:Type} {ks:List KSh} {kag:Bool} {ek:κ->List T} {ev:ν->T} {l:List (κ×ν)} {sx:Option (Nat×List Nat)} {q:Nat} {x y:Ar}
theorem zdN {α:Type} {f:α->List T} {l:List α} {sz s:Nat} {want gc:Bool} {x hi:Ar} {v:V} {kd:IntKind} {j:Nat} {p1 p2:List Bool} (hg:yB want (look st.env s)=some gc) (hx:rd gc st x=(v,p1)) (hv:v.zy=some (.lst (l.map f))) (hh:rd gc st hi=(.t (.int kd j),p2)) (hs:Z9 st d (.gd gc (.t (.lst ((l.take j).map f)))) some=some st')
  (h':Mid P n m R draw all after live k b ((false,false)::fl) ops st') (hj:j<=l.length:=by omega) (hsz:∀x,(f x).length=sz:=by intros;rfl) (hp1:Zg (p1.map fun p=>!gc||p):=by (repeat' (first |exact trivial|exact Bool.not_or_self _|exact qF _|exact qI _|exact grd3 _ _|exact qJ _ _|refine And.intro ?_ ?_|exact rfl|(simp;done)|(simp<;>omega)));done) (hp2:Zg (p2.map fun p=>!gc||p):=by (repeat' (first |exact trivial|exact Bool.not_or_self _|exact qF _|exact qI _|exact grd3 _ _|exact qJ _ _|refine And.intro ?_ ?_|exact rfl|(simp;done)|(simp<;>omega)));done):Mid P n m R draw all after live k b fl (⟨d,some (s,want),.sll sz x none (some hi)⟩::ops) st:=
 Mid.z8F (v:= .t (.lst ((l.take j).map f))) (ps:=p1++([]++(p2++[true,true,true,true]))) hg (by simp only [zg,hx,hv,bnd,hh];simp [hj,ye,hsz]) (Y2 hx hv) (by simp only [List.map_append,wX];exact ⟨hp1,trivial,hp2,by simp [Zg]⟩) hs h'
theorem lF1 {α:Type} {f:α->List T} {l:List α} {sz:Nat} {x lo:Ar} {v:V} {kd:IntKind} (hx:rd true st x=(v,[])) (hv:v.zy=some (.lst (l.map f))) (hh:rd true st lo=(.t (.int kd 1),[])) (hs:Z9 st d (.t (.lst ((l.drop 1).map f))) some=some st')
  (h':Mid P n m R draw all after live k b ((false,false)::fl) ops st') (hj:1<=l.length:=by first |omega|(simp;done)|(simp<;>omega)) (hsz:∀x,(f x).length=sz:=by intros;rfl):Mid P n m R draw all after live k b fl (⟨d,none,.sll sz x (some lo) none⟩::ops) st:=
 Mid.z6W (j:=1) hx hv hh hj hsz hs h'
section
variable [DecidableEq κ]
end
end
end Go.GB
namespace Go.GB.C11
open Go.GB
structure Pr (P:Program):Prop where
 mixed:P.follows .mixedOrders=true
 i143:zb P 143=some (n143,c143.bare,r143)
 i141:zb P 141=some (n141,c141.bare,r141)
 i122:zb P 122=some (n122,c122.bare,r122)
 i81:zb P 81=some (n81,c81.bare,r81)
 i120:zb P 120=some (n120,c120.bare,r120)
 i25:zb P 25=some (n25,c25.bare,r25)
 i37:zb P 37=some (n37,c37.bare,r37)
 i38:zb P 38=some (n38,c38.bare,r38)
 i39:zb P 39=some (n39,c39.bare,r39)
 i130:zb P 130=some (n130,c130.bare,r130)
 i154:zb P 154=some (n154,c154.bare,r154)
 i92:zb P 92=some (n92,c92.bare,r92)
 i94:zb P 94=some (n94,c94.bare,r94)
 i45:zb P 45=some (n45,c45.bare,r45)
 i147:zb P 147=some (n147,c147.bare,r147)
 i70:zb P 70=some (n70,c70.bare,r70)
 i139:zb P 139=some (n139,c139.bare,r139)
 i140:zb P 140=some (n140,c140.bare,r140)
 i49:zb P 49=some (n49,c49.bare,r49)
 i50:zb P 50=some (n50,c50.bare,r50)
 i51:zb P 51=some (n51,c51.bare,r51)
 i52:zb P 52=some (n52,c52.bare,r52)
 i131:zb P 131=some (n131,c131.bare,r131)
 i146:zb P 146=some (n146,c146.bare,r146)
 i79:zb P 79=some (n79,c79.bare,r79)
 i80:zb P 80=some (n80,c80.bare,r80)
 i132:zb P 132=some (n132,c132.bare,r132)
 i152:zb P 152=some (n152,c152.bare,r152)
 i153:zb P 153=some (n153,c153.bare,r153)
 i142:zb P 142=some (n142,c142.bare,r142)
 i85:zb P 85=some (n85,c85.bare,r85)
 i86:zb P 86=some (n86,c86.bare,r86)
 i87:zb P 87=some (n87,c87.bare,r87)
 i88:zb P 88=some (n88,c88.bare,r88)
 i89:zb P 89=some (n89,c89.bare,r89)
 i90:zb P 90=some (n90,c90.bare,r90)
 i117:zb P 117=some (n117,c117.bare,r117)
 i118:zb P 118=some (n118,c118.bare,r118)
 i119:zb P 119=some (n119,c119.bare,r119)
 i16:zb P 16=some (n16,c16.bare,r16)
 i134:zb P 134=some (n134,c134.bare,r134)
 i137:zb P 137=some (n137,c137.bare,r137)
 i138:zb P 138=some (n138,c138.bare,r138)
 i133:zb P 133=some (n133,c133.bare,r133)
variable {P:Program}
def zh (n:Str):List Def->Option Def
 |[]=>none
 |d::r=>if (d.name==n)=true then some d else zh n r
theorem Y5 {n:Str}:∀{l:List Def} {d:Def},zh n l=some d->d∈l
 |[],d,h=>by simp [zh] at h
 |x::r,d,h=>by
  simp only [zh] at h;split at h
  ·cases h;exact List.mem_cons_self ..
  ·exact List.mem_cons_of_mem _ (Y5 h)
def zD (n:Str):List Field->Option Field
 |[]=>none
 |d::r=>if (d.name==n)=true then some d else zD n r
theorem YD {n:Str}:∀{l:List Field} {d:Field},zD n l=some d->d∈l
 |[],d,h=>by simp [zD] at h
 |x::r,d,h=>by
  simp only [zD] at h;split at h
  ·cases h;exact List.mem_cons_self ..
  ·exact List.mem_cons_of_mem _ (YD h)
theorem z7s (H:Pr P) (ds:List Def) (hl:ds.length<=140737488355328) (n:Str):z9 P 130 [yd ds,.t (.str n)] ⟨[],0⟩ {v:= .tup [((zh n ds).getD Def.zero).v,.t (.bool (zh n ds).isSome)]}:=by
 refine z9.run H.i130 H.mixed Z Z ?_;refine fR Z ?_;refine lM Z Z Z ?_;refine fM Z ?_;refine zx ds (fun i (_:Unit)=>{env:=[(1,.t (.str n)),(4,.ptr 1 0),(9,.t (.lst (ds.map Def.enc))),(10,.t (.int .i64 ds.length)),(11,.t (.int .i64 i))],s:=⟨[(1,.cells [.t (.int .i64 0),.t (.str []),.zV,.zV,.zV,.zV,.zV])],2⟩}) (fun r i _=>zh n ds=zh n r) 2 () Z Z Z Z Z ?_ ?_
 ·intro _ hinv;refine fR Z ?_;refine Run.zj Z Z (by simp) ?_;refine fR Z ?_
  have e:zh n ds=none:=by rw [hinv];rfl
  rw [e];refine Run.fin Z (z5.go ?_);exact .wu (.agg (.cons (.t Z) (.cons (.t Z) (.cons (.nil Z) (.cons (.nil Z) (.cons (.nil Z) (.cons (.nil Z) (.cons (.nil Z) .nil)))))))) (.t Z)
 ·intro i x r _ h1 hi hd hinv ih;refine fR Z ?_;refine Run.zm Z Z (by simp;omega) ?_;refine fR Z ?_;refine Mid.ze Z Z Z h1 Z Z ?_;refine fM Z ?_;refine Run.cond Z Z (fun h=>?_) (fun h=>?_)
  ·refine fR Z ?_
   have e:zh n ds=some x:=by rw [hinv];simp only [zh];rw [if_pos h]
   rw [e];refine Run.fin Z (z5.go ?_);exact .wu (.le (.same Z)) (.t Z)
  ·refine fR Z ?_;refine aL Z Z Z Z Z ?_;refine fM Z ?_
   have h':¬ (x.name==n)=true:=by rw [h];simp
   exact zk 2 Z (ih () (by rw [hinv];simp only [zh];rw [if_neg h'])) Z Z Z
theorem z5x (H:Pr P) (d:Def) (hl:d.fields.length<=140737488355328) (n:Str):z9 P 131 [d.v,.t (.str n)] ⟨[],0⟩ {v:= .tup [((zD n d.fields).getD Field.zero).v,.t (.bool (zD n d.fields).isSome)]}:=by
 refine z9.run H.i131 H.mixed Z Z ?_;refine fR Z ?_;refine lM Z Z Z ?_;refine fM Z ?_;refine zx d.fields (fun i (_:Unit)=>{env:=[(1,.t (.str n)),(4,.ptr 1 0),(9,.t (.lst ((d.fields).map Field.enc))),(10,.t (.int .i64 (d.fields).length)),(11,.t (.int .i64 i))],s:=⟨[(1,.cells [.t (.str []),.zV,.t (.str []),.zV,.zV])],2⟩}) (fun r i _=>zD n (d.fields)=zD n r) 2 () Z Z Z Z Z ?_ ?_
 ·intro _ hinv;refine fR Z ?_;refine Run.zj Z Z (by simp) ?_;refine fR Z ?_
  have e:zD n (d.fields)=none:=by rw [hinv];rfl
  rw [e];refine Run.fin Z (z5.go ?_);exact .wu (.agg (.cons (.t Z) (.cons (.nil Z) (.cons (.t Z) (.cons (.nil Z) (.cons (.nil Z) .nil)))))) (.t Z)
 ·intro i x r _ h1 hi hd hinv ih;refine fR Z ?_;refine Run.zm Z Z (by simp;omega) ?_;refine fR Z ?_;refine Mid.ze Z Z Z h1 Z Z ?_;refine fM Z ?_;refine Run.cond Z Z (fun h=>?_) (fun h=>?_)
  ·refine fR Z ?_
   have e:zD n (d.fields)=some x:=by rw [hinv];simp only [zD];rw [if_pos h]
   rw [e];refine Run.fin Z (z5.go ?_);exact .wu (.le (.same Z)) (.t Z)
  ·refine fR Z ?_;refine aL Z Z Z Z Z ?_;refine fM Z ?_
   have h':¬ (x.name==n)=true:=by rw [h];simp
   exact zk 2 Z (ih () (by rw [hinv];simp only [zD];rw [if_neg h'])) Z Z Z
theorem yl (H:Pr P) (ds:List Def) (hl:ds.length<=140737488355328) (n:Str):z9 P 37 [yd ds,.t (.str n)] ⟨[],0⟩ {v:= .tup [((zh n ds).getD Def.zero).v,.t (.bool (zh n ds).isSome)]}:=by
 refine z9.run H.i37 H.mixed Z Z ?_;refine fR Z ?_;refine zx ds (fun i (_:Unit)=>{env:=[(1,.t (.str n)),(2,.ptr 0 0),(4,.ptr 1 0),(6,.t (.int .i64 i))],s:=⟨[(0,.cells [.t (.lst (ds.map Def.enc))]),(1,.cells [.t (.int .i64 0),.t (.str []),.zV,.zV,.zV,.zV,.zV])],2⟩}) (fun r i _=>zh n (ds)=zh n r) 2 () Z Z Z Z Z ?_ ?_
 ·intro _ hinv;refine fR Z ?_;refine lM Z Z Z ?_;refine fM Z ?_;refine Run.zj Z Z (by simp) ?_;refine fR Z ?_
  have e:zh n (ds)=none:=by rw [hinv];rfl
  rw [e];refine Run.fin Z (z5.go ?_);exact .wu (.agg (.cons (.t Z) (.cons (.t Z) (.cons (.nil Z) (.cons (.nil Z) (.cons (.nil Z) (.cons (.nil Z) (.cons (.nil Z) .nil)))))))) (.t Z)
 ·intro i x r _ h1 hi hd hinv ih;refine fR Z ?_;refine lM Z Z Z ?_;refine fM Z ?_;refine Run.zm Z Z (by simp;omega) ?_;refine fR Z ?_;refine Mid.ze Z Z Z h1 Z Z ?_;refine fM Z ?_;refine Run.cond Z Z (fun h=>?_) (fun h=>?_)
  ·refine fR Z ?_;refine Mid.ze Z Z Z h1 Z Z ?_;refine fM Z ?_
   have e:zh n (ds)=some x:=by rw [hinv];simp only [zh];rw [if_pos h]
   rw [e];refine Run.fin Z (z5.go ?_);exact .wu (.le (.same Z)) (.t Z)
  ·refine fR Z ?_;refine aL Z Z Z Z Z ?_;refine fM Z ?_
   have h':¬ (x.name==n)=true:=by rw [h];simp
   exact zk 2 Z (ih () (by rw [hinv];simp only [zh];rw [if_neg h'])) Z Z Z
theorem WX (H:Pr P) (d:Def) (hl:d.fields.length<=140737488355328) (n:Str):z9 P 38 [d.v,.t (.str n)] ⟨[],0⟩ {v:= .tup [((zD n d.fields).getD Field.zero).v,.t (.bool (zD n d.fields).isSome)]}:=by
 refine z9.run H.i38 H.mixed Z Z ?_;refine fR Z ?_;refine zx d.fields (fun i (_:Unit)=>{env:=[(1,.t (.str n)),(2,.ptr 0 0),(4,.ptr 1 0),(6,.t (.int .i64 i))],s:=⟨[(0,(TCo d)),(1,.cells [.t (.str []),.zV,.t (.str []),.zV,.zV])],2⟩}) (fun r i _=>zD n (d.fields)=zD n r) 2 () Z Z Z Z Z ?_ ?_
 ·intro _ hinv;refine fR Z ?_;refine lM Z Z Z ?_;refine fM Z ?_;refine Run.zj Z Z (by simp) ?_;refine fR Z ?_
  have e:zD n (d.fields)=none:=by rw [hinv];rfl
  rw [e];refine Run.fin Z (z5.go ?_);exact .wu (.agg (.cons (.t Z) (.cons (.nil Z) (.cons (.t Z) (.cons (.nil Z) (.cons (.nil Z) .nil)))))) (.t Z)
 ·intro i x r _ h1 hi hd hinv ih;refine fR Z ?_;refine lM Z Z Z ?_;refine fM Z ?_;refine Run.zm Z Z (by simp;omega) ?_;refine fR Z ?_;refine Mid.ze Z Z Z h1 Z Z ?_;refine fM Z ?_;refine Run.cond Z Z (fun h=>?_) (fun h=>?_)
  ·refine fR Z ?_;refine Mid.ze Z Z Z h1 Z Z ?_;refine fM Z ?_
   have e:zD n (d.fields)=some x:=by rw [hinv];simp only [zD];rw [if_pos h]
   rw [e];refine Run.fin Z (z5.go ?_);exact .wu (.le (.same Z)) (.t Z)
  ·refine fR Z ?_;refine aL Z Z Z Z Z ?_;refine fM Z ?_
   have h':¬ (x.name==n)=true:=by rw [h];simp
   exact zk 2 Z (ih () (by rw [hinv];simp only [zD];rw [if_neg h'])) Z Z Z
end Go.GB.C11
namespace Go.GB.C11
open Go.GB
variable {P:Program}
theorem zcd (a b:Int):(a !=b)=!(a==b):=rfl
theorem z3W (H:Pr P) (l:List Str) (hl:l.length<=140737488355328) (s:Str):z9 P 92 [.t (.lst (l.map sE)),.t (.str s)] ⟨[],0⟩ {v:= .t (.bool (decide (s∈l)))}:=by
 refine z9.run H.i92 H.mixed Z Z ?_;refine fR Z ?_;refine zx l (fun i (_:Unit)=>{env:=[(0,.t (.lst (l.map sE))),(1,.t (.str s)),(5,.t (.int .i64 i))],s:=⟨[],0⟩}) (fun r i _=>decide (s∈l)=decide (s∈r)) 0 () Z Z Z Z Z ?_ ?_
 ·intro _ hinv;refine fR Z ?_;refine lM Z Z Z ?_;refine fM Z ?_;refine Run.zj Z Z (by simp) ?_;refine fR Z ?_;refine Run.fin Z (z5.go ?_);exact .t (by rw [hinv];simp)
 ·intro i x r _ h1 hi hd hinv ih;refine fR Z ?_;refine lM Z Z Z ?_;refine fM Z ?_;refine Run.zm Z Z (by simp;omega) ?_;refine fR Z ?_;refine Mid.ze Z Z Z h1 Z Z ?_;refine fM Z ?_;refine Run.cond Z Z (fun h=>?_) (fun h=>?_)
  ·have h':x=s:=by simpa using h
   refine fR Z ?_;refine Run.fin Z (z5.go ?_);exact .t (by rw [hinv];simp [h'])
  ·have h':¬ x=s:=by simpa using h
   have h2:¬ s=x:=fun e=>h' e.symm;refine fR Z ?_;refine aL Z Z Z Z Z ?_;refine fM Z ?_;exact zk 0 Z (ih () (by rw [hinv];simp [h2])) Z Z Z
def qU (l:List ZF) (n:Str):Bool:=l.any fun m=>m.name==n
theorem z2H (H:Pr P) (t:Def) (hl:t.members.length<=140737488355328) (n:Str):z9 P 94 [t.v,.t (.str n)] ⟨[],0⟩ {v:= .t (.bool (qU t.members n))}:=by
 refine z9.run H.i94 H.mixed Z Z ?_;refine fR Z ?_;refine zx t.members (fun i (_:Unit)=>{env:=[(1,.t (.str n)),(2,.ptr 0 0),(5,.t (.int .i64 i))],s:=⟨[(0,(TCo t))],1⟩}) (fun r i _=>qU t.members n=qU r n) 1 () Z Z Z Z Z ?_ ?_
 ·intro _ hinv;refine fR Z ?_;refine lM Z Z Z ?_;refine fM Z ?_;refine Run.zj Z Z (by simp) ?_;refine fR Z ?_;refine Run.fin Z (z5.go ?_);exact .t (by rw [hinv];rfl)
 ·intro i x r _ h1 hi hd hinv ih;refine fR Z ?_;refine lM Z Z Z ?_;refine fM Z ?_;refine Run.zm Z Z (by simp;omega) ?_;refine fR Z ?_;refine Mid.ze Z Z Z h1 Z Z ?_;refine fM Z ?_;refine Run.cond Z Z (fun h=>?_) (fun h=>?_)
  ·refine fR Z ?_;refine Run.fin Z (z5.go ?_);exact .t (by rw [hinv];simp only [qU,List.any_cons,h,Bool.true_or])
  ·refine fR Z ?_;refine aL Z Z Z Z Z ?_;refine fM Z ?_;exact zk 1 Z (ih () (by rw [hinv];simp only [qU,List.any_cons,h,Bool.false_or])) Z Z Z
def wg (pre:List Def) (n:Str):Bool:=!(pre.any fun x=>x.name==n)
theorem z97 (H:Pr P) (ds:List Def) (hl:ds.length<=140737488355328) (i:Nat) (x:Def) (h:ds[i]?=some x):z9 P 154 [yd ds,.t (.int .i64 i)] ⟨[],0⟩ {v:= .t (.bool (wg (ds.take i) x.name))}:=by
 have hi:i<ds.length:=(List.getElem?_eq_some_iff.1 h).1
 have hlt:(ds.take i).length=i:=by simp;omega
 refine z9.run H.i154 H.mixed Z Z ?_;refine fR Z ?_;refine zx (ds.take i) (fun j (_:Unit)=>{env:=[(1,.t (.int .i64 i)),(2,.ptr 0 0),(5,.t (.int .i64 j))],s:=⟨[(0,.cells [.t (.lst (ds.map Def.enc))])],1⟩}) (fun r j _=>wg (ds.take i) x.name=wg r x.name) 1 () Z Z Z Z Z ?_ ?_
 ·intro _ hinv;refine fR Z ?_;refine Run.zj Z Z (by rw [hlt];simp) ?_;refine fR Z ?_;refine Run.fin Z (z5.go ?_);exact .t (by rw [hinv];rfl)
 ·intro j y r _ h2 hj hd hinv ih
  have h2':ds[j]?=some y:=by rw [List.getElem?_take] at h2;split at h2;exact h2;cases h2
  have hj':j<i:=by omega
  refine fR Z ?_;refine Run.zm Z Z (by simp;omega) ?_;refine fR Z ?_;refine Mid.ze Z Z Z h2' Z Z ?_;refine fM Z ?_;refine Mid.ze Z Z Z h Z Z ?_;refine fM Z ?_;refine Run.cond Z Z (fun he=>?_) (fun he=>?_)
  ·refine fR Z ?_;refine Run.fin Z (z5.go ?_);exact .t (by rw [hinv];simp only [wg,List.any_cons,he,Bool.true_or,Bool.not_true])
  ·refine fR Z ?_;refine aL Z Z Z Z Z ?_;refine fM Z ?_;exact zk 1 Z (ih () (by rw [hinv];simp only [wg,List.any_cons,he,Bool.false_or])) Z Z Z
def isP (t:Def) (nm:Str) (o:Def):Bool:=(t.kind==1&&o.name==nm)||(t.kind==2&&decide (nm∈o.implements))||(t.kind==3&&qU t.members o.name)
def qH (t:Def) (nm:Str):List Def->List Def->List Str
 |_,[]=>[]
 |pre,o::r=>if (o.kind==1&&wg pre o.name&&isP t nm o)=true then o.name::qH t nm (pre++[o]) r else qH t nm (pre++[o]) r
def W2 (ds:List Def) (nm:Str):List Str:=
 match zh nm ds with
 |none=>[]
 |some t=>qH t nm [] ds
theorem Qq {ds:List Def} (hD:Zd ds) (n:Str):((zh n ds).getD Def.zero).Ok:=by
 cases h:zh n ds with
 |none=>exact Def.Wi
 |some t=>exact hD.d t (Y5 h)
theorem Qb (H:Pr P) (ds:List Def) (hD:Zd ds) (nm:Str):z9 P 143 [yd ds,.t (.str nm)] ⟨[],0⟩ {v:= .t (.lst ((W2 ds nm).map sE))}:=by
 have hl:=hD.l;have hlb:=hD.lb;have hT:=Qq hD nm
 have hpos:W2 ds nm=if (zh nm ds).isSome=true then qH ((zh nm ds).getD Def.zero) nm [] ds else []:=by
  unfold W2;cases zh nm ds<;>rfl
 refine z9.run H.i143 H.mixed Z Z ?_;refine fR Z ?_;refine Mid.call (yl H ds hl nm) Z Z Z Z ?_;refine fM Z ?_;generalize (zh nm ds).isSome=b at hpos;generalize (zh nm ds).getD Def.zero=t at hpos hT
 refine zx ds (fun i (B:List Str)=>{env:=[(1,.t (.str nm)),(2,.ptr 0 0),(5,.own 2 1 (B.map sE)),(6,.ptr 1 0),(7,.t (.bool b)),(8,.t (.int .i64 i))],s:=⟨[(0,.cells [.t (.lst (ds.map Def.enc))]),(1,(TCo t)),(2,.arr B.length)],3⟩}) (fun r i B=>B.length<=i/\(b=false->B=[])/\W2 ds nm=if b=true then B++qH t nm (ds.take i) r else []) 2 [] Z ⟨by simp,fun _=>rfl,by rw [hpos];simp⟩ rfl rfl rfl ?_ ?_
 ·rintro B ⟨_,hB0,hB⟩
  cases b with
  |true=>
   obtain rfl:B=W2 ds nm:=by rw [hB];simp [qH]
   refine fR Z ?_;refine lM Z Z Z ?_;refine fM Z ?_;refine Run.zj Z Z (by simp) ?_;refine fR Z ?_;refine Run.fin Z (z5.go ?_);exact .own Z
  |false=>
   obtain rfl:B=[]:=hB0 rfl
   have hB':W2 ds nm=[]:=by simpa using hB
   refine fR Z ?_;refine lM Z Z Z ?_;refine fM Z ?_;refine Run.zj Z Z (by simp) ?_;refine fR Z ?_;rw [hB'];refine Run.fin Z (z5.go ?_);exact .own Z
 ·rintro i x r B h1 hi hd ⟨hBl,hB0,hB⟩ ih;have hBl':B.length<=i:=hBl
  have htk:ds.take i++[x]=ds.take (i+1):=by rw [List.take_add_one,h1];rfl
  have hx:=hD.d x (zMG h1)
  cases b with
  |true=>
   have hB':W2 ds nm=B++qH t nm (ds.take i) (x::r):=by simpa using hB
   refine fR Z ?_;refine lM Z Z Z ?_;refine fM Z ?_;refine Run.zm Z Z (by simp;omega) ?_;refine fR Z ?_;refine Mid.ze Z Z Z h1 Z Z ?_;refine fM Z ?_;refine caG Z Z (fun hg=>⟨_,rfl,z97 H ds hl i x h1,rfl⟩) Z Z ?_;refine fM Z ?_;refine Run.cond Z Z (fun hc=>?_) (fun hc=>?_)
   ·have hn:(x.kind==1&&wg (ds.take i) x.name&&isP t nm x)=false:=by
     have:(x.kind==1&&wg (ds.take i) x.name)=false:=by rw [zcd] at hc;revert hc;cases (x.kind==1)<;>cases (wg (ds.take i) x.name)<;>simp
     rw [this];rfl
    refine fR Z ?_;refine aL Z Z Z Z Z ?_;refine fM Z ?_;exact zk 3 Z (ih B ⟨by omega,by simp,by rw [hB'];simp only [qH,hn];rw [htk];rfl⟩) rfl rfl rfl
   ·have hn:(x.kind==1&&wg (ds.take i) x.name)=true:=by rw [zcd] at hc;revert hc;cases (x.kind==1)<;>cases (wg (ds.take i) x.name)<;>simp
    refine fR Z ?_;refine caG Z Z (fun hg=>⟨_,rfl,z3W H x.implements hx.il nm,rfl⟩) Z Z ?_;refine fM Z ?_;refine caG Z Z (fun hg=>⟨_,rfl,z2H H t hT.ml x.name,rfl⟩) Z Z ?_;refine fM Z ?_;refine Run.cond Z Z (fun hp=>?_) (fun hp=>?_)
    ·have hp':isP t nm x=true:=by simpa [isP] using hp
     refine fR Z ?_;refine apM sE B [x.name] Z Z Z Z Z ?_;refine fM Z ?_;refine aL Z Z Z Z Z ?_;refine fM Z ?_;exact zk 3 Z (ih (B++[x.name]) ⟨by simp;omega,by simp,by rw [hB'];simp only [qH,hn,hp'];rw [htk];simp⟩) rfl rfl rfl
    ·have hp':isP t nm x=false:=by simpa [isP] using hp
     refine fR Z ?_;refine aL Z Z Z Z Z ?_;refine fM Z ?_;exact zk 3 Z (ih B ⟨by omega,by simp,by rw [hB'];simp only [qH,hn,hp'];rw [htk];simp⟩) rfl rfl rfl
  |false=>
   obtain rfl:B=[]:=hB0 rfl
   have hB':W2 ds nm=[]:=by simpa using hB
   refine fR Z ?_;refine lM Z Z Z ?_;refine fM Z ?_;refine Run.zj Z Z (by simp) ?_;refine fR Z ?_;rw [hB'];refine Run.fin Z (z5.go ?_);exact .own Z
end Go.GB.C11
namespace Go.GB.C11
open Go.GB
variable {P:Program}
end Go.GB.C11
namespace Go.GB.C11
open Go.GB
variable {P:Program}
theorem z2g (nm:Str):∀(r pre:List Def),qH Def.zero nm pre r=[]
 |[],pre=>rfl
 |o::r,pre=>by
  have:isP Def.zero nm o=false:=rfl;simp only [qH,this,Bool.and_false,Bool.false_eq_true,if_false];exact z2g nm r _
theorem zbe (ds:List Def) (nm:Str):W2 ds nm=qH ((zh nm ds).getD Def.zero) nm [] ds:=by
 unfold W2
 cases zh nm ds with
 |none=>simp [z2g]
 |some t=>rfl
end Go.GB.C11
namespace Go.GB.C11
open Go.GB
variable {P:Program}
def nnF:List Int->Bool
 |[]=>false
 |w::_=>w==1
def ZI:List Int->List Int
 |[]=>[]
 |w::r=>if (w==1)=true then r else w::r
def z9f:List Int->Bool
 |[]=>false
 |w::_=>w==2
def qa (w:List Int):Bool:=z9f (ZI w)
theorem W1 (w:List Int):(ZI w).length<=w.length:=by
 cases w with
 |nil=>simp [ZI]
 |cons a r=>simp only [ZI];split<;>simp
theorem z1l {w:List Int} (h:nnF w=true):ZI w=w.tail:=by
 cases w with
 |nil=>cases h
 |cons a r=>simp only [nnF] at h;simp only [ZI];rw [if_pos h];rfl
theorem zc3 {w:List Int} (h:¬ nnF w=true):ZI w=w:=by
 cases w with
 |nil=>rfl
 |cons a r=>simp only [nnF] at h;simp only [ZI];rw [if_neg h]
theorem z78 (f:FuncId) (hi:zb P f=some (n147,c147.bare,r147)) (hm:P.follows .mixedOrders=true) (t:Ref) (ht:t.Ok):z9 P f [t.v] ⟨[],0⟩ {v:= .t (.bool (nnF t.zq))}:=by
 have hl:=ht.l;obtain ⟨n,w⟩:=t;refine z9.run hi hm Z Z ?_
 cases w with
 |nil=>
  refine fR Z ?_;refine lM Z Z Z ?_;refine fM Z ?_;refine Mid.Y1 Z Z Z Z Z ?_;refine Mid.Y1 Z Z Z Z Z ?_;refine Mid.Y1 Z Z Z Z Z ?_;refine fM Z ?_;refine Run.fin Z (z5.go ?_);exact .t Z
 |cons a r=>
  refine fR Z ?_;refine lM Z Z Z ?_;refine fM Z ?_;refine gr Z ?_;refine fM Z ?_;refine Run.fin Z (z5.go ?_);exact .t (by simp [nnF])
theorem zdK (H:Pr P) (t:Ref) (ht:t.Ok):z9 P 147 [t.v] ⟨[],0⟩ {v:= .t (.bool (nnF t.zq))}:=z78 147 H.i147 H.mixed t ht
theorem z20 (H:Pr P) (t:Ref) (ht:t.Ok):z9 P 70 [t.v] ⟨[],0⟩ {v:= .t (.bool (nnF t.zq))}:=z78 70 H.i70 H.mixed t ht
theorem z8v (H:Pr P) (l:List Int) (hl:l.length*8<=140737488355328):z9 P 132 [.t (.lst (l.map nE))] ⟨[],0⟩ {v:= .t (.lst (l.map nE))}:=by
 refine z9.run H.i132 H.mixed Z Z ?_;refine fR Z ?_;refine p0 Z ?_;refine fM Z ?_;refine Run.zaD Z Z (fun h=>?_) (fun _=>?_)
 ·have hn:l=[]:=by
   cases l with
   |nil=>rfl
   |cons x r=>
    have:=h (nE x) (by simp);simp [nE] at this
  subst hn;refine fR Z ?_;refine Run.fin Z (z5.go ?_);exact .nil Z
 ·refine fR Z ?_;refine apN nE l Z Z Z ?_ (h1:=hl) (h2:=by omega);refine fM rfl ?_;refine Run.fin rfl (z5.go ?_);exact .own rfl
theorem z64 {t:Ref} (ht:t.Ok):(⟨t.name,ZI t.zq⟩:Ref).Ok:=⟨by have:=W1 t.zq;have:=ht.l;show (ZI t.zq).length*8<=_;omega,ht.nm⟩
theorem zaA (H:Pr P) (n:Str) (a:Int) (r:List Int) (hl:r.length*8<=140737488355320):z9 P 152 [(⟨n,a::r⟩:Ref).v] ⟨[],0⟩ {v:=(⟨n,r⟩:Ref).v}:=by
 refine z9.run H.i152 H.mixed Z Z ?_;refine fR Z ?_;refine lF1 Z Z Z Z ?_;refine apN nE r Z Z Z ?_ (h1:=by omega) (h2:=by omega);refine fM rfl ?_;refine Run.fin rfl (z5.go ?_);exact .agg (.cons (.t rfl) (.cons (.own rfl) .nil))
theorem Ye (H:Pr P) (t:Ref) (ht:t.Ok):z9 P 139 [t.v] ⟨[],0⟩ {v:=(⟨t.name,ZI t.zq⟩:Ref).v}:=by
 have hl:=ht.l;have hn:=z20 H t ht;obtain ⟨n,w⟩:=t;refine z9.run H.i139 H.mixed Z Z ?_;refine fR Z ?_;refine Mid.call (hn) Z Z Z Z ?_;refine fM Z ?_;refine Run.cond Z Z (fun h=>?_) (fun h=>?_)
 ·have h':nnF w=true:=h
  cases w with
  |nil=>cases h'
  |cons a r=>
   have e:ZI (a::r)=r:=z1l h';refine fR Z ?_;refine Mid.call (zaA H n a r (by simp at hl;omega)) Z Z Z Z ?_;refine fM Z ?_;refine Run.fin Z (z5.go ?_);exact .agg (.cons (.t Z) (.cons (.t (by rw [e])) .nil))
 ·have h':¬ nnF w=true:=by rw [show nnF w=false from h];simp
  refine fR Z ?_;refine apN nE w Z Z Z ?_ (h1:=hl) (h2:=by simp at hl;omega);refine fM rfl ?_;refine Run.fin rfl (z5.go ?_);exact .agg (.cons (.t rfl) (.cons (.own (by rw [zc3 h'])) .nil))
end Go.GB.C11
namespace Go.GB.C11
open Go.GB
variable {P:Program}
theorem z1K (H:Pr P) (t:Ref) (ht:t.Ok):z9 P 153 [t.v] ⟨[],0⟩ {v:= .t (.bool (qa t.zq))}:=by
 have hn:=Ye H t ht;unfold qa;generalize ZI t.zq=N at hn;refine z9.run H.i153 H.mixed Z Z ?_;refine fR Z ?_;refine Mid.call (hn) Z Z Z Z ?_;refine fM Z ?_;refine lM Z Z Z ?_;refine fM Z ?_
 cases N with
 |nil=>
  refine Mid.Y1 Z Z Z Z Z ?_;refine Mid.Y1 Z Z Z Z Z ?_;refine Mid.Y1 Z Z Z Z Z ?_;refine fM Z ?_;refine Run.fin Z (z5.go ?_);exact .t Z
 |cons a r=>
  refine gr Z ?_;refine fM Z ?_;refine Run.fin Z (z5.go ?_);exact .t (by simp [z9f])
theorem z4g {w:List Int} (h:qa w=true):∃r,ZI w=2::r:=by
 unfold qa at h
 cases hn:ZI w with
 |nil=>rw [hn] at h;cases h
 |cons a r=>rw [hn] at h;simp [z9f] at h;subst h;exact ⟨r,rfl⟩
theorem Q9 (H:Pr P) (t:Ref) (ht:t.Ok) (h:qa t.zq=true):z9 P 140 [t.v] ⟨[],0⟩ {v:= .tup [(⟨t.name,(ZI t.zq).tail⟩:Ref).v,.t (.bool true)]}:=by
 have hn:=Ye H t ht;have hi:=z1K H t ht;rw [h] at hi;obtain ⟨r,hr⟩:=z4g h;have hlen:=W1 t.zq;have hl:=ht.l;rw [hr] at hn hlen⊢;refine z9.run H.i140 H.mixed Z Z ?_;refine fR Z ?_;refine Mid.call (hi) Z Z Z Z ?_;refine fM Z ?_;refine Run.zj Z Z Z ?_;refine fR Z ?_;refine Mid.call (hn) Z Z Z Z ?_;skip;refine Mid.call (zaA H t.name 2 r (by simp at hlen;omega)) Z Z Z Z ?_;refine fM Z ?_;refine Run.fin Z (z5.go ?_);exact .wu (.agg (.cons (.t Z) (.cons (.t Z) .nil))) (.t Z)
theorem Q2 (H:Pr P) (t:Ref) (ht:t.Ok) (h:qa t.zq=false):z9 P 140 [t.v] ⟨[],0⟩ {v:= .tup [(⟨[],[]⟩:Ref).v,.t (.bool false)]}:=by
 have hi:=z1K H t ht;rw [h] at hi;refine z9.run H.i140 H.mixed Z Z ?_;refine fR Z ?_;refine Mid.call (hi) Z Z Z Z ?_;refine fM Z ?_;refine Run.zm Z Z Z ?_;refine fR Z ?_;refine Run.fin Z (z5.go ?_);exact .wu (.agg (.cons (.t Z) (.cons (.nil Z) .nil))) (.t Z)
def isF (ds:List Def) (o n:Str):Bool:=decide (o∈W2 ds n)
theorem z5j (t:Def) (nm:Str):∀(r pre:List Def),(qH t nm pre r).length<=r.length
 |[],pre=>by simp [qH]
 |o::r,pre=>by
  have:=z5j t nm r (pre++[o]);simp only [qH]
  split<;>simp<;>omega
theorem z4N (ds:List Def) (nm:Str):(W2 ds nm).length<=ds.length:=by
 rw [zbe];exact z5j _ nm ds []
theorem z93 (H:Pr P) (ds:List Def) (hD:Zd ds) (o n:Str):z9 P 141 [yd ds,.t (.str o),.t (.str n)] ⟨[],0⟩ {v:= .t (.bool (isF ds o n))}:=by
 have hl:=z4N ds n;have:=hD.l;refine z9.run H.i141 H.mixed Z Z ?_;refine fR Z ?_;refine Mid.call (Qb H ds hD n) Z Z Z Z ?_;refine fM Z ?_;refine Mid.call (z3W H (W2 ds n) (by omega) o) Z Z Z Z ?_;refine fM Z ?_;refine Run.fin Z (z5.go ?_);exact .t Z
def Qz (bas:Bool):Nat->List Int->List Int->Bool
 |0,_,_=>false
 |k+1,a,b=>
  if nnF b=true then nnF a&&Qz bas k (ZI a) (ZI b)
  else if nnF a=true then Qz bas k (ZI a) b
  else if (qa a||qa b)=true then qa a&&qa b&&Qz bas k (ZI a).tail (ZI b).tail
  else bas
def z3N (ds:List Def) (a b:Str):Bool:=a==b||isF ds a b
def z6f (P:Program) (f:Nat) (ds:List Def) (k:Nat) (a b:Ref):Prop:=z9 P f [yd ds,a.v,b.v] ⟨[],0⟩ {v:= .t (.bool (Qz (z3N ds a.name b.name) k a.zq b.zq))}
theorem z9I {t:Ref} (ht:t.Ok):(⟨t.name,(ZI t.zq).tail⟩:Ref).Ok:=⟨by
 have:=W1 t.zq;have:=ht.l;show (ZI t.zq).tail.length*8<=_
 rw [List.length_tail];omega,ht.nm⟩
end Go.GB.C11
namespace Go.GB.C11
open Go.GB
variable {P:Program}
theorem z7U (H:Pr P) (ds:List Def) (hD:Zd ds) (k:Nat) (a b:Ref) (ha:a.Ok) (hb:b.Ok)
  (hrec:∀x y:Ref,x.Ok->y.Ok->x.zq.length+y.zq.length<a.zq.length+b.zq.length->z6f P 120 ds k x y):z6f P 120 ds (k+1) a b:=by
 unfold z6f;refine z9.run H.i120 H.mixed Z Z ?_;refine fR Z ?_;refine Mid.call (z20 H b hb) Z Z Z Z ?_;refine fM Z ?_;refine Run.cond Z Z (fun h1=>?_) (fun h1=>?_)
 ·have h1':nnF b.zq=true:=h1
  have e:Qz (z3N ds a.name b.name) (k+1) a.zq b.zq=(nnF a.zq&&Qz (z3N ds a.name b.name) k (ZI a.zq) (ZI b.zq)):=by simp only [Qz];rw [if_pos h1']
  have hc:=hrec ⟨a.name,ZI a.zq⟩ ⟨b.name,ZI b.zq⟩ (z64 ha) (z64 hb) (by
   have:=W1 a.zq;have h2:=z1l h1'
   cases hw:b.zq with
   |nil=>rw [hw] at h1';cases h1'
   |cons c r=>rw [hw] at h2;simp only [h2];simp;omega)
  unfold z6f at hc;refine fR Z ?_;refine Mid.call (z20 H a ha) Z Z Z Z ?_;refine fM Z ?_;refine caG Z Z (fun hg=>⟨_,rfl,Ye H a ha,rfl⟩) Z Z ?_;refine fM Z ?_;refine caG Z Z (fun hg=>⟨_,rfl,Ye H b hb,rfl⟩) Z Z ?_;skip;refine caG Z Z (fun hg=>⟨_,rfl,hc,rfl⟩) Z Z ?_;refine fM Z ?_;refine Run.fin Z (z5.go ?_);exact .t (by rw [e])
 ·have h1':¬ nnF b.zq=true:=by rw [show nnF b.zq=false from h1];simp
  refine fR Z ?_;refine Mid.call (z20 H a ha) Z Z Z Z ?_;refine fM Z ?_;refine Run.cond Z Z (fun h2=>?_) (fun h2=>?_)
  ·have h2':nnF a.zq=true:=h2
   have e:Qz (z3N ds a.name b.name) (k+1) a.zq b.zq=Qz (z3N ds a.name b.name) k (ZI a.zq) b.zq:=by simp only [Qz];rw [if_neg h1',if_pos h2']
   have hc:=hrec ⟨a.name,ZI a.zq⟩ b (z64 ha) hb (by
    have h2:=z1l h2'
    cases hw:a.zq with
    |nil=>rw [hw] at h2';cases h2'
    |cons c r=>rw [hw] at h2;simp only [h2];simp)
   unfold z6f at hc;refine fR Z ?_;refine Mid.call (Ye H a ha) Z Z Z Z ?_;refine fM Z ?_;refine Mid.call (hc) Z Z Z Z ?_;refine fM Z ?_;refine Run.fin Z (z5.go ?_);exact .t (by rw [e])
  ·have h2':¬ nnF a.zq=true:=by rw [show nnF a.zq=false from h2];simp
   have e:Qz (z3N ds a.name b.name) (k+1) a.zq b.zq=if (qa a.zq||qa b.zq)=true then qa a.zq&&qa b.zq&&Qz (z3N ds a.name b.name) k (ZI a.zq).tail (ZI b.zq).tail else z3N ds a.name b.name:=by simp only [Qz];rw [if_neg h1',if_neg h2']
   refine fR Z ?_
   cases hla:qa a.zq with
   |true=>
    refine Mid.call (Q9 H a ha hla) Z Z Z Z ?_;refine fM Z ?_
    cases hlb:qa b.zq with
    |true=>
     have hc:=hrec ⟨a.name,(ZI a.zq).tail⟩ ⟨b.name,(ZI b.zq).tail⟩ (z9I ha) (z9I hb) (by
      have h3:=W1 a.zq;have h4:=W1 b.zq;obtain ⟨r,hr⟩:=z4g hla;rw [hr] at h3;simp only [List.length_tail,hr]
      simp at h3⊢;omega)
     unfold z6f at hc;rw [hla,hlb] at e;refine Mid.call (Q9 H b hb hlb) Z Z Z Z ?_;refine fM Z ?_;refine Run.zm Z Z Z ?_;refine fR Z ?_;refine Mid.call (hc) Z Z Z Z ?_;refine fM Z ?_;refine Run.fin Z (z5.go ?_);exact .t (by rw [e];rfl)
    |false=>
     rw [hla,hlb] at e;refine Mid.call (Q2 H b hb hlb) Z Z Z Z ?_;refine fM Z ?_;refine Run.zj Z Z Z ?_;refine fR Z ?_;refine Mid.Y1 Z Z Z Z Z ?_;refine fM Z ?_;refine Run.fin Z (z5.go ?_);exact .t (by rw [e];rfl)
   |false=>
    refine Mid.call (Q2 H a ha hla) Z Z Z Z ?_;refine fM Z ?_
    cases hlb:qa b.zq with
    |true=>
     rw [hla,hlb] at e;refine Mid.call (Q9 H b hb hlb) Z Z Z Z ?_;refine fM Z ?_;refine Run.zj Z Z Z ?_;refine fR Z ?_;refine Mid.Y1 Z Z Z Z Z ?_;refine fM Z ?_;refine Run.fin Z (z5.go ?_);exact .t (by rw [e];rfl)
    |false=>
     rw [hla,hlb] at e;refine Mid.call (Q2 H b hb hlb) Z Z Z Z ?_;refine fM Z ?_;refine Run.zj Z Z Z ?_;refine fR Z ?_;refine caG Z Z (fun hg=>⟨_,rfl,z93 H ds hD a.name b.name,rfl⟩) Z Z ?_;refine fM Z ?_;refine Run.fin Z (z5.go ?_);exact .t (by rw [e];rfl)
theorem z6Z (H:Pr P) (ds:List Def) (hD:Zd ds):∀(k:Nat) (a b:Ref),a.zq.length+b.zq.length<k->a.Ok->b.Ok->z6f P 120 ds k a b
 |0,a,b,h,_,_=>by omega
 |k+1,a,b,h,ha,hb=>z7U H ds hD k a b ha hb fun x y hx hy hlt=>z6Z H ds hD k x y (by omega) hx hy
end Go.GB.C11
namespace Go.GB.C11
open Go.GB
variable {P:Program}
def ovF (ds:List Def) (a b:Str):Bool:=(W2 ds a).any fun x=>decide (x∈W2 ds b)
theorem z57 (H:Pr P) (ds:List Def) (hD:Zd ds) (a b:Str):z9 P 122 [yd ds,.t (.str a),.t (.str b)] ⟨[],0⟩ {v:= .t (.bool (ovF ds a b))}:=by
 have hla:=z4N ds a;have:=hD.l;refine z9.run H.i122 H.mixed Z Z ?_;refine fR Z ?_;refine Mid.call (Qb H ds hD a) Z Z Z Z ?_;refine fM Z ?_;refine zx (W2 ds a) (fun i (_:Unit)=>{env:=[(2,.t (.str b)),(3,.ptr 0 0),(7,.t (.lst ((W2 ds a).map sE))),(8,.t (.int .i64 i))],s:=⟨[(0,.cells [.t (.lst (ds.map Def.enc))])],1⟩}) (fun r i _=>ovF ds a b=r.any (fun x=>decide (x∈W2 ds b))) 1 () Z Z Z Z Z ?_ ?_
 ·intro _ hinv;refine fR Z ?_;refine lM Z Z Z ?_;refine fM Z ?_;refine Run.zj Z Z (by simp) ?_;refine fR Z ?_;refine Run.fin Z (z5.go ?_);exact .t (by rw [hinv];rfl)
 ·intro i x r _ h1 hi hd hinv ih;refine fR Z ?_;refine lM Z Z Z ?_;refine fM Z ?_;refine Run.zm Z Z (by simp;omega) ?_;refine fR Z ?_;refine Mid.ze Z Z Z h1 Z Z ?_;refine fM Z ?_;refine Mid.call (z93 H ds hD x b) Z Z Z Z ?_;refine fM Z ?_;refine Run.cond Z Z (fun hc=>?_) (fun hc=>?_)
  ·refine fR Z ?_;have hc':decide (x∈W2 ds b)=true:=hc;refine Run.fin Z (z5.go ?_);exact .t (by rw [hinv,List.any_cons,hc'];rfl)
  ·refine fR Z ?_;refine aL Z Z Z Z Z ?_;refine fM Z ?_;have hc':decide (x∈W2 ds b)=false:=hc;exact zk 1 Z (ih () (by rw [hinv,List.any_cons,hc'];rfl)) Z Z Z
theorem z0V {α:Type} {l:List α} {i:Nat} {y:α} (h:l[i]?=some y):l.drop i=y::l.drop (i+1):=by
 obtain ⟨hi,hy⟩:=List.getElem?_eq_some_iff.1 h;rw [List.drop_eq_getElem_cons hi,hy]
theorem z2O {α β:Type} {a:List α} {b:List β} (h:a.length=b.length) {i:Nat} (hi:i<a.length):∃y,b[i]?=some y:=⟨b[i]'(by omega),by simp [show i<b.length by omega]⟩
theorem zbZ (H:Pr P) (a b:List Int) (ha:a.length<=140737488355328) (hb:b.length<=140737488355328):z9 P 142 [.t (.lst (a.map nE)),.t (.lst (b.map nE))] ⟨[],0⟩ {v:= .t (.bool (decide (a=b)))}:=by
 refine z9.run H.i142 H.mixed Z Z ?_;refine fR Z ?_;refine lM Z Z Z ?_;refine fM Z ?_;refine lM Z Z Z ?_;refine fM Z ?_;refine Run.cond Z Z (fun h=>?_) (fun h=>?_)
 ·have h':¬ a.length=b.length:=by simp at h;omega
  refine fR Z ?_;refine Run.fin Z (z5.go ?_);exact .t (by simp;intro e;exact h' (by rw [e]))
 ·have h':a.length=b.length:=by simp at h;omega
  refine fR Z ?_;refine zx a (fun i (_:Unit)=>{env:=[(0,.t (.lst (a.map nE))),(1,.t (.lst (b.map nE))),(5,.t (.int .i64 i))],s:=⟨[],0⟩}) (fun r i _=>decide (a=b)=decide (r=b.drop i)) 0 () Z (by simp) Z Z Z ?_ ?_
  ·intro _ hinv;refine fR Z ?_;refine lM Z Z Z ?_;refine fM Z ?_;refine Run.zj Z Z (by simp) ?_;refine fR Z ?_;refine Run.fin Z (z5.go ?_);exact .t (by rw [hinv,h'];simp)
  ·intro i x r _ h1 hi hd hinv ih;obtain ⟨y,hy⟩:=z2O h' hi;have hinv':decide (a=b)=decide (x::r=b.drop i):=hinv;rw [z0V hy] at hinv';refine fR Z ?_;refine lM Z Z Z ?_;refine fM Z ?_;refine Run.zm Z Z (by simp;omega) ?_;refine fR Z ?_;refine Mid.ze Z Z Z h1 Z Z ?_;refine fM Z ?_;refine Mid.ze Z Z Z hy Z Z ?_;refine fM Z ?_;refine Run.cond Z Z (fun hc=>?_) (fun hc=>?_)
   ·have hc':¬ x=y:=by simpa using hc
    refine fR Z ?_;refine Run.fin Z (z5.go ?_);exact .t (by rw [hinv'];simp [hc'])
   ·have hc':x=y:=by simpa using hc
    refine fR Z ?_;refine aL Z Z Z Z Z ?_;refine fM Z ?_;exact zk 0 Z (ih () (by rw [hinv'];simp [hc'])) Z Z Z
theorem z2s (H:Pr P) (a b:List Int) (ha:a.length<=140737488355328) (hb:b.length<=140737488355328):z9 P 133 [.t (.lst (a.map nE)),.t (.lst (b.map nE))] ⟨[],0⟩ {v:= .t (.bool (decide (a=b)))}:=by
 refine z9.run H.i133 H.mixed Z Z ?_;refine fR Z ?_;refine lM Z Z Z ?_;refine fM Z ?_;refine lM Z Z Z ?_;refine fM Z ?_;refine Run.cond Z Z (fun h=>?_) (fun h=>?_)
 ·have h':¬ a.length=b.length:=by simp at h;omega
  refine fR Z ?_;refine Run.fin Z (z5.go ?_);exact .t (by simp;intro e;exact h' (by rw [e]))
 ·have h':a.length=b.length:=by simp at h;omega
  refine fR Z ?_;refine lM Z Z Z ?_;refine fM Z ?_;refine zx a (fun i (_:Unit)=>{env:=[(0,.t (.lst (a.map nE))),(1,.t (.lst (b.map nE))),(12,.t (.int .i64 a.length)),(13,.t (.int .i64 i))],s:=⟨[],0⟩}) (fun r i _=>decide (a=b)=decide (r=b.drop i)) 0 () Z (by simp) Z Z Z ?_ ?_
  ·intro _ hinv;refine fR Z ?_;refine Run.zj Z Z (by simp) ?_;refine fR Z ?_;refine Run.fin Z (z5.go ?_);exact .t (by rw [hinv,h'];simp)
  ·intro i x r _ h1 hi hd hinv ih;obtain ⟨y,hy⟩:=z2O h' hi;have hinv':decide (a=b)=decide (x::r=b.drop i):=hinv;rw [z0V hy] at hinv';refine fR Z ?_;refine Run.zm Z Z (by simp;omega) ?_;refine fR Z ?_;refine Mid.ze Z Z Z h1 Z Z ?_;refine fM Z ?_;refine Mid.ze Z Z Z hy Z Z ?_;refine fM Z ?_;refine Run.cond Z Z (fun hc=>?_) (fun hc=>?_)
   ·have hc':¬ x=y:=by simpa using hc
    refine fR Z ?_;refine Run.fin Z (z5.go ?_);exact .t (by rw [hinv'];simp [hc'])
   ·have hc':x=y:=by simpa using hc
    refine fR Z ?_;refine aL Z Z Z Z Z ?_;refine fM Z ?_;exact zk 0 Z (ih () (by rw [hinv'];simp [hc'])) Z Z Z
structure z4 where
 err:Int
 at_:Str
instance:DecidableEq z4:=fun a b=>decidable_of_iff (a.err=b.err/\a.at_=b.at_) (by cases a;cases b;simp)
def z4.enc (f:z4):List T:=[.int .i64 f.err,.str f.at_]
end Go.GB.C11
namespace Go.GB.C11
open Go.GB
variable {P:Program}
def wj (n:Str):Bool:=n==[73,110,116]||n==[83,116,114,105,110,103]||n==[66,111,111,108,101,97,110]||n==[73,68]
theorem z8t (H:Pr P) (n:Str):z9 P 146 [.t (.str n)] ⟨[],0⟩ {v:= .t (.bool (wj n))}:=by
 refine z9.run H.i146 H.mixed Z Z ?_;refine fR Z ?_;refine Run.fin Z (z5.go ?_);exact .t (by simp [wj])
theorem Yt (H:Pr P) (n:Str):z9 P 39 [.t (.str n)] ⟨[],0⟩ {v:= .t (.bool (wj n))}:=by
 refine z9.run H.i39 H.mixed Z Z ?_;refine fR Z ?_;refine Run.fin Z (z5.go ?_);exact .t (by simp [wj])
def z8r (c:Int):Bool:=(decide (c≥65)&&decide (c<=90))||(decide (c≥97)&&decide (c<=122))||c==95
def Yr (c:Int):Bool:=decide (c≥48)&&decide (c<=57)
theorem z7T (H:Pr P) (c:Int):z9 P 79 [.t (.int .u8 c)] ⟨[],0⟩ {v:= .t (.bool (z8r c))}:=by
 refine z9.run H.i79 H.mixed Z Z ?_;refine fR Z ?_;refine Run.fin Z (z5.go ?_);exact .t Z
theorem z8U (H:Pr P) (c:Int):z9 P 80 [.t (.int .u8 c)] ⟨[],0⟩ {v:= .t (.bool (Yr c))}:=by
 refine z9.run H.i80 H.mixed Z Z ?_;refine fR Z ?_;refine Run.fin Z (z5.go ?_);exact .t Z
def z65 (first:Bool):List UInt8->Bool
 |[]=>true
 |c::r=>(z8r c.toNat||(!first&&Yr c.toNat))&&z65 false r
def zl (s:Str):Bool:=decide (1<=s.length/\s.length<=64)&&z65 true s
theorem yt (H:Pr P) (s:Str) (hs:s.length<=140737488355328):z9 P 45 [.t (.str s)] ⟨[],0⟩ {v:= .t (.bool (zl s))}:=by
 refine z9.run H.i45 H.mixed Z Z ?_;refine fR Z ?_;refine Run.cond Z Z (fun h=>?_) (fun h=>?_)
 ·have h':¬ (1<=s.length/\s.length<=64):=by simp at h;omega
  refine fR Z ?_;refine Run.fin Z (z5.go ?_);exact .t (by unfold zl;rw [show decide (1<=s.length/\s.length<=64)=false from by simpa using h'];rfl)
 ·have h':1<=s.length/\s.length<=64:=by simp at h;omega
  have e:zl s=z65 true s:=by unfold zl;rw [show decide (1<=s.length/\s.length<=64)=true from by simpa using h'];rfl
  refine fR Z ?_;refine zx s (fun i (_:Unit)=>{env:=[(0,.t (.str s)),(3,.t (.int .i64 i))],s:=⟨[],0⟩}) (fun r i _=>z65 true s=z65 (i==0) r) 0 () Z Z Z Z Z ?_ ?_
  ·intro _ hinv;refine fR Z ?_;refine Run.zj Z Z (by simp) ?_;refine fR Z ?_;refine Run.fin Z (z5.go ?_);exact .t (by rw [e,hinv];rfl)
  ·intro i c r _ h1 hi hd hinv ih;refine fR Z ?_;refine Run.zm Z Z (by simp;omega) ?_;refine fR Z ?_;refine Mid.byte Z Z h1 Z ?_;skip;refine Mid.call (z7T H c.toNat) Z Z Z Z ?_;refine fM Z ?_;refine byG Z Z Z h1 Z ?_;skip;refine caG Z Z (fun hg=>⟨_,rfl,z8U H c.toNat,rfl⟩) Z Z ?_;refine fM Z ?_
   have hb:((i:Int)==0)=(i==0):=by
    cases i with
    |zero=>rfl
    |succ i=>simp;omega
   have hb2:(i+1==0)=false:=by simp
   refine Run.cond Z Z (fun hc=>?_) (fun hc=>?_)
   ·have hc':(z8r c.toNat||(!(i==0)&&Yr c.toNat))=false:=by
     rw [hb] at hc
     revert hc;cases z8r c.toNat<;>cases (i==0)<;>cases Yr c.toNat<;>simp
    refine fR Z ?_;refine Run.fin Z (z5.go ?_);exact .t (by rw [e,hinv];simp only [z65];rw [hc'];rfl)
   ·have hc':(z8r c.toNat||(!(i==0)&&Yr c.toNat))=true:=by
     rw [hb] at hc
     revert hc;cases z8r c.toNat<;>cases (i==0)<;>cases Yr c.toNat<;>simp
    refine fR Z ?_;refine aL Z Z Z Z Z ?_;refine fM Z ?_;exact zk 0 Z (ih () (by rw [hinv,hb2];simp only [z65];rw [hc'];rfl)) Z Z Z
def rgW (first nn:Bool):List Int->Bool
 |[]=>true
 |w::r=>!(w !=1&&w !=2)&&!(!first&&w==1&&nn)&&rgW false (w==1) r
def wo (t:Ref):Bool:=zl t.name&&decide (t.zq.length<=24)&&rgW true false t.zq
theorem Qf (H:Pr P) (t:Ref) (ht:t.Ok):z9 P 81 [t.v] ⟨[],0⟩ {v:= .t (.bool (wo t))}:=by
 have hl:=ht.l;have hn:=ht.nm;refine z9.run H.i81 H.mixed Z Z ?_;refine fR Z ?_;refine Mid.call (yt H t.name hn) Z Z Z Z ?_;refine fM Z ?_;refine lMG Z Z Z Z ?_;refine fM Z ?_;refine Run.cond Z Z (fun h=>?_) (fun h=>?_)
 ·refine fR Z ?_
  refine Run.fin Z (z5.go ?_);exact .t (by
   unfold wo
   have:(zl t.name&&decide (t.zq.length<=24))=false:=by
    cases h1:zl t.name with
    |false=>rfl
    |true=>rw [h1] at h;simp at h;simp;omega
   rw [this];rfl)
 ·have h':(zl t.name&&decide (t.zq.length<=24))=true:=by
   cases h1:zl t.name with
   |false=>rw [h1] at h;simp at h
   |true=>rw [h1] at h;simp at h;simp;omega
  have e:wo t=rgW true false t.zq:=by unfold wo;rw [h'];rfl
  refine fR Z ?_
  refine zx t.zq (fun i (_:Unit)=>{env:=[(1,.ptr 0 0),(3,.t (.int .i64 i))],s:=⟨[(0,.cells [.t (.str t.name),.t (.lst (t.zq.map nE))])],1⟩}) (fun r i _=>∃nn:Bool,(∀j:Nat,i=j+1->∃w,t.zq[j]?=some w/\nn=(w==1))/\rgW true false t.zq=rgW (i==0) nn r) 1 () Z ⟨false,fun j h=>by omega,rfl⟩ rfl rfl rfl ?_ ?_
  ·rintro _ ⟨nn,_,hinv⟩;refine fR Z ?_;refine lM Z Z Z ?_;refine fM Z ?_;refine Run.zj Z Z (by simp) ?_;refine fR Z ?_;refine Run.fin Z (z5.go ?_);exact .t (by rw [e,hinv];rfl)
  ·rintro i w r _ h1 hi hd ⟨nn,hnn,hinv⟩ ih;refine fR Z ?_;refine lM Z Z Z ?_;refine fM Z ?_;refine Run.zm Z Z (by simp;omega) ?_;refine fR Z ?_;refine Mid.ze Z Z Z h1 Z Z ?_;refine fM Z ?_;refine elG Z Z Z Z h1 Z Z ?_;refine fM Z ?_;refine Run.cond Z Z (fun hc=>?_) (fun hc=>?_)
   ·refine fR Z ?_;refine Run.fin Z (z5.go ?_);exact .t (by rw [e,hinv];simp only [rgW];rw [show (w !=1&&w !=2)=true from hc];rfl)
   ·have hc':(w !=1&&w !=2)=false:=hc
    have hlast:∀j:Nat,i+1=j+1->∃w',t.zq[j]?=some w'/\(w==1)=(w'==1):=fun j hj=>by
     obtain rfl:j=i:=by omega
     exact ⟨w,h1,rfl⟩
    have hb2:(i+1==0)=false:=by simp
    cases i with
    |zero=>
     obtain ⟨nm,ws⟩:=t
     cases ws with
     |nil=>simp at hi
     |cons w0 r0=>
      simp at h1 hd;subst h1;subst hd;refine fR Z ?_;refine gr Z ?_;refine fM Z ?_;refine zdE Z Z Z Z ?_;refine gr Z ?_;refine fM Z ?_;refine Run.zj Z Z Z ?_;refine fR Z ?_;refine aL Z Z Z Z Z ?_;refine fM Z ?_;exact zk 1 Z (ih () ⟨w0==1,hlast,by rw [hinv,hb2];simp only [rgW];rw [hc'];rfl⟩) rfl rfl rfl
    |succ j=>
     obtain ⟨w',hw',rfl⟩:=hnn j rfl
     have ej:IntKind.i64.wrap (((j+1:Nat):Int) - 1)=(j:Int):=by rw [wrap64 (by omega) (by omega)];omega
     refine fR Z ?_;refine elG Z Z Z Z h1 Z Z ?_;refine fM Z ?_;refine zdE Z Z Z Z ?_
     rw [show ((j+1:Nat):Int) - 1=(j:Int) from by omega]
     refine elG Z Z Z Z hw' Z Z ?_;refine fM Z ?_;have hg:decide (((j+1:Nat):Int)>0)=true:=decide_eq_true (by omega)
     have hb1:(j+1==0)=false:=by simp
     refine Run.cond Z Z (fun hx=>?_) (fun hx=>?_)
     ·refine fR Z ?_
      refine Run.fin Z (z5.go ?_);exact .t (by
       rw [hg] at hx;have e3:(w==1&&w'==1)=true:=hx
       rw [e,hinv,hb1];simp only [rgW,hc',Bool.not_false,Bool.true_and,e3];rfl)
     ·rw [hg] at hx;refine fR Z ?_;refine aL Z Z Z Z Z ?_;refine fM Z ?_
      exact zk 1 Z (ih () ⟨w==1,hlast,by
       have e3:(w==1&&w'==1)=false:=hx
       rw [hinv,hb1,hb2];simp only [rgW,hc',Bool.not_false,Bool.true_and,e3]⟩) rfl rfl rfl
end Go.GB.C11
namespace Go.GB.C11
open Go.GB
variable {P:Program}
end Go.GB.C11
namespace Go.GB.C11
open Go.GB
end Go.GB.C11
namespace Go.GB.C11
open Go.GB
variable {P:Program}
def Input.v (x:Input):V:= .agg [.t (.str x.name),.t (.str x.ty.name),.t (.lst (x.ty.zq.map nE)),.t (.bool x.has),.t (.int .i64 x.yI.kind),.t (.int .i64 x.yI.int),.t (.str x.yI.text),.t (.lst (x.yI.items.map Val.enc)),.t (.lst (x.yI.keys.map sE)),.t (.lst (x.zS.map Dir.enc))]
def Input.zero:Input:=⟨[],⟨[],[]⟩,false,Val.zero,[]⟩
theorem Input.Wi:Input.zero.Ok:=⟨⟨by decide,by decide⟩,Val.Wi,by decide,by simp [Input.zero],by decide⟩
def Z1 (n:Str):List Input->Option Input
 |[]=>none
 |d::r=>if (d.name==n)=true then some d else Z1 n r
theorem qM {n:Str}:∀{l:List Input} {d:Input},Z1 n l=some d->d∈l
 |[],d,h=>by simp [Z1] at h
 |x::r,d,h=>by
  simp only [Z1] at h;split at h
  ·cases h;exact List.mem_cons_self ..
  ·exact List.mem_cons_of_mem _ (qM h)
def z0y (a b:Ref):Bool:=a.name==b.name&&decide (a.zq=b.zq)
theorem z5y (H:Pr P) (a b:Ref) (ha:a.Ok) (hb:b.Ok):z9 P 134 [a.v,b.v] ⟨[],0⟩ {v:= .t (.bool (z0y a b))}:=by
 have h1:=ha.l;have h2:=hb.l;refine z9.run H.i134 H.mixed Z Z ?_;refine fR Z ?_;refine caG Z Z (fun hg=>⟨_,rfl,z2s H a.zq b.zq (by omega) (by omega),rfl⟩) Z Z ?_;refine fM Z ?_;refine Run.fin Z (z5.go ?_);exact .t Z
def yi (ds:List Def) (n:Str) (k:Int):Int:=
 if (!(zh n ds).isSome&&!(wj n))=true then 8
 else if (!(zh n ds).isSome||((zh n ds).getD Def.zero).kind !=k)=true then 9
 else 0
end Go.GB.C11
namespace Go.GB.C11
open Go.GB
variable {P:Program}
def z7u (ds:List Def) (a b:Ref):Bool:=Qz (z3N ds a.name b.name) (a.zq.length+b.zq.length+1) a.zq b.zq
theorem z7M (H:Pr P) (ds:List Def) (hD:Zd ds) (a b:Ref) (ha:a.Ok) (hb:b.Ok):z9 P 120 [yd ds,a.v,b.v] ⟨[],0⟩ {v:= .t (.bool (z7u ds a b))}:=z6Z H ds hD _ a b (Nat.lt_succ_self _) ha hb
def zbD (y:Field) (a:Input):Bool:=!(Z1 a.name y.args).isSome||!(z0y a.ty ((Z1 a.name y.args).getD Input.zero).ty)
def qd (y:Field) (at_:Str):List Input->List z4
 |[]=>[]
 |a::r=>if zbD y a=true then ⟨22,at_++[40]++a.name++[41]⟩::qd y at_ r else qd y at_ r
def zaY (x:Field) (b:Input):Bool:=!(Z1 b.name x.args).isSome&&nnF b.ty.zq&&!b.has
def Wv (x:Field) (at_:Str):List Input->List z4
 |[]=>[]
 |b::r=>if zaY x b=true then ⟨22,at_++[40]++b.name++[41]⟩::Wv x at_ r else Wv x at_ r
def atF (t:Def) (x:Field):Str:=t.name++[46]++x.name
def z4S (ds:List Def) (t:Def) (x:Field):List z4:=
 match zD x.name t.fields with
 |none=>[⟨20,atF t x⟩]
 |some y=>(if z7u ds y.ty x.ty=true then [] else [(⟨10,atF t x⟩:z4)])++(qd y (atF t x) x.args++Wv x (atF t x) y.args)
def Ws (ds:List Def) (t:Def):List Field->List z4
 |[]=>[]
 |x::r=>z4S ds t x++Ws ds t r
theorem zee {l:List Input} (h:∀y,y∈l->y.Ok) (n:Str):((Z1 n l).getD Input.zero).Ok:=by
 cases e:Z1 n l with
 |none=>exact Input.Wi
 |some x=>exact h x (qM e)
end Go.GB.C11
namespace Go.GB.C11
open Go.GB
variable {P:Program}
def z2b (ds:List Def) (pre:List Str) (n:Str):Int:=if (yi ds n 2==0&&decide (n∈pre))=true then 7 else yi ds n 2
def z3A (ds:List Def) (t:Def):List Str->List Str->List z4
 |_,[]=>[]
 |pre,n::r=>(if z2b ds pre n=0 then Ws ds t ((zh n ds).getD Def.zero).fields else [(⟨z2b ds pre n,t.name⟩:z4)])++z3A ds t (pre++[n]) r
def z8g (ds:List Def) (t:Def):List z4:=z3A ds t [] t.implements
end Go.GB.C11
namespace Go.GB.C11
open Go.GB
variable {P:Program}
def unE (ds:List Def) (pre:List ZF) (m:ZF):Int:=if (yi ds m.name 1==0&&qU pre m.name)=true then 7 else yi ds m.name 1
def unL (ds:List Def) (t:Def):List ZF->List ZF->List z4
 |_,[]=>[]
 |pre,m::r=>(if unE ds pre m=0 then [] else [(⟨unE ds pre m,t.name++[46]++m.name⟩:z4)])++unL ds t (pre++[m]) r
def wI (ds:List Def):List Def->List z4
 |[]=>[]
 |t::r=>(if t.kind=1 then z8g ds t else if t.kind=3 then unL ds t [] t.members else [])++wI ds r
def QQ (ds:List Def):List z4:=wI ds ds
end Go.GB.C11
namespace Go.GB
section
variable {P:Program} {n m:Nat} {R:St->Prop} {draw:Bool} {all:List AO} {after:List (List Nat)} {live:List Nat} {k:List It} {b b':Nat} {fl:List (Bool×Bool)} {ops:List AO} {st st':St} {d:Option Nat}
def z7D {α:Type} (st:St):List Ar->(List V->α)->α
 |[],K=>K []
 |x::r,K=>(x.u st).force fun v=>z7D st r fun vs=>K (v::vs)
theorem z5o {α:Type} (st:St):∀(l:List Ar) (K:List V->α),z7D st l K=K (yk st l)
 |[],K=>rfl
 |x::r,K=>by simp only [z7D,V.force_eq,z5o st r,yk]
theorem Mid.yD {f:FuncId} {args:List Ar} {vs vs':List V} {s1:List (Nat×z3)} {m1:Nat} {out:Out} {v':V} {ob':List (Nat×z3)} {cc:Bool} (r:List Nat) (h:z9 P f vs ⟨s1,m1⟩ out) (hr:(WL r&&(r.all (fun k=>Nat.blt k b))&&Nat.beq r.length m1)=true)
  (hv:z7D st args some=some vs') (hvs:V.qk (zt r b) vs=vs') (hb:V.bds m1 vs=true) (hs1:zG m1 s1=true) (hsub:z8A (zt r b) st.s.sto s1 m1) (hob:z9m s1 m1 out.n out.ob=true)
  (hv':out.v.ren (zt r b)=v') (hob':wx (zt r b) out.ob=ob') (hcc:qP (!ob'.isEmpty||decide (0<out.n)) some=some cc)
  (hst:Wa b st d {v:=v',ob:=ob',n:=out.n,rd:=true} (fun b' st'=>some (b',st'))=some (b',st'))
  (h':Mid P n m R draw all after live k b' ((true,cc)::fl) ops st'):Mid P n m R draw all after live k b fl (⟨d,none,.call f args⟩::ops) st:=by
 simp only [Bool.and_eq_true] at hr;obtain ⟨⟨hr1,hr2⟩,hr3⟩:=hr;have hm:r.length=m1:=Nat.eq_of_beq_eq_true hr3;subst hm;rw [z5o] at hv;simp at hv;refine Mid.opX Z ?_;simp only [evX];rw [hv,←hvs]
 have hat:FnL P f (V.qk (zt r b) vs) b st.s.sto {v:=v',ob:=ob',n:=out.n,rd:=true}:=by
  intro s' hk;have hrn:=zah (n:=out.n) hr1 hr2;have:=z9.ren hrn h hb hs1 (fun j hj=>(hk _ (hrn.low j hj)).trans (z0L hsub j hj)) (z3m hob);rw [hv',←z1p,hob'] at this;exact this
 simp only [wO,Option.some.injEq] at hcc;simp only [Y6,Option.some.injEq,Prod.mk.injEq] at hst;obtain ⟨rfl,rfl⟩:=hst
 refine ⟨{v:=v',ob:=ob',n:=out.n,rd:=true},by simp only [if_true];exact hat,?_⟩
 simp only [hcc];exact h'
end
end Go.GB
namespace Go.GB.C11
open Go.GB
variable {P:Program}
def zdR:Str->Bool
 |a::b::_=>(a.toNat:Int)==95&&(b.toNat:Int)==95
 |_=>false
theorem z5q (H:Pr P) (s:Str) (hs:s.length<=140737488355328):z9 P 137 [.t (.str s)] ⟨[],0⟩ {v:= .t (.bool (zdR s))}:=by
 match s,hs with
 |[],_=>
  refine z9.run H.i137 H.mixed Z Z ?_;refine fR Z ?_;refine Mid.Y1 Z Z Z Z Z ?_;refine Mid.Y1 Z Z Z Z Z ?_;refine fM Z ?_;refine Mid.Y1 Z Z Z Z Z ?_;refine Mid.Y1 Z Z Z Z Z ?_;refine fM Z ?_;refine Run.fin Z (z5.go ?_);exact .t Z
 |[a],_=>
  refine z9.run H.i137 H.mixed Z Z ?_;refine fR Z ?_;refine gr Z ?_;refine fM Z ?_;refine Mid.Y1 Z Z Z Z Z ?_;refine Mid.Y1 Z Z Z Z Z ?_;refine fM Z ?_;refine Run.fin Z (z5.go ?_);exact .t Z
 |a::b::r,hs=>
  refine z9.run H.i137 H.mixed Z Z ?_;refine fR Z ?_;refine gr Z ?_;refine fM Z ?_;refine gr Z ?_;refine fM Z ?_
  refine Run.fin Z (z5.go ?_);exact .t (by
   have:decide (((a::b::r).length:Int)≥2)=true:=by simp;omega
   rw [this];rfl)
def wS (n:Str):Bool:=zl n&&!zdR n
theorem z18 (H:Pr P) (n:Str) (hn:n.length<=140737488355328):z9 P 117 [.t (.str n)] ⟨[],0⟩ {v:= .t (.bool (wS n))}:=by
 refine z9.run H.i117 H.mixed Z Z ?_;refine fR Z ?_;refine Mid.call (yt H n hn) Z Z Z Z ?_;refine fM Z ?_;refine caG Z Z (fun hg=>⟨_,rfl,z5q H n hn,rfl⟩) Z Z ?_;refine fM Z ?_;refine Run.fin Z (z5.go ?_);exact .t Z
def Zm (n:Str) (bad twice:Bool) (at_:Str):List z4:=
 (if (bad||!wS n)=true then [(⟨6,at_⟩:z4)] else [])++(if twice=true then [(⟨7,at_⟩:z4)] else [])
theorem z1O (H:Pr P) (n:Str) (hn:n.length<=140737488355328) (bad twice:Bool) (at_:Str):z9 P 85 [.t (.str n),.t (.bool bad),.t (.bool twice),.t (.str at_)] ⟨[],0⟩ {v:= .t (.lst ((Zm n bad twice at_).map z4.enc))}:=by
 refine z9.run H.i85 H.mixed Z Z ?_;refine fR Z ?_;refine caG Z Z (fun hg=>⟨_,rfl,z18 H n hn,rfl⟩) Z Z ?_;refine fM Z ?_;refine Run.cond Z Z (fun h=>?_) (fun h=>?_)
 ·refine fR Z ?_;refine apN z4.enc [(⟨6,at_⟩:z4)] Z Z Z ?_ (h1:=by first |omega|(simp;omega)|(simp;done)) (h2:=by first |omega|(simp;omega)|(simp;done));refine fM rfl ?_
  cases twice with
  |true=>
   refine Run.zm Z Z Z ?_;refine fR Z ?_;refine apM z4.enc [(⟨6,at_⟩:z4)] [(⟨7,at_⟩:z4)] Z Z Z Z Z ?_ (h1:=by first |omega|(simp;omega)|(simp;done)) (h2:=by first |omega|(simp;omega)|(simp;done));refine fM rfl ?_;refine Run.fin rfl (z5.go ?_);exact .own (by unfold Zm;rw [if_pos h,if_pos rfl])
  |false=>
   refine Run.zj Z Z Z ?_;refine fR Z ?_;refine Run.fin Z (z5.go ?_);exact .own (by unfold Zm;rw [if_pos h,if_neg (by simp)];rfl)
 ·refine fR Z ?_
  have h':¬ (bad||!wS n)=true:=by rw [h];simp
  cases twice with
  |true=>
   refine Run.zm Z Z Z ?_;refine fR Z ?_;refine apN z4.enc [(⟨7,at_⟩:z4)] Z Z Z ?_ (h1:=by first |omega|(simp;omega)|(simp;done)) (h2:=by first |omega|(simp;omega)|(simp;done));refine fM rfl ?_;refine Run.fin rfl (z5.go ?_);exact .own (by unfold Zm;rw [if_neg h',if_pos rfl];rfl)
  |false=>
   refine Run.zj Z Z Z ?_;refine fR Z ?_;refine Run.fin Z (z5.go ?_);exact .nil (by unfold Zm;rw [if_neg h',if_neg (by simp)];rfl)
def yE (d:Def):Bool:=if d.kind=1∨d.kind=2 then ((d.fields.length:Int)==0) else if d.kind=3∨d.kind=4 then ((d.members.length:Int)==0) else if d.kind=5 then ((d.zH.length:Int)==0) else false
def qT (ds:List Def) (n:Str):Bool:=wj n||(zh n ds).isSome
theorem z5e (H:Pr P) (ds:List Def) (hD:Zd ds) (n:Str):z9 P 88 [yd ds,.t (.str n)] ⟨[],0⟩ {v:= .t (.bool (qT ds n))}:=by
 refine z9.run H.i88 H.mixed Z Z ?_;refine fR Z ?_;refine Mid.call (yl H ds hD.l n) Z Z Z Z ?_;refine fM Z ?_;refine Mid.call (Yt H n) Z Z Z Z ?_;refine fM Z ?_;refine Run.fin Z (z5.go ?_);exact .t Z
def zcm (ds:List Def) (n:Str):Bool:=wj n||((zh n ds).isSome&&((zh n ds).getD Def.zero).kind==4)
theorem zbE (H:Pr P) (ds:List Def) (hD:Zd ds) (n:Str):z9 P 16 [yd ds,.t (.str n)] ⟨[],0⟩ {v:= .t (.bool (zcm ds n))}:=by
 refine z9.run H.i16 H.mixed Z Z ?_;refine fR Z ?_;refine Mid.call (yl H ds hD.l n) Z Z Z Z ?_;refine fM Z ?_;refine Mid.call (Yt H n) Z Z Z Z ?_;refine fM Z ?_;refine Run.fin Z (z5.go ?_);exact .t Z
def z7L (ds:List Def) (n:Str):Bool:=zcm ds n||((zh n ds).isSome&&((zh n ds).getD Def.zero).kind==5)
theorem z6B (H:Pr P) (ds:List Def) (hD:Zd ds) (n:Str):z9 P 90 [yd ds,.t (.str n)] ⟨[],0⟩ {v:= .t (.bool (z7L ds n))}:=by
 refine z9.run H.i90 H.mixed Z Z ?_;refine fR Z ?_;refine Mid.call (yl H ds hD.l n) Z Z Z Z ?_;refine fM Z ?_;refine Mid.call (zbE H ds hD n) Z Z Z Z ?_;refine fM Z ?_;refine Run.fin Z (z5.go ?_);exact .t Z
theorem q8 (H:Pr P) (l:List Input) (hl:l.length<=140737488355328) (n:Str):z9 P 89 [.t (.lst (l.map Input.enc)),.t (.str n)] ⟨[],0⟩ {v:= .tup [Input.v ((Z1 n l).getD Input.zero),.t (.bool (Z1 n l).isSome)]}:=by
 refine z9.run H.i89 H.mixed Z Z ?_;refine fR Z ?_;refine zx l (fun i (_:Unit)=>{env:=[(0,.t (.lst (l.map Input.enc))),(1,.t (.str n)),(4,.ptr 0 0),(6,.t (.int .i64 i))],s:=⟨[(0,.cells [.t (.str []),.t (.str []),.zV,.t (.bool false),.t (.int .i64 0),.t (.int .i64 0),.t (.str []),.zV,.zV,.zV])],1⟩}) (fun r i _=>Z1 n l=Z1 n r) 1 () Z Z Z Z Z ?_ ?_
 ·intro _ hinv;refine fR Z ?_;refine lM Z Z Z ?_;refine fM Z ?_;refine Run.zj Z Z (by simp) ?_;refine fR Z ?_
  have e:Z1 n l=none:=by rw [hinv];rfl
  rw [e];refine Run.fin Z (z5.go ?_);exact .wu (.agg (.cons (.t Z) (.cons (.t Z) (.cons (.nil Z) (.cons (.t Z) (.cons (.t Z) (.cons (.t Z) (.cons (.t Z) (.cons (.nil Z) (.cons (.nil Z) (.cons (.nil Z) .nil))))))))))) (.t Z)
 ·intro i x r _ h1 hi hd hinv ih;refine fR Z ?_;refine lM Z Z Z ?_;refine fM Z ?_;refine Run.zm Z Z (by simp;omega) ?_;refine fR Z ?_;refine Mid.ze Z Z Z h1 Z Z ?_;refine fM Z ?_;refine Run.cond Z Z (fun h=>?_) (fun h=>?_)
  ·refine fR Z ?_;refine Mid.ze Z Z Z h1 Z Z ?_;refine fM Z ?_
   have e:Z1 n l=some x:=by rw [hinv];simp only [Z1];rw [if_pos h]
   rw [e];refine Run.fin Z (z5.go ?_);exact .wu (.le (.same Z)) (.t Z)
  ·refine fR Z ?_;refine aL Z Z Z Z Z ?_;refine fM Z ?_
   have h':¬ (x.name==n)=true:=by rw [h];simp
   exact zk 1 Z (ih () (by rw [hinv];simp only [Z1];rw [if_neg h'])) Z Z Z
theorem zaN (H:Pr P) (d:Def):z9 P 86 [d.v] ⟨[],0⟩ {v:= .t (.bool (yE d))}:=by
 refine z9.run H.i86 H.mixed Z Z ?_;refine fR Z ?_;refine Run.cond Z Z (fun h1=>?_) (fun h1=>?_)
 ·have e:yE d=((d.fields.length:Int)==0):=by unfold yE;rw [if_pos (.inl (by simpa using h1))]
  skip;refine Run.zm Z Z h1 ?_;refine fR Z ?_;refine lM Z Z Z ?_;refine fM Z ?_;refine Run.fin Z (z5.go ?_);exact .t (by rw [e])
 ·have n1:¬ d.kind=1:=by simpa using h1
  refine fR Z ?_;refine Run.cond Z Z (fun h2=>?_) (fun h2=>?_)
  ·have e:yE d=((d.fields.length:Int)==0):=by unfold yE;rw [if_pos (.inr (by simpa using h2))]
   refine fR Z ?_;refine lM Z Z Z ?_;refine fM Z ?_;refine Run.fin Z (z5.go ?_);exact .t (by rw [e])
  ·have n2:¬ d.kind=2:=by simpa using h2
   refine fR Z ?_;refine Run.cond Z Z (fun h3=>?_) (fun h3=>?_)
   ·have e:yE d=((d.members.length:Int)==0):=by unfold yE;rw [if_neg (by omega),if_pos (.inl (by simpa using h3))]
    skip;refine Run.zm Z Z h3 ?_;refine fR Z ?_;refine lM Z Z Z ?_;refine fM Z ?_;refine Run.fin Z (z5.go ?_);exact .t (by rw [e])
   ·have n3:¬ d.kind=3:=by simpa using h3
    refine fR Z ?_;refine Run.cond Z Z (fun h4=>?_) (fun h4=>?_)
    ·have e:yE d=((d.members.length:Int)==0):=by unfold yE;rw [if_neg (by omega),if_pos (.inr (by simpa using h4))]
     refine fR Z ?_;refine lM Z Z Z ?_;refine fM Z ?_;refine Run.fin Z (z5.go ?_);exact .t (by rw [e])
    ·have n4:¬ d.kind=4:=by simpa using h4
     refine fR Z ?_;refine Run.cond Z Z (fun h5=>?_) (fun h5=>?_)
     ·have e:yE d=((d.zH.length:Int)==0):=by unfold yE;rw [if_neg (by omega),if_neg (by omega),if_pos (by simpa using h5)]
      refine fR Z ?_;refine lM Z Z Z ?_;refine fM Z ?_;refine Run.fin Z (z5.go ?_);exact .t (by rw [e])
     ·have n5:¬ d.kind=5:=by simpa using h5
      refine fR Z ?_;refine Run.fin Z (z5.go ?_);exact .t (by unfold yE;rw [if_neg (by omega),if_neg (by omega),if_neg n5])
end Go.GB.C11
namespace Go.GB.C11
open Go.GB
variable {P:Program}
theorem Wh {n:Str}:∀{l:List Def} {d:Def},zh n l=some d->d.name=n
 |[],d,h=>by simp [zh] at h
 |x::r,d,h=>by
  simp only [zh] at h;split at h
  ·rename_i hx;cases h;simpa using hx
  ·exact Wh h
theorem z5Y (H:Pr P) (l:List Str) (hl:l.length<=140737488355328) (s:Str):z9 P 119 [.t (.lst (l.map sE)),.t (.str s)] ⟨[],0⟩ {v:= .t (.bool (decide (s∈l)))}:=by
 refine z9.run H.i119 H.mixed Z Z ?_;refine fR Z ?_;refine zx l (fun i (_:Unit)=>{env:=[(0,.t (.lst (l.map sE))),(1,.t (.str s)),(5,.t (.int .i64 i))],s:=⟨[],0⟩}) (fun r i _=>decide (s∈l)=decide (s∈r)) 0 () Z Z Z Z Z ?_ ?_
 ·intro _ hinv;refine fR Z ?_;refine lM Z Z Z ?_;refine fM Z ?_;refine Run.zj Z Z (by simp) ?_;refine fR Z ?_;refine Run.fin Z (z5.go ?_);exact .t (by rw [hinv];simp)
 ·intro i x r _ h1 hi hd hinv ih;refine fR Z ?_;refine lM Z Z Z ?_;refine fM Z ?_;refine Run.zm Z Z (by simp;omega) ?_;refine fR Z ?_;refine Mid.ze Z Z Z h1 Z Z ?_;refine fM Z ?_;refine Run.cond Z Z (fun h=>?_) (fun h=>?_)
  ·have h':x=s:=by simpa using h
   refine fR Z ?_;refine Run.fin Z (z5.go ?_);exact .t (by rw [hinv];simp [h'])
  ·have h':¬ x=s:=by simpa using h
   have h2:¬ s=x:=fun e=>h' e.symm;refine fR Z ?_;refine aL Z Z Z Z Z ?_;refine fM Z ?_;exact zk 0 Z (ih () (by rw [hinv];simp [h2])) Z Z Z
def zdX:List Int->Bool
 |[]=>false
 |w::r=>((w::r).length:Int)==1&&w==1
theorem z34 (H:Pr P) (t:Ref):z9 P 138 [t.v] ⟨[],0⟩ {v:= .t (.bool (zdX t.zq))}:=by
 obtain ⟨n,ws⟩:=t
 match ws with
 |[]=>
  refine z9.run H.i138 H.mixed Z Z ?_;refine fR Z ?_;refine lM Z Z Z ?_;refine fM Z ?_;refine Mid.Y1 Z Z Z Z Z ?_;refine Mid.Y1 Z Z Z Z Z ?_;refine Mid.Y1 Z Z Z Z Z ?_;refine fM Z ?_;refine Run.fin Z (z5.go ?_);exact .t Z
 |w::r=>
  have h1:(w::r)[0]?=some w:=rfl;refine z9.run H.i138 H.mixed Z Z ?_;refine fR Z ?_;refine lM Z Z Z ?_;refine fM Z ?_;refine gr Z ?_;refine fM Z ?_;refine Run.fin Z (z5.go ?_);exact .t Z
def QF (ds:List Def) (nm:Str) (x:Input) (l:List Str):Bool:=
 zdX x.ty.zq&&(x.ty.name==nm||((zh x.ty.name ds).isSome&&((zh x.ty.name ds).getD Def.zero).kind==5))&&!decide (x.ty.name∈l)
def y6 (ds:List Def) (nm:Str):List Input->List Str->List Str
 |[],l=>l
 |x::r,l=>y6 ds nm r (if QF ds nm x l=true then l++[x.ty.name] else l)
theorem zaa (H:Pr P) (ds:List Def) (hD:Zd ds) (d:Def) (hd:d.Ok) (nm:Str) (hl:d.zH.length<=4398046511104):
  z9 P 118 [yd ds,d.v,.t (.str nm),.zV] ⟨[],0⟩ {v:= .own 2 1 ((y6 ds nm d.zH []).map sE),ob:=[(2,.arr (y6 ds nm d.zH []).length)],n:=3}:=by
 refine z9.run H.i118 H.mixed Z Z ?_;refine fR Z ?_
 refine zx d.zH (fun i (B:List Str)=>{env:=[(2,.t (.str nm)),(3,.own 2 1 (B.map sE)),(4,.ptr 0 0),(5,.ptr 1 0),(9,.t (.int .i64 i))],s:=⟨[(0,.cells [.t (.lst (ds.map Def.enc))]),(1,(TCo d)),(2,.arr B.length)],3⟩}) (fun r i B=>B.length+r.length<=4398046511104/\y6 ds nm d.zH []=y6 ds nm r B) 2 [] Z ⟨by simpa using hl,rfl⟩ rfl rfl rfl ?_ ?_
 ·rintro B ⟨_,hB⟩;have hB':y6 ds nm d.zH []=B:=hB;rw [hB'];refine fR Z ?_;refine lM Z Z Z ?_;refine fM Z ?_;refine Run.zj Z Z (by simp) ?_;refine fR Z ?_;refine Run.fin Z (z5.chg Z Z ?_ ?_)
  ·exact .le (.same Z)
  ·exact leSA
 ·rintro i x r B h1 hi hdr ⟨hlB,hB⟩ ih;simp only [List.length_cons] at hlB;have hx:=hd.n x (zMG h1);refine fR Z ?_;refine lM Z Z Z ?_;refine fM Z ?_;refine Run.zm Z Z (by simp;omega) ?_;refine fR Z ?_;refine Mid.ze Z Z Z h1 Z Z ?_;refine fM Z ?_;refine Mid.call (yl H ds hD.l x.ty.name) Z Z Z Z ?_;refine fM Z ?_;refine Mid.call (z34 H x.ty) Z Z Z Z ?_;refine fM Z ?_;refine caG Z Z (fun hg=>⟨_,rfl,z5Y H B (by omega) x.ty.name,rfl⟩) Z Z ?_;refine fM Z ?_;refine Run.cond Z Z (fun hc=>?_) (fun hc=>?_)
  ·have e:QF ds nm x B=true:=hc;refine fR Z ?_;refine apM sE B [x.ty.name] Z Z Z Z Z ?_ (h1:=by first |omega|(simp;omega)|(simp;done)) (h2:=by first |omega|(simp;omega)|(simp;done));refine fM rfl ?_;refine aL rfl rfl rfl rfl rfl ?_;refine fM rfl ?_;exact zk 3 rfl (ih (B++[x.ty.name]) ⟨by simp;omega,by rw [hB];simp only [y6];rw [if_pos e]⟩) rfl rfl rfl
  ·have e:¬ QF ds nm x B=true:=by rw [show QF ds nm x B=false from hc];simp
   refine fR Z ?_;refine aL Z Z Z Z Z ?_;refine fM Z ?_;exact zk 3 Z (ih B ⟨by omega,by rw [hB];simp only [y6];rw [if_neg e]⟩) rfl rfl rfl
theorem zbM (H:Pr P) (ds:List Def) (hD:Zd ds) (d:Def) (hd:d.Ok) (nm:Str) (l:List Str) (hl:l.length+d.zH.length<=4398046511104):
  z9 P 118 [yd ds,d.v,.t (.str nm),.own 0 1 (l.map sE)] ⟨[(0,.arr l.length)],1⟩ {v:= .own 0 1 ((y6 ds nm d.zH l).map sE),ob:=[(0,.arr (y6 ds nm d.zH l).length)],rd:=true}:=by
 refine z9.run H.i118 H.mixed Z Z ?_;refine fR Z ?_
 refine zx d.zH (fun i (B:List Str)=>{env:=[(2,.t (.str nm)),(3,.own 0 1 (B.map sE)),(4,.ptr 1 0),(5,.ptr 2 0),(9,.t (.int .i64 i))],s:=⟨[(0,.arr B.length),(1,.cells [.t (.lst (ds.map Def.enc))]),(2,(TCo d))],3⟩}) (fun r i B=>B.length+r.length<=4398046511104/\y6 ds nm d.zH l=y6 ds nm r B) 3 l Z ⟨by exact hl,rfl⟩ rfl rfl rfl ?_ ?_
 ·rintro B ⟨_,hB⟩;have hB':y6 ds nm d.zH l=B:=hB;rw [hB'];refine fR Z ?_;refine lM Z Z Z ?_;refine fM Z ?_;refine Run.zj Z Z (by simp) ?_;refine fR Z ?_;refine Run.fin Z (z5.chg Z Z ?_ ?_)
  ·exact .le (.same Z)
  ·exact leSA
 ·rintro i x r B h1 hi hdr ⟨hlB,hB⟩ ih;simp only [List.length_cons] at hlB;have hx:=hd.n x (zMG h1);refine fR Z ?_;refine lM Z Z Z ?_;refine fM Z ?_;refine Run.zm Z Z (by simp;omega) ?_;refine fR Z ?_;refine Mid.ze Z Z Z h1 Z Z ?_;refine fM Z ?_;refine Mid.call (yl H ds hD.l x.ty.name) Z Z Z Z ?_;refine fM Z ?_;refine Mid.call (z34 H x.ty) Z Z Z Z ?_;refine fM Z ?_;refine caG Z Z (fun hg=>⟨_,rfl,z5Y H B (by omega) x.ty.name,rfl⟩) Z Z ?_;refine fM Z ?_;refine Run.cond Z Z (fun hc=>?_) (fun hc=>?_)
  ·have e:QF ds nm x B=true:=hc;refine fR Z ?_;refine apM sE B [x.ty.name] Z Z Z Z Z ?_ (h1:=by first |omega|(simp;omega)|(simp;done)) (h2:=by first |omega|(simp;omega)|(simp;done));refine fM rfl ?_;refine aL rfl rfl rfl rfl rfl ?_;refine fM rfl ?_;exact zk 3 rfl (ih (B++[x.ty.name]) ⟨by simp;omega,by rw [hB];simp only [y6];rw [if_pos e]⟩) rfl rfl rfl
  ·have e:¬ QF ds nm x B=true:=by rw [show QF ds nm x B=false from hc];simp
   refine fR Z ?_;refine aL Z Z Z Z Z ?_;refine fM Z ?_;exact zk 3 Z (ih B ⟨by omega,by rw [hB];simp only [y6];rw [if_neg e]⟩) rfl rfl rfl
theorem z4K (ds:List Def) (nm:Str):∀(ins:List Input) (l:List Str),l.length<=(y6 ds nm ins l).length
 |[],l=>Nat.le_refl _
 |x::r,l=>by
  simp only [y6];refine Nat.le_trans ?_ (z4K ds nm r _)
  split<;>simp
def z1B (ds:List Def) (nm:Str):Nat->Nat->List Str->List Str
 |0,_,l=>l
 |k+1,i,l=>match l[i]? with
  |none=>l
  |some n=>z1B ds nm k (i+1) (y6 ds nm ((zh n ds).getD Def.zero).zH l)
def Wt (ds:List Def) (d:Def):Bool:=d.kind==5&&decide (d.name∈z1B ds d.name (ds.length+2) 0 (y6 ds d.name d.zH []))
structure LOk (ds:List Def) (nm:Str) (l:List Str):Prop where
 nd:l.Nodup
 mem:∀x,x∈l->x∈nm::ds.map (fun o=>o.name)
theorem z2J {α:Type} [BEq α] [LawfulBEq α]:∀{l m:List α},l.Nodup->(∀x,x∈l->x∈m)->l.length<=m.length
 |[],_,_,_=>by simp
 |a::r,m,hn,hs=>by
  have ha:a∈m:=hs a (by simp);obtain ⟨hn1,hn2⟩:=List.nodup_cons.1 hn
  have h1:=z2J (l:=r) (m:=m.erase a) hn2 (fun x hx=>by
   have hne:x≠a:=by rintro rfl;exact hn1 hx
   exact (List.mem_erase_of_ne hne).2 (hs x (List.mem_cons_of_mem _ hx)))
  have h2:=List.length_erase_of_mem ha;have h3:0<m.length:=List.length_pos_of_mem ha;simp only [List.length_cons];omega
theorem LOk.len {ds:List Def} {nm:Str} {l:List Str} (h:LOk ds nm l):l.length<=ds.length+1:=by
 have:=z2J h.nd h.mem;simpa using this
theorem QH {ds:List Def} {nm:Str}:∀{ins:List Input} {l:List Str},LOk ds nm l->LOk ds nm (y6 ds nm ins l)
 |[],l,h=>h
 |x::r,l,h=>by
  simp only [y6];split
  ·rename_i hc;refine QH ⟨?_,?_⟩
   ·unfold QF at hc;simp only [Bool.and_eq_true] at hc
    have hn:¬ x.ty.name∈l:=by simpa using hc.2
    rw [List.nodup_append]
    exact ⟨h.nd,by simp,fun a ha b hb e=>by simp at hb;subst hb;subst e;exact hn ha⟩
   ·intro y hy
    rcases List.mem_append.1 hy with hy|hy
    ·exact h.mem y hy
    ·simp at hy;subst hy;unfold QF at hc;simp only [Bool.and_eq_true,Bool.or_eq_true,beq_iff_eq] at hc
     rcases hc.1.2 with e|e
     ·rw [e];simp
     ·cases hf:zh x.ty.name ds with
      |none=>rw [hf] at e;simp at e
      |some o=>
       have h1:=Y5 hf;have h2:=Wh hf;rw [←h2];exact List.mem_cons_of_mem _ (List.mem_map.2 ⟨o,h1,rfl⟩)
  ·exact QH h
theorem z4s (H:Pr P) (ds:List Def) (hD:Zd ds) (d:Def) (hd:d.Ok) (hil:∀o,o∈d::ds->o.zH.length<=2199023255552):z9 P 87 [yd ds,d.v] ⟨[],0⟩ {v:= .t (.bool (Wt ds d))}:=by
 have hlb:=hD.lb
 have hz:∀n,((zh n ds).getD Def.zero).zH.length<=2199023255552:=by
  intro n
  cases hf:zh n ds with
  |none=>simp [Def.zero]
  |some o=>exact hil o (List.mem_cons_of_mem _ (Y5 hf))
 refine z9.run H.i87 H.mixed Z Z ?_;refine fR Z ?_;refine Run.cond Z Z (fun hk=>?_) (fun hk=>?_)
 ·have e:Wt ds d=false:=by unfold Wt;rw [show (d.kind==5)=false from by simpa using hk];rfl
  refine fR Z ?_;refine Run.fin Z (z5.go ?_);exact .t (by rw [e])
 ·have hk':(d.kind==5)=true:=by simpa using hk
  refine fR Z ?_
  have h0:LOk ds d.name (y6 ds d.name d.zH []):=QH ⟨List.nodup_nil,by simp⟩
  refine Mid.yD [] (zaa H ds hD d hd d.name (by have:=hil d (by simp);omega)) Z Z Z Z (by simp [zG]) (by repeat' (first |exact trivial|exact rfl|refine And.intro ?_ ?_|exact (congrArg some (z3.zF _ _ _ _ _ _)).symm|exact (congrArg some (z3.ren_cE _ _ _)).symm)) Z Z (ob':=[(4,.arr (y6 ds d.name d.zH []).length)]) (rfl) Z Z ?_
  refine fM Z ?_
  have eB:Wt ds d=decide (d.name∈z1B ds d.name (ds.length+2) 0 (y6 ds d.name d.zH [])):=by unfold Wt;rw [hk'];rfl
  generalize hC:z1B ds d.name (ds.length+2) 0 (y6 ds d.name d.zH [])=C at eB
  have hN:∀(i:Nat) (l:List Str),LOk ds d.name l->i<=l.length->ds.length+2 - i=(ds.length+1 - i)+1:=by
   intro i l hl hi;have:=hl.len;omega
  refine zcI (β:=Nat×List Str) (fun b=>{env:=[(2,.ptr 0 0),(3,.ptr 1 0),(5,.own 4 1 (b.2.map sE)),(6,.t (.int .i64 b.1))],s:=⟨[(0,.cells [.t (.lst (ds.map Def.enc))]),(1,(TCo d)),(4,.arr b.2.length)],5⟩})
   (fun b=>LOk ds d.name b.2/\b.1<=b.2.length/\C=z1B ds d.name (ds.length+2 - b.1) b.1 b.2) (fun b=>ds.length+2 - b.1) 5 (0,y6 ds d.name d.zH []) rfl ⟨h0,by simp,hC.symm⟩ rfl rfl rfl ?_
  rintro ⟨i,l⟩ ⟨hl,hi,hinv⟩ ih;dsimp only at hl hi hinv ih⊢;have hlen:=hl.len;have hN':=hN i l hl hi;rw [hN'] at hinv;refine fR Z ?_;refine lM Z Z Z ?_;refine fM Z ?_;by_cases hlt:i<l.length
  ·refine Run.zm Z Z (by simp;omega) ?_;have hg:l[i]?=some l[i]:=List.getElem?_eq_getElem hlt;generalize l[i]=n at hg;have hF:=Qq hD n;have hnx:LOk ds d.name (y6 ds d.name ((zh n ds).getD Def.zero).zH l):=QH hl;simp only [z1B,hg] at hinv;have hzn:=hz n;refine fR Z ?_;refine Mid.ze Z Z Z hg Z Z ?_;refine fM Z ?_;refine Mid.call (yl H ds hD.l n) Z Z Z Z ?_;refine fM Z ?_
   refine Mid.yD [4] (zbM H ds hD ((zh n ds).getD Def.zero) hF d.name l (by omega)) Z Z Z Z (by simp [zG];simp [z3.bd]) (by repeat' (first |exact trivial|exact rfl|refine And.intro ?_ ?_|exact (congrArg some (z3.zF _ _ _ _ _ _)).symm|exact (congrArg some (z3.ren_cE _ _ _)).symm)) Z Z (ob':=[(4,.arr (y6 ds d.name ((zh n ds).getD Def.zero).zH l).length)]) (rfl) Z Z ?_
   refine fM Z ?_;refine aL Z Z Z Z Z ?_;refine fM Z ?_
   exact zk 5 Z (ih (i+1,y6 ds d.name ((zh n ds).getD Def.zero).zH l) (by simp only;omega) ⟨hnx,by simp only;have:=z4K ds d.name ((zh n ds).getD Def.zero).zH l;omega,by rw [hinv];simp only;congr 1;omega⟩) rfl rfl rfl
  ·refine Run.zj Z Z (by simp;omega) ?_;have hg:l[i]?=none:=List.getElem?_eq_none (by omega);simp only [z1B,hg] at hinv;refine fR Z ?_;refine Mid.call (z5Y H l (by omega) d.name) Z Z Z Z ?_;refine fM Z ?_;refine Run.fin Z (z5.go ?_);exact .t (by rw [eB,hinv])
end Go.GB.C11
namespace Go.GB.C11
open Go.GB
variable {P:Program}
theorem z8B (H:Pr P) (n:Str) (hn:n.length<=140737488355328) (bad twice:Bool) (at_:Str):z9 P 85 [.t (.str n),.t (.bool bad),.t (.bool twice),.t (.str at_)] ⟨[],0⟩ {v:= .own 0 2 ((Zm n bad twice at_).map z4.enc),ob:=[(0,.arr (Zm n bad twice at_).length)],n:=1}:=by
 refine z9.run H.i85 H.mixed Z Z ?_;refine fR Z ?_;refine caG Z Z (fun hg=>⟨_,rfl,z18 H n hn,rfl⟩) Z Z ?_;refine fM Z ?_;refine Run.cond Z Z (fun h=>?_) (fun h=>?_)
 ·refine fR Z ?_;refine apN z4.enc [(⟨6,at_⟩:z4)] Z Z Z ?_ (h1:=by first |omega|(simp;omega)|(simp;done)) (h2:=by first |omega|(simp;omega)|(simp;done));refine fM rfl ?_
  cases twice with
  |true=>
   refine Run.zm Z Z Z ?_;refine fR Z ?_;refine apM z4.enc [(⟨6,at_⟩:z4)] [(⟨7,at_⟩:z4)] Z Z Z Z Z ?_ (h1:=by first |omega|(simp;omega)|(simp;done)) (h2:=by first |omega|(simp;omega)|(simp;done));refine fM rfl ?_
   have e:Zm n bad true at_=[⟨6,at_⟩]++[⟨7,at_⟩]:=by unfold Zm;rw [if_pos h,if_pos rfl]
   rw [e];refine Run.fin Z (z5.chg Z Z ?_ ?_)
   ·exact .le (.same Z)
   ·exact leSA
  |false=>
   refine Run.zj Z Z Z ?_;refine fR Z ?_
   have e:Zm n bad false at_=[⟨6,at_⟩]:=by unfold Zm;rw [if_pos h,if_neg (by simp)];rfl
   rw [e];refine Run.fin Z (z5.chg Z Z ?_ ?_)
   ·exact .le (.same Z)
   ·exact leSA
 ·refine fR Z ?_
  have h':¬ (bad||!wS n)=true:=by rw [h];simp
  refine Wc 0 Z (st':={env:=[(3,.t (.str at_)),(9,.own 0 2 ([].map z4.enc)),(21,.t (.bool twice))],s:=⟨[(0,.arr 0)],1⟩}) ?_ Z Z Z
  cases twice with
  |true=>
   refine Run.zm Z Z Z ?_;refine fR Z ?_;refine apM z4.enc [] [(⟨7,at_⟩:z4)] Z Z Z Z Z ?_ (h1:=by first |omega|(simp;omega)|(simp;done)) (h2:=by first |omega|(simp;omega)|(simp;done));refine fM rfl ?_
   have e:Zm n bad true at_=[⟨7,at_⟩]:=by unfold Zm;rw [if_neg h',if_pos rfl];rfl
   rw [e];refine Run.fin Z (z5.chg Z Z ?_ ?_)
   ·exact .le (.same Z)
   ·exact leSA
  |false=>
   refine Run.zj Z Z Z ?_;refine fR Z ?_
   have e:Zm n bad false at_=[]:=by unfold Zm;rw [if_neg h',if_neg (by simp)];rfl
   rw [e];refine Run.fin Z (z5.chg Z Z ?_ ?_)
   ·exact .le (.same Z)
   ·exact leSA
def zdr (n:Str):Bool:=n==[81,117,101,114,121]||n==[77,117,116,97,116,105,111,110]||n==[83,117,98,115,99,114,105,112,116,105,111,110]
def qq (d:Def):Bool:=(zdr d.name&&d.kind !=1)||decide (d.kind<1)||decide (d.kind>5)
def z00 (ds:List Def) (i:Nat) (n:Str):Bool:=wj n||(ds.take i).any fun o=>o.name==n
def Yg (ds:List Def) (i:Nat) (d:Def):List z4:=
 Zm d.name false (z00 ds i d.name) d.name++(if yE d=true then [⟨8,d.name⟩] else [])++(if qq d=true then [⟨9,d.name⟩] else [])++(if Wt ds d=true then [⟨5,d.name⟩] else [])
theorem w5 (n:Str) (a b:Bool) (s:Str):(Zm n a b s).length<=2:=by
 unfold Zm;split<;>split<;>simp
theorem zak (H:Pr P) (ds:List Def) (hD:Zd ds) (hil:∀o,o∈ds->o.zH.length<=2199023255552) (i:Nat) (d:Def) (h:ds[i]?=some d):z9 P 49 [yd ds,.t (.int .i64 i)] ⟨[],0⟩ {v:= .t (.lst ((Yg ds i d).map z4.enc))}:=by
 have hdm:=zMG h;have hd:=hD.d d hdm;have hnm:=hd.nm;have hdl:=hD.l;have hi:i<ds.length:=(List.getElem?_eq_some_iff.1 h).1;have hnl:=w5 d.name false (z00 ds i d.name) d.name;have e0:z00 ds i d.name=(wj d.name||(ds.take i).any fun o=>o.name==d.name):=rfl;refine z9.run H.i49 H.mixed Z Z ?_;refine fR Z ?_;refine Mid.ze Z Z Z h Z Z ?_;refine fM Z ?_;refine Mid.call (Yt H d.name) Z Z Z Z ?_;refine fM Z ?_;refine zx (ds.take i) (fun j (B:Bool)=>{env:=[(1,.t (.int .i64 i)),(2,.ptr 0 0),(5,.ptr 1 0),(6,.t (.bool B)),(7,.t (.int .i64 j))],s:=⟨[(0,.cells [.t (.lst (ds.map Def.enc))]),(1,(TCo d))],2⟩}) (fun r j B=>z00 ds i d.name=(B||r.any fun o=>o.name==d.name)) 2 (wj d.name) Z e0 Z Z Z ?_ ?_
 ·intro B hB
  have hl:(ds.take i).length=i:=by simp;omega
  have hB':z00 ds i d.name=B:=by rw [hB];simp
  rw [hl]
  have t0:∀L:List z4,L.length<=5->L=Yg ds i d->Run P n49 0 (z5 ⟨[],0⟩ {v:= .t (.lst ((Yg ds i d).map z4.enc))} r49 .ret) (ZT 200 [It.c c49_0]) {env:=[(8,.own 2 2 (L.map z4.enc))],s:=⟨[(2,.arr L.length)],3⟩}:=by
   rintro L hLl rfl;refine fR Z ?_;refine Run.fin Z (z5.go ?_);exact .own Z
  have t3:∀L:List z4,L.length<=4->L++(if Wt ds d=true then [⟨5,d.name⟩] else [])=Yg ds i d->Run P n49 0 (z5 ⟨[],0⟩ {v:= .t (.lst ((Yg ds i d).map z4.enc))} r49 .ret) (ZT 200 [It.c c49_3]) {env:=[(2,.ptr 0 0),(5,.ptr 1 0),(8,.own 2 2 (L.map z4.enc))],s:=⟨[(0,.cells [.t (.lst (ds.map Def.enc))]),(1,(TCo d)),(2,.arr L.length)],3⟩}:=by
   rintro L hLl hL;refine fR Z ?_
   refine Mid.call (z4s H ds hD d hd (by intro o ho;rcases List.mem_cons.1 ho with rfl|ho;exact hil _ hdm;exact hil _ ho)) Z Z Z Z ?_
   refine fM Z ?_;refine Run.cond Z Z (fun hc=>?_) (fun hc=>?_)
   ·refine fR Z ?_;refine apM z4.enc L [(⟨5,d.name⟩:z4)] Z Z Z Z Z ?_ (h1:=by simp;omega) (h2:=by simp;omega);refine Mid.WA (f:=1) rfl trivial ?_;refine Mid.z7C rfl ?_
    exact Wc 3 Z (t0 (L++[⟨5,d.name⟩]) (by simp;omega) (by rw [←hL,if_pos (show Wt ds d=true from hc)]<;>simp)) Z Z Z
   ·exact Wc 3 Z (t0 L (by omega) (by rw [←hL,if_neg (show ¬ Wt ds d=true by rw [show Wt ds d=false from hc];simp)]<;>simp)) Z Z Z
  have t7:∀L:List z4,L.length<=3->L++(if qq d=true then [⟨9,d.name⟩] else [])++(if Wt ds d=true then [⟨5,d.name⟩] else [])=Yg ds i d->Run P n49 0 (z5 ⟨[],0⟩ {v:= .t (.lst ((Yg ds i d).map z4.enc))} r49 .ret) (ZT 200 [It.c c49_7]) {env:=[(2,.ptr 0 0),(5,.ptr 1 0),(8,.own 2 2 (L.map z4.enc))],s:=⟨[(0,.cells [.t (.lst (ds.map Def.enc))]),(1,(TCo d)),(2,.arr L.length)],3⟩}:=by
   rintro L hLl hL;refine fR Z ?_;refine Run.cond Z Z (fun hb=>?_) (fun hb=>?_)
   ·refine fR Z ?_;refine apM z4.enc L [(⟨9,d.name⟩:z4)] Z Z Z Z Z ?_ (h1:=by simp;omega) (h2:=by simp;omega);refine Mid.WA (f:=1) rfl trivial ?_;refine Mid.z7C rfl ?_
    exact Wc 3 Z (t3 (L++[⟨9,d.name⟩]) (by simp;omega) (by rw [←hL,if_pos (show qq d=true from hb)]<;>simp)) Z Z Z
   ·exact Wc 3 Z (t3 L (by omega) (by rw [←hL,if_neg (show ¬ qq d=true by rw [show qq d=false from hb];simp)]<;>simp)) Z Z Z
  refine fR Z ?_;refine Run.zj Z Z (by simp) ?_;refine fR Z ?_;rw [hB'] at hnl
  refine Mid.yD [] (z8B H d.name hnm false B d.name) Z Z Z Z (by simp [zG]) (by repeat' (first |exact trivial|exact rfl|refine And.intro ?_ ?_|exact (congrArg some (z3.zF _ _ _ _ _ _)).symm|exact (congrArg some (z3.ren_cE _ _ _)).symm)) Z Z (ob':=[(2,.arr (Zm d.name false B d.name).length)]) (rfl) Z Z ?_
  refine fM Z ?_;refine Mid.call (zaN H d) Z Z Z Z ?_;refine fM Z ?_
  have hL:Zm d.name false B d.name++(if yE d=true then [⟨8,d.name⟩] else [])++(if qq d=true then [⟨9,d.name⟩] else [])++(if Wt ds d=true then [⟨5,d.name⟩] else [])=Yg ds i d:=by unfold Yg;rw [hB']
  generalize Zm d.name false B d.name=L at hL hnl;refine Run.cond Z Z (fun he=>?_) (fun he=>?_)
  ·refine fR Z ?_;refine apM z4.enc L [(⟨8,d.name⟩:z4)] Z Z Z Z Z ?_ (h1:=by simp;omega) (h2:=by simp;omega);refine Mid.WA (f:=1) rfl trivial ?_;refine Mid.z7C rfl ?_
   exact Wc 3 Z (t7 (L++[⟨8,d.name⟩]) (by simp;omega) (by rw [←hL,if_pos (show yE d=true from he)]<;>simp)) Z Z Z
  ·exact Wc 3 Z (t7 L (by omega) (by rw [←hL,if_neg (show ¬ yE d=true by rw [show yE d=false from he];simp)]<;>simp)) Z Z Z
 ·intro j o r B h1 hj hjd hB ih
  have hji:j<i:=by simp at hj;omega
  have ho:ds[j]?=some o:=by rw [List.getElem?_take] at h1;rw [if_pos hji] at h1;exact h1
  have hjl:j<ds.length:=by omega
  refine fR Z ?_;refine Run.zm Z Z (by simp;omega) ?_;refine fR Z ?_;refine elG Z Z Z Z ho Z Z ?_;refine fM Z ?_;refine aL Z Z Z Z Z ?_;refine fM Z ?_
  exact zk 2 Z (ih (B||o.name==d.name) (by rw [hB];simp only [List.any_cons];cases B<;>simp)) Z Z Z
end Go.GB.C11
namespace Go.GB.C11
open Go.GB
variable {P:Program}
def z9Q (ds:List Def) (p:List Input) (x:Input) (at_:Str):List z4:=
 Zm x.name false (Z1 x.name p).isSome at_++(if qT ds x.ty.name=false then [⟨8,at_⟩] else if z7L ds x.ty.name=false then [⟨10,at_⟩] else [])
def inF (ds:List Def) (pre post:Str):List Input->List Input->List z4
 |_,[]=>[]
 |p,x::r=>z9Q ds p x (pre++x.name++post)++inF ds pre post (p++[x]) r
theorem Yq (H:Pr P) (ds:List Def) (hD:Zd ds) (l:List Input) (hl:l.length<=140737488355328) (hlo:∀y,y∈l->y.Ok) (pre post:Str) (hp:pre.length<=1125899906842624) (hq:post.length<=1125899906842624) (ht:(inF ds pre post [] l).length<=4398046511104):
  z9 P 52 [yd ds,.t (.lst (l.map Input.enc)),.t (.str pre),.t (.str post)] ⟨[],0⟩ {v:= .t (.lst ((inF ds pre post [] l).map z4.enc))}:=by
 generalize hT:inF ds pre post [] l=tot at ht;refine z9.run H.i52 H.mixed Z Z ?_;refine fR Z ?_;refine zx l (fun i (B:List z4)=>{env:=[(1,.t (.lst (l.map Input.enc))),(2,.t (.str pre)),(3,.t (.str post)),(4,.ptr 0 0),(9,.own 1 2 (B.map z4.enc)),(10,.t (.int .i64 i))],s:=⟨[(0,.cells [.t (.lst (ds.map Def.enc))]),(1,.arr B.length)],2⟩}) (fun r i B=>B++inF ds pre post (l.take i) r=tot) 1 [] Z (by simpa using hT) Z Z Z ?_ ?_
 ·rintro B hB
  obtain rfl:B=tot:=by rw [←hB];simp [inF]
  refine fR Z ?_;refine lM Z Z Z ?_;refine fM Z ?_;refine Run.zj Z Z (by simp) ?_;refine fR Z ?_;refine Run.fin Z (z5.go ?_);exact .own Z
 ·rintro i x r B h1 hi hd hB ih;have hx:=hlo x (zMG h1);have hxn:=hx.nm
  have htk:l.take i++[x]=l.take (i+1):=by rw [List.take_add_one,h1];rfl
  have htkl:(l.take i).length<=140737488355328:=by simp;omega
  simp only [inF,z9Q,htk] at hB;generalize hAt:pre++x.name++post=at_ at hB
  have hatl:at_.length<=4503599627370496:=by rw [←hAt];simp;omega
  have hlen:=congrArg List.length hB;simp only [List.length_append] at hlen;refine fR Z ?_;refine lM Z Z Z ?_;refine fM Z ?_;refine Run.zm Z Z (by simp;omega) ?_;refine fR Z ?_;refine Mid.ze Z Z Z h1 Z Z ?_;refine fM Z ?_;refine pu Z ?_;refine fM Z ?_;refine pu Z ?_;refine fM Z ?_;refine lTo Z Z Z Z ?_;refine fM Z ?_;rw [hAt];refine Mid.ze Z Z Z h1 Z Z ?_;refine fM Z ?_;refine Mid.call (q8 H (l.take i) htkl x.name) Z Z Z Z ?_;refine fM Z ?_;refine Mid.ze Z Z Z h1 Z Z ?_;refine fM Z ?_;refine Mid.call (z1O H x.name hxn false (Z1 x.name (l.take i)).isSome at_) Z Z Z Z ?_;skip;generalize Zm x.name false (Z1 x.name (l.take i)).isSome at_=N at hB hlen;refine apM z4.enc B N Z Z Z Z Z ?_ (h1:=by first |omega|(simp;omega)|(simp;done)) (h2:=by first |omega|(simp;omega)|(simp;done));refine fM rfl ?_;refine Mid.ze rfl rfl rfl h1 rfl rfl ?_;refine fM rfl ?_;refine Mid.call (z5e H ds hD x.ty.name) rfl rfl rfl rfl ?_;refine fM rfl ?_;refine Run.cond rfl rfl (fun hk=>?_) (fun hk=>?_)
  ·have hk':qT ds x.ty.name=false:=by simpa using hk
   rw [if_pos hk'] at hB hlen;simp only [List.length_cons,List.length_nil] at hlen;refine fR Z ?_;refine apM z4.enc (B++N) [(⟨8,at_⟩:z4)] Z Z Z Z Z ?_ (h1:=by first |omega|(simp;omega)|(simp;done)) (h2:=by first |omega|(simp;omega)|(simp;done));refine fM rfl ?_;refine aL rfl rfl rfl rfl rfl ?_;refine fM rfl ?_;exact zk 2 rfl (ih (B++N++[⟨8,at_⟩]) (by rw [←hB];simp)) rfl rfl rfl
  ·have hk':¬ qT ds x.ty.name=false:=by simpa using hk
   rw [if_neg hk'] at hB hlen;refine fR Z ?_;refine Mid.ze Z Z Z h1 Z Z ?_;refine fM Z ?_;refine Mid.call (z6B H ds hD x.ty.name) Z Z Z Z ?_;refine fM Z ?_;refine Run.cond Z Z (fun hy=>?_) (fun hy=>?_)
   ·have hy':z7L ds x.ty.name=false:=by simpa using hy
    rw [if_pos hy'] at hB hlen;simp only [List.length_cons,List.length_nil] at hlen;refine fR Z ?_;refine apM z4.enc (B++N) [(⟨10,at_⟩:z4)] Z Z Z Z Z ?_ (h1:=by first |omega|(simp;omega)|(simp;done)) (h2:=by first |omega|(simp;omega)|(simp;done));refine fM rfl ?_;refine aL rfl rfl rfl rfl rfl ?_;refine fM rfl ?_;exact zk 2 rfl (ih (B++N++[⟨10,at_⟩]) (by rw [←hB];simp)) rfl rfl rfl
   ·have hy':¬ z7L ds x.ty.name=false:=by simpa using hy
    rw [if_neg hy'] at hB hlen;refine fR Z ?_;refine aL Z Z Z Z Z ?_;refine fM Z ?_;exact zk 2 Z (ih (B++N) (by rw [←hB];simp)) Z Z Z
def zbR (ds:List Def) (n:Str):Bool:=!wj n&&(zh n ds).isSome&&((zh n ds).getD Def.zero).kind==5
def z6A (ds:List Def) (p:List Field) (x:Field) (at_:Str):List z4:=
 Zm x.name false (zD x.name p).isSome at_++(if qT ds x.ty.name=false then [⟨8,at_⟩] else if zbR ds x.ty.name=true then [⟨10,at_⟩] else [])++inF ds (at_++[40]) [41] [] x.args
def QD (ds:List Def) (n:Str):List Field->List Field->List z4
 |_,[]=>[]
 |p,x::r=>z6A ds p x (n++[46]++x.name)++QD ds n (p++[x]) r
theorem qx (H:Pr P) (ds:List Def) (hD:Zd ds) (d:Def) (hd:d.Ok) (ht:(QD ds d.name [] d.fields).length<=4398046511104):z9 P 50 [yd ds,d.v] ⟨[],0⟩ {v:= .t (.lst ((QD ds d.name [] d.fields).map z4.enc))}:=by
 have hfl:=hd.fl;have hnm:=hd.nm;generalize hT:QD ds d.name [] d.fields=tot at ht;refine z9.run H.i50 H.mixed Z Z ?_;refine fR Z ?_;refine zx d.fields (fun i (B:List z4)=>{env:=[(2,.ptr 0 0),(3,.ptr 1 0),(5,.own 2 2 (B.map z4.enc)),(6,.t (.int .i64 i))],s:=⟨[(0,.cells [.t (.lst (ds.map Def.enc))]),(1,(TCo d)),(2,.arr B.length)],3⟩}) (fun r i B=>B++QD ds d.name (d.fields.take i) r=tot) 2 [] Z (by simpa using hT) Z Z Z ?_ ?_
 ·rintro B hB
  obtain rfl:B=tot:=by rw [←hB];simp [QD]
  refine fR Z ?_;refine lM Z Z Z ?_;refine fM Z ?_;refine Run.zj Z Z (by simp) ?_;refine fR Z ?_;refine Run.fin Z (z5.go ?_);exact .own Z
 ·rintro i x r B h1 hi hdr hB ih;have hx:=hd.f x (zMG h1);have hxn:=hx.nm;have hxl:=hx.al
  have htk:d.fields.take i++[x]=d.fields.take (i+1):=by rw [List.take_add_one,h1];rfl
  have htkl:(d.fields.take i).length<=140737488355328:=by simp;omega
  simp only [QD,z6A,htk] at hB;generalize hAt:d.name++[46]++x.name=at_ at hB
  have hatl:at_.length<=1125899906842000:=by rw [←hAt];simp;omega
  have hlen:=congrArg List.length hB;simp only [List.length_append] at hlen;refine fR Z ?_;refine lM Z Z Z ?_;refine fM Z ?_;refine Run.zm Z Z (by simp;omega) ?_;refine fR Z ?_;refine Mid.ze Z Z Z h1 Z Z ?_;refine fM Z ?_;refine pu Z ?_;refine fM Z ?_;refine pu Z ?_;refine fM Z ?_;refine lTo Z Z Z Z ?_;refine fM Z ?_;rw [hAt];refine Mid.call (WX H ⟨0,[],[],[],d.fields.take i,[],[]⟩ htkl x.name) Z Z Z Z ?_;refine fM Z ?_;refine Mid.call (z1O H x.name hxn false (zD x.name (d.fields.take i)).isSome at_) Z Z Z Z ?_;skip;generalize Zm x.name false (zD x.name (d.fields.take i)).isSome at_=N at hB hlen;refine apM z4.enc B N Z Z Z Z Z ?_ (h1:=by first |omega|(simp;omega)|(simp;done)) (h2:=by first |omega|(simp;omega)|(simp;done));refine fM rfl ?_;refine Mid.call (yl H ds hD.l x.ty.name) rfl rfl rfl rfl ?_;refine fM rfl ?_;refine Mid.call (z5e H ds hD x.ty.name) rfl rfl rfl rfl ?_;refine fM rfl ?_;refine Run.cond rfl rfl (fun hk=>?_) (fun hk=>?_)
  ·have hk':qT ds x.ty.name=false:=by simpa using hk
   rw [if_pos hk'] at hB hlen;simp only [List.length_cons,List.length_nil] at hlen;refine fR Z ?_;refine apM z4.enc (B++N) [(⟨8,at_⟩:z4)] Z Z Z Z Z ?_ (h1:=by first |omega|(simp;omega)|(simp;done)) (h2:=by first |omega|(simp;omega)|(simp;done));refine fM rfl ?_;refine pu rfl ?_;refine Mid.call (Yq H ds hD x.args hxl hx.a (at_++[40]) [41] (by simp;omega) (by decide) (by omega)) rfl rfl rfl rfl ?_;skip;generalize inF ds (at_++[40]) [41] [] x.args=M at hB hlen;refine apM z4.enc (B++N++[⟨8,at_⟩]) M rfl rfl rfl rfl rfl ?_ (h1:=by first |omega|(simp;omega)|(simp;done)) (h2:=by first |omega|(simp;omega)|(simp;done));refine fM rfl ?_;refine aL rfl rfl rfl rfl rfl ?_;refine fM rfl ?_;exact zk 3 rfl (ih (B++N++[⟨8,at_⟩]++M) (by rw [←hB];simp)) rfl rfl rfl
  ·have hk':¬ qT ds x.ty.name=false:=by simpa using hk
   rw [if_neg hk'] at hB hlen;refine fR Z ?_;refine Mid.call (Yt H x.ty.name) Z Z Z Z ?_;refine fM Z ?_;refine Run.cond Z Z (fun hy=>?_) (fun hy=>?_)
   ·have hy':zbR ds x.ty.name=true:=hy;rw [if_pos hy'] at hB hlen;simp only [List.length_cons,List.length_nil] at hlen;refine fR Z ?_;refine apM z4.enc (B++N) [(⟨10,at_⟩:z4)] Z Z Z Z Z ?_ (h1:=by first |omega|(simp;omega)|(simp;done)) (h2:=by first |omega|(simp;omega)|(simp;done));refine fM rfl ?_;refine pu rfl ?_;refine Mid.call (Yq H ds hD x.args hxl hx.a (at_++[40]) [41] (by simp;omega) (by decide) (by omega)) rfl rfl rfl rfl ?_;skip;generalize inF ds (at_++[40]) [41] [] x.args=M at hB hlen;refine apM z4.enc (B++N++[⟨10,at_⟩]) M rfl rfl rfl rfl rfl ?_ (h1:=by first |omega|(simp;omega)|(simp;done)) (h2:=by first |omega|(simp;omega)|(simp;done));refine fM rfl ?_;refine aL rfl rfl rfl rfl rfl ?_;refine fM rfl ?_;exact zk 3 rfl (ih (B++N++[⟨10,at_⟩]++M) (by rw [←hB];simp)) rfl rfl rfl
   ·have hy':¬ zbR ds x.ty.name=true:=by rw [show zbR ds x.ty.name=false from hy];simp
    rw [if_neg hy'] at hB hlen;simp only [List.length_nil] at hlen;refine fR Z ?_;refine pu Z ?_;refine Mid.call (Yq H ds hD x.args hxl hx.a (at_++[40]) [41] (by simp;omega) (by decide) (by omega)) Z Z Z Z ?_;skip;generalize inF ds (at_++[40]) [41] [] x.args=M at hB hlen;refine apM z4.enc (B++N) M Z Z Z Z Z ?_ (h1:=by first |omega|(simp;omega)|(simp;done)) (h2:=by first |omega|(simp;omega)|(simp;done));refine fM rfl ?_;refine aL rfl rfl rfl rfl rfl ?_;refine fM rfl ?_;exact zk 3 rfl (ih (B++N++M) (by rw [←hB];simp)) rfl rfl rfl
def z3v (n:Str):Bool:=n==[116,114,117,101]||n==[102,97,108,115,101]||n==[110,117,108,108]
def z0F (t:Str):List ZF->List ZF->List z4
 |_,[]=>[]
 |p,x::r=>Zm x.name (z3v x.name) (qU p x.name) (t++[46]++x.name)++z0F t (p++[x]) r
theorem W7 (H:Pr P) (d:Def) (hd:d.Ok) (ht:(z0F d.name [] d.members).length<=4398046511104):z9 P 51 [d.v] ⟨[],0⟩ {v:= .t (.lst ((z0F d.name [] d.members).map z4.enc))}:=by
 have hfl:=hd.ml;have hnm:=hd.nm;generalize hT:z0F d.name [] d.members=tot at ht;refine z9.run H.i51 H.mixed Z Z ?_;refine fR Z ?_;refine zx d.members (fun i (B:List z4)=>{env:=[(1,.ptr 0 0),(3,.own 1 2 (B.map z4.enc)),(4,.t (.int .i64 i))],s:=⟨[(0,(TCo d)),(1,.arr B.length)],2⟩}) (fun r i B=>B++z0F d.name (d.members.take i) r=tot) 1 [] Z (by simpa using hT) Z Z Z ?_ ?_
 ·rintro B hB
  obtain rfl:B=tot:=by rw [←hB];simp [z0F]
  refine fR Z ?_;refine lM Z Z Z ?_;refine fM Z ?_;refine Run.zj Z Z (by simp) ?_;refine fR Z ?_;refine Run.fin Z (z5.go ?_);exact .own Z
 ·rintro i x r B h1 hi hdr hB ih;have hx:=hd.m x (zMG h1);have hxn:=hx.nm
  have htk:d.members.take i++[x]=d.members.take (i+1):=by rw [List.take_add_one,h1];rfl
  have htkl:(d.members.take i).length<=140737488355328:=by simp;omega
  simp only [z0F,htk] at hB;generalize hAt:d.name++[46]++x.name=at_ at hB
  have hatl:at_.length<=1125899906842000:=by rw [←hAt];simp;omega
  have hlen:=congrArg List.length hB;simp only [List.length_append] at hlen;refine fR Z ?_;refine lM Z Z Z ?_;refine fM Z ?_;refine Run.zm Z Z (by simp;omega) ?_;refine fR Z ?_;refine Mid.ze Z Z Z h1 Z Z ?_;refine fM Z ?_;refine zx (d.members.take i) (fun j (C:Bool)=>{env:=[(1,.ptr 0 0),(3,.own 1 2 (B.map z4.enc)),(4,.t (.int .i64 i)),(5,.t (.str x.name)),(6,.t (.bool C)),(7,.t (.int .i64 j))],s:=⟨[(0,(TCo d)),(1,.arr B.length)],2⟩}) (fun r j C=>qU (d.members.take i) x.name=(C||qU r x.name)) 2 false Z (by simp) Z Z Z ?_ ?_
  ·intro C hC
   have hl:(d.members.take i).length=i:=by simp;omega
   have hC':qU (d.members.take i) x.name=C:=by rw [hC];simp [qU]
   rw [hl];rw [hC'] at hB hlen;refine fR Z ?_;refine Run.zj Z Z (by simp) ?_;refine fR Z ?_;refine pu Z ?_;refine fM Z ?_;refine pu Z ?_;rw [hAt];refine Mid.call (z1O H x.name hxn (z3v x.name) C at_) Z Z Z Z ?_;skip;generalize Zm x.name (z3v x.name) C at_=N at hB hlen;refine apM z4.enc B N Z Z Z Z Z ?_ (h1:=by first |omega|(simp;omega)|(simp;done)) (h2:=by first |omega|(simp;omega)|(simp;done));refine fM rfl ?_;refine aL rfl rfl rfl rfl rfl ?_;refine fM rfl ?_;exact zk 2 rfl (ih (B++N) (by rw [←hB];simp)) rfl rfl rfl
  ·intro j o r2 C h2 hj hjd hC ih2
   have hji:j<i:=by simp at hj;omega
   have ho:d.members[j]?=some o:=by rw [List.getElem?_take] at h2;rw [if_pos hji] at h2;exact h2
   have hjl:j<d.members.length:=by omega
   refine fR Z ?_;refine Run.zm Z Z (by simp;omega) ?_;refine fR Z ?_;refine elG Z Z Z Z ho Z Z ?_;refine fM Z ?_;refine aL Z Z Z Z Z ?_;refine fM Z ?_
   exact zk 2 Z (ih2 (C||o.name==x.name) (by rw [hC];simp only [qU,List.any_cons];cases C<;>simp)) Z Z Z
end Go.GB.C11
namespace Go.GB.C11
open Go.GB
variable {P:Program}
def Q0:Str:=[81,117,101,114,121]
def zbT (ds:List Def) (d:Def):List z4:=
 if d.kind=1 then QD ds d.name [] d.fields else if d.kind=2 then QD ds d.name [] d.fields
 else if d.kind=4 then z0F d.name [] d.members else if d.kind=5 then inF ds (d.name++[46]) [] [] d.zH else []
def z0I (ds:List Def):Nat->List Def->List z4
 |_,[]=>[]
 |i,d::r=>Yg ds i d++zbT ds d++z0I ds (i+1) r
def z4H (ds:List Def) (q:Bool):List z4:=if (q&&!(zh Q0 ds).isSome)=true then [⟨30,Q0⟩] else []
def Wd (ds:List Def) (q:Bool):List z4:=z0I ds 0 ds++z4H ds q
theorem z91 (H:Pr P) (ds:List Def) (hD:Zd ds) (hil:∀o,o∈ds->o.zH.length<=2199023255552) (q:Bool) (ht:(Wd ds q).length<=4398046511104):z9 P 25 [yd ds,.t (.bool q)] ⟨[],0⟩ {v:= .t (.lst ((Wd ds q).map z4.enc))}:=by
 have hdl:=hD.l;have hT:z0I ds 0 ds++z4H ds q=Wd ds q:=rfl;generalize Wd ds q=tot at ht hT;refine z9.run H.i25 H.mixed Z Z ?_;refine fR Z ?_;refine zx ds (fun i (B:List z4)=>{env:=[(1,.t (.bool q)),(2,.ptr 0 0),(5,.own 1 2 (B.map z4.enc)),(6,.t (.int .i64 i))],s:=⟨[(0,.cells [.t (.lst (ds.map Def.enc))]),(1,.arr B.length)],2⟩}) (fun r i B=>B++z0I ds i r++z4H ds q=tot) 1 [] Z (by simpa using hT) Z Z Z ?_ ?_
 ·rintro B hB;simp only [z0I,List.append_nil] at hB;have hlen:=congrArg List.length hB;simp only [List.length_append] at hlen;refine fR Z ?_;refine lM Z Z Z ?_;refine fM Z ?_;refine Run.zj Z Z (by simp) ?_;refine fR Z ?_;refine Mid.call (yl H ds hD.l Q0) Z Z Z Z ?_;refine fM Z ?_;refine Run.cond Z Z (fun hc=>?_) (fun hc=>?_)
  ·have hc':z4H ds q=[⟨30,Q0⟩]:=by unfold z4H;rw [if_pos (show (q&&!(zh Q0 ds).isSome)=true from hc)]
   rw [hc'] at hB hlen;simp only [List.length_cons,List.length_nil] at hlen;refine fR Z ?_;refine apM z4.enc B [(⟨30,Q0⟩:z4)] Z Z Z Z Z ?_ (h1:=by first |omega|(simp;omega)|(simp;done)) (h2:=by first |omega|(simp;omega)|(simp;done));refine fM rfl ?_;refine Run.fin rfl (z5.go ?_);exact .own (by rw [hB])
  ·have hc':z4H ds q=[]:=by unfold z4H;rw [if_neg (by rw [show (q&&!(zh Q0 ds).isSome)=false from hc];simp)]
   rw [hc'] at hB;refine fR Z ?_;refine Run.fin Z (z5.go ?_);exact .own (by rw [←hB];simp)
 ·rintro i d r B h1 hi hdr hB ih;have hd:=hD.d d (zMG h1);have hnm:=hd.nm;have hnl:=hd.nl;simp only [z0I] at hB;have hlen:=congrArg List.length hB;simp only [List.length_append] at hlen;refine fR Z ?_;refine lM Z Z Z ?_;refine fM Z ?_;refine Run.zm Z Z (by simp;omega) ?_;refine fR Z ?_;refine Mid.ze Z Z Z h1 Z Z ?_;refine fM Z ?_;refine Mid.call (zak H ds hD hil i d h1) Z Z Z Z ?_;skip;generalize Yg ds i d=W at hB hlen;refine apM z4.enc B W Z Z Z Z Z ?_ (h1:=by first |omega|(simp;omega)|(simp;done)) (h2:=by first |omega|(simp;omega)|(simp;done));refine fM rfl ?_;unfold zbT at hB hlen;refine Run.cond rfl rfl (fun k1=>?_) (fun k1=>?_)
  ·have k1':d.kind=1:=by simpa using k1
   rw [if_pos k1'] at hB hlen;skip;refine Run.zm Z Z k1 ?_;refine fR Z ?_;refine Mid.call (qx H ds hD d hd (by omega)) Z Z Z Z ?_;skip;generalize QD ds d.name [] d.fields=M at hB hlen;refine apM z4.enc (B++W) M Z Z Z Z Z ?_ (h1:=by first |omega|(simp;omega)|(simp;done)) (h2:=by first |omega|(simp;omega)|(simp;done));refine fM rfl ?_;refine aL rfl rfl rfl rfl rfl ?_;refine fM rfl ?_;exact zk 2 rfl (ih (B++W++M) (by rw [←hB];simp)) rfl rfl rfl
  ·have k1':¬ d.kind=1:=by simpa using k1
   rw [if_neg k1'] at hB hlen;refine fR Z ?_;refine Run.cond Z Z (fun k2=>?_) (fun k2=>?_)
   ·have k2':d.kind=2:=by simpa using k2
    rw [if_pos k2'] at hB hlen;refine fR Z ?_;refine Mid.call (qx H ds hD d hd (by omega)) Z Z Z Z ?_;skip;generalize QD ds d.name [] d.fields=M at hB hlen;refine apM z4.enc (B++W) M Z Z Z Z Z ?_ (h1:=by first |omega|(simp;omega)|(simp;done)) (h2:=by first |omega|(simp;omega)|(simp;done));refine fM rfl ?_;refine aL rfl rfl rfl rfl rfl ?_;refine fM rfl ?_;exact zk 2 rfl (ih (B++W++M) (by rw [←hB];simp)) rfl rfl rfl
   ·have k2':¬ d.kind=2:=by simpa using k2
    rw [if_neg k2'] at hB hlen;refine fR Z ?_;refine Run.cond Z Z (fun k4=>?_) (fun k4=>?_)
    ·have k4':d.kind=4:=by simpa using k4
     rw [if_pos k4'] at hB hlen;refine fR Z ?_;refine Mid.call (W7 H d hd (by omega)) Z Z Z Z ?_;skip;generalize z0F d.name [] d.members=M at hB hlen;refine apM z4.enc (B++W) M Z Z Z Z Z ?_ (h1:=by first |omega|(simp;omega)|(simp;done)) (h2:=by first |omega|(simp;omega)|(simp;done));refine fM rfl ?_;refine aL rfl rfl rfl rfl rfl ?_;refine fM rfl ?_;exact zk 2 rfl (ih (B++W++M) (by rw [←hB];simp)) rfl rfl rfl
    ·have k4':¬ d.kind=4:=by simpa using k4
     rw [if_neg k4'] at hB hlen;refine fR Z ?_;refine Run.cond Z Z (fun k5=>?_) (fun k5=>?_)
     ·have k5':d.kind=5:=by simpa using k5
      rw [if_pos k5'] at hB hlen;refine fR Z ?_;refine pu Z ?_;refine Mid.call (Yq H ds hD d.zH hnl hd.n (d.name++[46]) [] (by simp;omega) (by decide) (by omega)) Z Z Z Z ?_;skip;generalize inF ds (d.name++[46]) [] [] d.zH=M at hB hlen;refine apM z4.enc (B++W) M Z Z Z Z Z ?_ (h1:=by first |omega|(simp;omega)|(simp;done)) (h2:=by first |omega|(simp;omega)|(simp;done));refine fM rfl ?_;refine aL rfl rfl rfl rfl rfl ?_;refine fM rfl ?_;exact zk 2 rfl (ih (B++W++M) (by rw [←hB];simp)) rfl rfl rfl
     ·have k5':¬ d.kind=5:=by simpa using k5
      rw [if_neg k5'] at hB hlen;refine fR Z ?_;refine aL Z Z Z Z Z ?_;refine fM Z ?_;exact zk 2 Z (ih (B++W) (by rw [←hB];simp)) Z Z Z
end Go.GB.C11
