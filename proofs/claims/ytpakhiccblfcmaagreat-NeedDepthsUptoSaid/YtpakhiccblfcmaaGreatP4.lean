/-
  YtpakhiccblfcmaaGreatP4: lemmas. No conditions.
-/
import Derived.Test.YtpakhiccblfcmaaGreatP2
import Derived.Test.YtpakhiccblfcmaaGreatP3
set_option linter.all false
set_option maxRecDepth 100000
set_option maxHeartbeats 16000000
namespace Go.GB
section
variable {P:Program}
def L.zO (Λ:L) (m m':Nat) (Λ':L):L where
 lab:=fun b=>if Λ.high m b then Λ.lab b else Λ'.lab b
 fro:=fun k=>if k<m' then Λ'.fro k else Λ.fro k
 nxt:=Λ.nxt
 w:=Λ'.w
 frf:=fun k i=>if k<m' then Λ'.frf k i else Λ.frf k i
theorem z6.same {f:FuncId} {vs:List V} {m:Nat} {sto:List (Nat×z5)} {out:Out} (h:z6 P f vs ⟨sto,m⟩ out) (hrd:out.rd=true) (hb:V.bds m vs=true) (hs:zP m sto=true) (hob:∀k o,(k,o)∈out.ob->zl sto k≠none∨(m<=k/\k<m+out.n)):w4 P f vs m sto out:=by
 refine ⟨h.1,hob,fun Λ args hr hle hfree hsz hargs=>?_⟩;refine (h.2 (Λ.zB m) args (hr.hf hs) Z hsz fun j v y h1 h2=>(hargs j v y h1 h2).hf (V.ZL hb j y h2)).mono fun e w' he=>?_;obtain ⟨v,Λ',rfl,rfl,k1,k2,k3,k4⟩:=he;simp only at k2 k3
 have hlt:∀{b:Nat},Λ.high m b=true->b<Λ.w.heap.size:=by
  intro b hh
  rcases w1b b Λ.w.heap.size with h|h
  ·exact h
  ·unfold L.high at hh;rw [hr.new b h] at hh;simp at hh
 have hH:∀{b:Nat},Λ.high m b=true->(Λ.zO m (m+out.n) Λ').lab b=Λ.lab b:=fun h=>by simp [L.zO,h]
 have hL:∀{b:Nat},Λ.high m b=false->(Λ.zO m (m+out.n) Λ').lab b=Λ'.lab b:=fun h=>by simp [L.zO,h]
 have hheap:∀{b:Nat},Λ.high m b=true->∃fr,Λ'.lab b= .fix (some fr)/\Λ'.w.heap[b]?=Λ.w.heap[b]?/\((∃k,Λ.lab b= .obj k/\m<=k/\fr=0)∨(∃k,Λ.lab b= .arr k fr/\m<=k)∨(∃k i,Λ.lab b= .fob k i/\m<=k/\fr=0)∨∃k i,Λ.lab b= .far k i fr/\m<=k):=by
  intro b hh;obtain ⟨fr,e1,e2⟩:=z9m hh;obtain ⟨g1,g2⟩:=k1.fr.fix b (hlt hh) _ e1;exact ⟨fr,g1,g2,e2⟩
 have hlow:∀{b k:Nat},k<m->(Λ.lab b= .obj k∨∃n,Λ.lab b= .arr k n)->Λ.high m b=false:=by
  intro b k hk hb;unfold L.high
  rcases hb with hb|⟨n,hb⟩<;>rw [hb]<;>simp<;>omega
 have hkp:Kp Λ (Λ.zO m (m+out.n) Λ'):=by
  refine ⟨⟨k1.fr.os,k1.fr.tape,k1.fr.output,k1.fr.size,fun b hb fr hl=>?_,fun b hb k fr hl o ho=>?_,fun b hb k i fr hl o ho=>?_⟩,w07 _,fun b k _ hl=>?_,fun b k n _ hb hl hf=>?_,fun k hk=>?_,fun b k i _ hl=>?_,fun b k i n _ hb hl hf=>?_,fun k i hk=>?_,fun b k i hk hp hf hl=>?_⟩
  ·have hh:Λ.high m b=false:=by unfold L.high;rw [hl]
   obtain ⟨g1,g2⟩:=k1.fr.fix b hb fr (by rw [z4V hh];exact hl)
   exact ⟨by rw [hL hh];exact g1,g2⟩
  ·cases hh:Λ.high m b with
   |true=>
    obtain ⟨fr',g1,g2,g3⟩:=hheap hh
    exact ⟨by unfold Rd;rw [hH hh,hl];exact ho,cell?_heap g2⟩
   |false=>
    obtain ⟨g1,g2⟩:=k1.fr.arr b hb k fr (by rw [z4V hh];exact hl) o ho
    exact ⟨by unfold Rd;rw [hL hh];exact g1,g2⟩
  ·cases hh:Λ.high m b with
   |true=>
    obtain ⟨fr',g1,g2,g3⟩:=hheap hh
    exact ⟨by unfold Rd;rw [hH hh,hl];exact ho,cell?_heap g2⟩
   |false=>
    obtain ⟨g1,g2⟩:=k1.fr.far b hb k i fr (by rw [z4V hh];exact hl) o ho
    exact ⟨by unfold Rd;rw [hL hh];exact g1,g2⟩
  ·cases hh:Λ.high m b with
   |true=>rw [hH hh];exact hl
   |false=>
    have hk:k<m:=by unfold L.high at hh;rw [hl] at hh;simpa using hh
    rw [hL hh];exact k1.obj b k hk (Wn hl hk)
  ·cases hh:Λ.high m b with
   |true=>
    obtain ⟨fr',g1,g2,g3⟩:=hheap hh
    exact ⟨by rw [hH hh];exact hl,g2⟩
   |false=>
    have hk:k<m:=by unfold L.high at hh;rw [hl] at hh;simpa using hh
    have e1:(Λ.zB m).fro k=Λ.fro k:=by simp [L.zB,hk]
    have e2:(Λ.zO m (m+out.n) Λ').fro k=Λ'.fro k:=by simp [L.zO];omega
    obtain ⟨g1,g2⟩:=k1.own b k n hk hb (zbG hl hk) (by rw [←e2,hf,e1])
    exact ⟨by rw [hL hh];exact g1,g2⟩
  ·simp only [L.zO];by_cases h1:k<m
   ·have:=k1.fro k h1
    have e1:(Λ.zB m).fro k=Λ.fro k:=by simp [L.zB,h1]
    rw [w0c (by omega)];omega
   ·by_cases h2:k<m+out.n
    ·rw [w0c h2,(hfree k (by omega) h2).2.1.fro];omega
    ·rw [w0d h2];exact w07 _
  ·cases hh:Λ.high m b with
   |true=>
    obtain ⟨fr',g1,g2,g3⟩:=hheap hh
    exact ⟨by rw [hH hh];exact hl,fun N hN=>by unfold ZG at hN⊢;show (match Λ'.w.heap[b]? with|some (.cells arr _ _)=>some arr.size|_=>none)=_;rw [g2];exact hN⟩
   |false=>
    have hk:k<m:=by unfold L.high at hh;rw [hl] at hh;simpa using hh
    obtain ⟨g1,g2⟩:=k1.fob b k i hk (z14 hl hk)
    exact ⟨by rw [hL hh];exact g1,g2⟩
  ·cases hh:Λ.high m b with
   |true=>
    obtain ⟨fr',g1,g2,g3⟩:=hheap hh
    exact ⟨by rw [hH hh];exact hl,g2⟩
   |false=>
    have hk:k<m:=by unfold L.high at hh;rw [hl] at hh;simpa using hh
    have e1:(Λ.zB m).frf k i=Λ.frf k i:=by simp [L.zB,hk]
    have e2:(Λ.zO m (m+out.n) Λ').frf k i=Λ'.frf k i:=by simp [L.zO];omega
    obtain ⟨g1,g2⟩:=k1.far b k i n hk hb (zbC hl hk) (by rw [←e2,hf,e1])
    exact ⟨by rw [hL hh];exact g1,g2⟩
  ·simp only [L.zO];by_cases h1:k<m
   ·have:=k1.frf k i h1
    have e1:(Λ.zB m).frf k i=Λ.frf k i:=by simp [L.zB,h1]
    rw [w0c (by omega)];omega
   ·by_cases h2:k<m+out.n
    ·rw [w0c h2,(hfree k (by omega) h2).2.1.frf];omega
    ·rw [w0d h2];exact w07 _
  ·cases hh:Λ.high m b with
   |true=>rw [hH hh] at hl;exact hl
   |false=>
    rw [hL hh] at hl;have hkb:=k3.wh b k (.inl ⟨i,hl⟩)
    rcases w1b k m with hkm|hkm
    ·have e1:(Λ.zB m).frf k 0=Λ.frf k 0:=by simp [L.zB,hkm]
     have e2:(Λ.zO m (m+out.n) Λ').frf k 0=Λ'.frf k 0:=by simp [L.zO];omega
     exact (yH (k1.z4W b k i hkm (by rw [e1];exact hp) (by rw [←e2,hf,e1]) hl)).1
    ·have:=(hfree k hkm (by omega)).2.1.frf 0;omega
 have hobj:∀{b k:Nat},Λ'.lab b= .obj k->(Λ.zO m (m+out.n) Λ').lab b= .obj k:=by
  intro b k hb
  cases hh:Λ.high m b with
  |true=>obtain ⟨fr,g1,_⟩:=hheap hh;rw [g1] at hb;simp at hb
  |false=>rw [hL hh];exact hb
 have harr:∀{b k n:Nat},Λ'.lab b= .arr k n->(Λ.zO m (m+out.n) Λ').lab b= .arr k n:=by
  intro b k n hb
  cases hh:Λ.high m b with
  |true=>obtain ⟨fr,g1,_⟩:=hheap hh;rw [g1] at hb;simp at hb
  |false=>rw [hL hh];exact hb
 have hfob:∀{b k i:Nat},Λ'.lab b= .fob k i->(Λ.zO m (m+out.n) Λ').lab b= .fob k i:=by
  intro b k i hb
  cases hh:Λ.high m b with
  |true=>obtain ⟨fr,g1,_⟩:=hheap hh;rw [g1] at hb;simp at hb
  |false=>rw [hL hh];exact hb
 have hfar:∀{b k i n:Nat},Λ'.lab b= .far k i n->(Λ.zO m (m+out.n) Λ').lab b= .far k i n:=by
  intro b k i n hb
  cases hh:Λ.high m b with
  |true=>obtain ⟨fr,g1,_⟩:=hheap hh;rw [g1] at hb;simp at hb
  |false=>rw [hL hh];exact hb
 have hrep:∀{u:Value} {y:T},zR Λ'.lab Λ'.w u y->zR (Λ.zO m (m+out.n) Λ').lab (Λ.zO m (m+out.n) Λ').w u y:=by
  intro u y hy;refine hy.yq fun b o _ _ hrd=>⟨?_,rfl⟩
  cases hh:Λ.high m b with
  |true=>
   obtain ⟨fr,g1,_,g3⟩:=hheap hh;unfold Rd at hrd⊢;rw [g1] at hrd;rw [hH hh]
   rcases g3 with ⟨k,e,_,rfl⟩|⟨k,e,_⟩|⟨k,i,e,_,rfl⟩|⟨k,i,e,_⟩
   ·omega
   ·rw [e];exact hrd
   ·omega
   ·rw [e];exact hrd
  |false=>unfold Rd;rw [hL hh];exact hrd
 have hfobI:∀{b k i:Nat},k<m+out.n->(Λ.zO m (m+out.n) Λ').lab b= .fob k i->Λ'.lab b= .fob k i:=by
  intro b k i hk hb
  cases hh:Λ.high m b with
  |true=>
   rw [hH hh] at hb
   have hge:m<=k:=by unfold L.high at hh;rw [hb] at hh;simpa using hh
   exact absurd hb ((hfree k hge hk).2.1.fob b i)
  |false=>rw [hL hh] at hb;exact hb
 have hcur:∀{b k:Nat},k<m+out.n->qz Λ'.lab k b->qz (Λ.zO m (m+out.n) Λ').lab k b:=by
  rintro b k hk ⟨i,e1,e2⟩;exact ⟨i,hfob e1,fun b' i' h'=>e2 b' i' (hfobI hk h')⟩
 have hfrf:∀{k i:Nat},k<Λ'.nxt->(Λ.zO m (m+out.n) Λ').frf k i=Λ'.frf k i:=by
  intro k i hk;rw [k2] at hk;simp [L.zO,hk]
 have hfro:∀{k:Nat},k<Λ'.nxt->(Λ.zO m (m+out.n) Λ').fro k=Λ'.fro k:=by
  intro k hk;rw [k2] at hk;simp [L.zO,hk]
 have hval:∀{u:Value} {y:V},zy Λ' u y->zy (Λ.zO m (m+out.n) Λ') u y:=by
  intro u y hy
  induction hy with
  |t h=>exact .t (hrep h)
  |zJ=>exact .zJ
  |@own v k sz xs h hsz hl hn ho=>
   refine .own (hrep h) hsz (by show k<Λ.nxt;omega) (by rw [hfro hl];exact hn) fun he=>?_
   rcases ho (by rw [←hfro hl];exact he) with ho|⟨b,cap,arr,e,hv,hb',hh,hc,hn'⟩
   ·exact .inl ho
   ·exact .inr ⟨b,cap,arr,e,hv,harr hb',hh,hc,hn'⟩
  |slc hl hc h=>exact .slc (by show _<Λ.nxt;omega) hc (hobj h)
  |agg hs _ ih=>exact .agg hs ih
  |tup hs _ ih=>exact .tup hs ih
  |ptr hl h=>exact .ptr (by show _<Λ.nxt;omega) (hobj h)
  |mp hl h=>exact .mp (by show _<Λ.nxt;omega) (hobj h)
  |fn hs h=>exact .fn hs fun j v c h1 h2=>let ⟨b,e1,e2,e3⟩:=h j v c h1 h2;⟨b,e1,hobj e2,by show _<Λ.nxt;omega⟩
  |gd _ h' ih=>exact .gd ih h'
  |top=>exact .top
  |ub h h'=>exact .ub h h'
  |fpt hl h=>exact .fpt (by show _<Λ.nxt;omega) (hfob h)
  |gpt hv hl hn h=>
   refine .gpt hv (by show _<Λ.nxt;omega) (by rw [hfrf hl];exact hn) fun he=>?_;obtain ⟨b,e1,e2⟩:=h (by rw [←hfrf hl];exact he);exact ⟨b,e1,hcur (by omega) e2⟩
  |gsl hv hl hn h=>
   refine .gsl hv (by show _<Λ.nxt;omega) (by rw [hfrf hl];exact hn) fun he=>?_
   rcases h (by rw [←hfrf hl];exact he) with h|⟨b,cap,N,hv,hc,e2,hN,he'⟩
   ·exact .inl h
   ·exact .inr ⟨b,cap,N,hv,hc,hcur (by omega) e2,hN,he'⟩
  |fow h hsz hl hn ho=>
   refine .fow (hrep h) hsz (by show _<Λ.nxt;omega) (by rw [hfrf hl];exact hn) fun he=>?_
   rcases ho (by rw [←hfrf hl];exact he) with ho|⟨b,cap,arr,e,hv,hb',hh,hc,hn'⟩
   ·exact .inl ho
   ·exact .inr ⟨b,cap,arr,e,hv,hfar hb',hh,hc,hn'⟩
 have hname:∀{b k:Nat},Λ.high m b=true->((Λ.zO m (m+out.n) Λ').lab b= .obj k∨∃n,(Λ.zO m (m+out.n) Λ').lab b= .arr k n)->m+out.n<=k/\(Λ.lab b= .obj k∨∃n,Λ.lab b= .arr k n):=by
  intro b k hh hb;rw [hH hh] at hb;refine ⟨?_,hb⟩
  have hge:m<=k:=by unfold L.high at hh;rcases hb with hb|⟨n,hb⟩<;>rw [hb] at hh<;>simpa using hh
  rcases w1b k (m+out.n) with h|h
  ·have:=(hfree k hge h).2.1
   rcases hb with hb|⟨n,hb⟩
   ·exact absurd hb (this.obj b)
   ·exact absurd hb (this.arr b n)
  ·exact h
 have hlowname:∀{b k:Nat},Λ.high m b=false->((Λ.zO m (m+out.n) Λ').lab b= .obj k∨∃n,(Λ.zO m (m+out.n) Λ').lab b= .arr k n)->k<m+out.n/\(Λ'.lab b= .obj k∨∃n,Λ'.lab b= .arr k n):=by
  intro b k hh hb;rw [hL hh] at hb;have:=k3.bnd b k hb
  exact ⟨by omega,hb⟩
 refine ⟨v,Λ.zO m (m+out.n) Λ',rfl,rfl,hkp,rfl,?_,hval k4,fun k hk hn hcase=>?_⟩
 ·refine ⟨fun k o ho=>?_,fun b b' k h1 h2=>?_,fun b hb=>?_,fun b k hb=>?_,fun k hk=>?_,fun b b' k i h1 h2=>?_,fun b k hb=>?_,fun k i hk=>?_⟩
  ·obtain ⟨g1,g2⟩:=k3.sto k o ho
   refine ⟨by show k<Λ.nxt;omega,?_⟩
   cases o with
   |cells cs=>
    obtain ⟨b,arr,e,e1,e2,e3,e4⟩:=g2;exact ⟨b,arr,e,hobj e1,e2,e3,fun j v c a1 a2=>hval (e4 j v c a1 a2)⟩
   |map kag es sx=>
    obtain ⟨b,ents,clock,e1,e2,e3⟩:=g2;exact ⟨b,ents,clock,hobj e1,e2,e3.yq (fun _ _ h=>hrep h) (fun _ _ _ _ h=>hval h)⟩
   |arr n=>unfold WV at*;rw [hfro g1];exact g2
   |iter q s seen c=>
    obtain ⟨b,bm,e1,e2,e3,e4⟩:=g2
    exact ⟨b,bm,hobj e1,e2,hobj e3,by show q<Λ.nxt;omega⟩
   |gro ver cs=>
    obtain ⟨q0,q⟩:=g2
    refine ⟨by rw [hfrf g1];exact q0,?_⟩
    rcases q with ⟨e1,e2⟩|⟨b,arr,e,e1,e2,e3,e4⟩
    ·exact .inl ⟨e1,fun b i hb=>e2 b i (hfobI (by omega) hb)⟩
    ·exact .inr ⟨b,arr,e,hcur (by omega) e1,e2,e3,fun j v c a1 a2=>hval (e4 j v c a1 a2)⟩
   |wo os=>
    obtain ⟨q0,q⟩:=g2;refine ⟨fun b i hb=>q0 b i (hfobI (by omega) hb),fun i cs hi=>?_⟩;obtain ⟨b,arr,e,e1,e2,e3,e4⟩:=q i cs hi;exact ⟨b,arr,e,hfob e1,e2,e3,fun j v c a1 a2=>hval (e4 j v c a1 a2)⟩
   |Ya ns=>exact fun i=>(hfrf g1).trans (g2 i)
   |WM kag I=>
    obtain ⟨b,ents,clock,e1,e2,e3,e4,e5⟩:=g2;refine ⟨b,ents,clock,hobj e1,e2,e3,e4,fun i e hi=>?_⟩;obtain ⟨cs,v,q1,q2,q3⟩:=e5 i e hi;exact ⟨cs,v,q1.yq fun _ _ h=>hrep h,hrep q2,q3⟩
  ·cases hh:Λ.high m b with
   |true=>
    obtain ⟨q1,q2⟩:=hname hh (.inl h1)
    cases hh':Λ.high m b' with
    |true=>
     rw [hH hh] at h1;rw [hH hh'] at h2;exact hr.inj b b' k h1 h2
    |false=>have:=(hlowname hh' (.inl h2)).1;omega
   |false=>
    have q:=(hlowname hh (.inl h1)).1
    cases hh':Λ.high m b' with
    |true=>have:=(hname hh' (.inl h2)).1;omega
    |false=>rw [hL hh] at h1;rw [hL hh'] at h2;exact k3.inj b b' k h1 h2
  ·have hge:Λ.w.heap.size<=b:=w0u k1.fr.size hb
   have hh:Λ.high m b=false:=by unfold L.high;rw [hr.new b hge]
   rw [hL hh];exact k3.new b hb
  ·show k<Λ.nxt
   cases hh:Λ.high m b with
   |true=>exact hr.bnd b k (hname hh hb).2
   |false=>have:=(hlowname hh hb).1;omega
  ·have hk':Λ.nxt<=k:=hk;simp only [L.zO];rw [w0d (by omega)];exact hr.frz k hk'
  ·cases hh:Λ.high m b with
   |true=>
    cases hh':Λ.high m b' with
    |true=>rw [hH hh] at h1;rw [hH hh'] at h2;exact hr.wF b b' k i h1 h2
    |false=>
     rw [hL hh'] at h2;have hkb:=k3.wh b' k (.inl ⟨i,h2⟩);have h1':=hfobI (by omega) h1;exact k3.wF b b' k i h1' h2
   |false=>
    rw [hL hh] at h1;have hkb:=k3.wh b k (.inl ⟨i,h1⟩);exact k3.wF b b' k i h1 (hfobI (by omega) h2)
  ·show k<Λ.nxt
   cases hh:Λ.high m b with
   |true=>rw [hH hh] at hb;exact hr.wh b k hb
   |false=>rw [hL hh] at hb;have:=k3.wh b k hb;omega
  ·have hk':Λ.nxt<=k:=hk;simp only [L.zO];rw [w0d (by omega)];exact hr.z22 k i hk'
 ·rcases hcase with hge|⟨hlt',hrd'⟩
  ·refine ⟨fun b hb=>?_,fun b n hb=>?_,?_,fun b i hb=>?_,fun b i n hb=>?_,fun i=>?_⟩
   ·cases hh:Λ.high m b with
    |true=>rw [hH hh] at hb;exact hk.obj b hb
    |false=>have:=(hlowname hh (.inl hb)).1;omega
   ·cases hh:Λ.high m b with
    |true=>rw [hH hh] at hb;exact hk.arr b n hb
    |false=>have:=(hlowname hh (.inr ⟨n,hb⟩)).1;omega
   ·simp only [L.zO];rw [w0d (by omega)];exact hk.fro
   ·cases hh:Λ.high m b with
    |true=>rw [hH hh] at hb;exact hk.fob b i hb
    |false=>rw [hL hh] at hb;have:=k3.wh b k (.inl ⟨i,hb⟩);omega
   ·cases hh:Λ.high m b with
    |true=>rw [hH hh] at hb;exact hk.far b i n hb
    |false=>rw [hL hh] at hb;have:=k3.wh b k (.inr ⟨i,n,hb⟩);omega
   ·simp only [L.zO];rw [w0d (by omega)];exact hk.frf i
  ·rw [hrd] at hrd';cases hrd'
theorem za4 {f:FuncId} {vs:List V} {x:V} {base:Nat} {sto:List (Nat×z5)} {K:Out->Prop} (h:z6 P f vs ⟨sto,base⟩ {v:=x,rd:=true}) (hb:V.bds base vs=true) (hs:zP base sto=true) (hk:K {v:=x,rd:=true}):qP P f vs base sto K:=
 ⟨_,by simp only [w0v];exact h.same rfl hb hs (by simp),hk⟩
end
def mE {κ ν:Type} (ek:κ->List T) (ev:ν->T) (l:List (κ×ν)):List (List T×V):=l.map fun e=>(ek e.1,.t (ev e.2))
def cE {ν:Type} (ev:ν->T) (l:List ν):List V:=l.map fun x=> .t (ev x)
theorem V.z2w {ν:Type} (m:Nat) (ev:ν->T):∀(l:List ν),V.bds m (cE ev l)=true
 |[]=>rfl
 |x::r=>by have:=V.z2w m ev r;simp only [cE] at this;simp [cE,V.bds,V.bd,this]
theorem z5.z7b {ν:Type} (m:Nat) (ev:ν->T) (l:List ν):(z5.cells (cE ev l)).bd m=true:=V.z2w m ev l
theorem z5.z6x {κ ν:Type} (m:Nat) (kag:Bool) (ek:κ->List T) (ev:ν->T) (l:List (κ×ν)) (sx:Option (Nat×List Nat)):(z5.map kag (mE ek ev l) sx).bd m=true:=by
 have:=V.z2w m (fun e:κ×ν=>ev e.2) l;simp only [cE] at this;simp only [z5.bd,mE,List.map_map,Function.comp_def];exact this
theorem zq.cE {ν:Type} {m m':Nat} {ev:ν->T} {l l':List ν} (h:l=l'):zq m m' (cE ev l) (cE ev l'):=h▸ .same (V.z2w m ev l)
theorem LeO.mE {κ ν:Type} {m m':Nat} {kag:Bool} {ek:κ->List T} {ev:ν->T} {l l':List (κ×ν)} {sx sx':Option (Nat×List Nat)} (h:l=l') (hs:sx'=none∨sx'=sx):LeO m m' (.map kag (mE ek ev l) sx) (.map kag (mE ek ev l') sx'):=by
 subst h;have:=V.z2w m (fun e:κ×ν=>ev e.2) l;simp only [Go.GB.cE] at this;exact .map Z (by simp only [Go.GB.mE,List.map_map,Function.comp_def];exact .same this) hs
def gE {α:Type} (f:α->List V) (l:List α):List V:=(l.map f).flatten
theorem Qo {α:Type} (f:α->List V) (l k:List α):gE f (l++k)=gE f l++gE f k:=by simp [gE]
theorem Y7 {α:Type} {f:α->List V} {sz:Nat} (h:∀x,(f x).length=sz):∀(l:List α),(gE f l).length=l.length*sz
 |[]=>by simp [gE]
 |x::r=>by
  have:=Y7 h r;simp only [gE] at this;simp only [gE,w0o,w1j,w0g,this,h,w0b];rw [w1d];omega
theorem V.z9y (m:Nat):∀(a b:List V),V.bds m (a++b)=(V.bds m a&&V.bds m b)
 |[],b=>by simp [V.bds]
 |x::r,b=>by simp [V.bds,V.z9y m r b,Bool.and_assoc]
theorem V.z5i {α:Type} {m:Nat} {f:α->List V} (h:∀x,V.bds m (f x)=true):∀(l:List α),V.bds m (gE f l)=true
 |[]=>rfl
 |x::r=>by
  have:=V.z5i h r;simp only [gE] at this;simp only [gE,w0o,w1j,V.z9y,h,this,Bool.and_self]
theorem zq.gE {α:Type} {m m':Nat} {f:α->List V} {l l':List α} (h:l=l') (hb:∀x,V.bds m (f x)=true):zq m m' (gE f l) (gE f l'):=h▸ .same (V.z5i hb l)
theorem LeO.qF {m m' r r':Nat} {cs ds:List V} (e:r=r') (h:zq m m' cs ds):LeO m m' (.gro r cs) (.gro r' ds):=e▸ .gro h
theorem LeX.QD {m m' k ver ver' off off' len len' sz:Nat} (e1:ver=ver') (e2:off=off') (e3:len=len') (h:k<m):LeX m m' (.gsl k ver off len sz) (.gsl k ver' off' len' sz):=by
 subst e1;subst e2;subst e3;exact .same (by simpa [V.bd] using h)
end Go.GB
namespace Go.GB
section
variable {P:Program}
mutual
def V.ren (ρ:Nat->Nat):V->V
 | .t x=> .t x
 | .zJ=> .zJ
 | .top=> .top
 | .own k sz xs=> .own (ρ k) sz xs
 | .slc k o l s=> .slc (ρ k) o l s
 | .ptr k o=> .ptr (ρ k) o
 | .mp k=> .mp (ρ k)
 | .fn f cs=> .fn f (cs.map fun c=>(ρ c.1,c.2))
 | .agg cs=> .agg (V.w7 ρ cs)
 | .tup cs=> .tup (V.w7 ρ cs)
 | .gd c x=> .gd c (x.ren ρ)
 | .ub c d=> .ub c d
 | .fpt k i o=> .fpt (ρ k) i o
 | .gpt k v o=> .gpt (ρ k) v o
 | .gsl k v o l s=> .gsl (ρ k) v o l s
 | .fow k i s xs=> .fow (ρ k) i s xs
def V.w7 (ρ:Nat->Nat):List V->List V
 |[]=>[]
 |x::r=>x.ren ρ::V.w7 ρ r
end
theorem V.y7 (ρ:Nat->Nat):∀(cs:List V),V.w7 ρ cs=cs.map (V.ren ρ)
 |[]=>rfl
 |x::r=>by simp [V.w7,V.y7 ρ r]
def z5.ren (ρ:Nat->Nat):z5->z5
 | .cells cs=> .cells (V.w7 ρ cs)
 | .map kag es st=> .map kag (es.map fun e=>(e.1,e.2.ren ρ)) st
 | .arr n=> .arr n
 | .iter q s seen c=> .iter (ρ q) s seen c
 | .gro v cs=> .gro v (V.w7 ρ cs)
 | .wo os=> .wo (os.map (V.w7 ρ))
 | .Ya ns=> .Ya ns
 | .WM a I=> .WM a I
structure Rn (ρ:Nat->Nat) (σ:Nat->Option Nat) (m1 m n:Nat):Prop where
 inv:∀k j,σ k=some j->ρ j=k/\j<m1+n
 at_:∀j,j<m1+n->σ (ρ j)=some j
 low:∀j,j<m1->ρ j<m
 new:∀j,m1<=j->j<m1+n->ρ j=m+(j - m1)
def L.view (Λ:L) (ρ:Nat->Nat) (σ:Nat->Option Nat) (m1:Nat):L where
 lab:=fun b=>match Λ.lab b with
  | .obj k=>match σ k with|some j=> .obj j|none=> .fix (some 0)
  | .arr k fr=>match σ k with|some j=> .arr j fr|none=> .fix (some fr)
  | .fob k i=>match σ k with|some j=> .fob j i|none=> .fix (some 0)
  | .far k i fr=>match σ k with|some j=> .far j i fr|none=> .fix (some fr)
  |x=>x
 fro:=fun j=>if j<m1 then Λ.fro (ρ j) else 0
 nxt:=m1
 w:=Λ.w
 frf:=fun j i=>if j<m1 then Λ.frf (ρ j) i else 0
def L.hid (Λ:L) (σ:Nat->Option Nat) (b:Nat):Bool:=
 match Λ.lab b with
 | .obj k=>(σ k).isNone
 | .arr k _=>(σ k).isNone
 | .fob k _=>(σ k).isNone
 | .far k _ _=>(σ k).isNone
 |_=>false
def Lab.ren (ρ:Nat->Nat):Lab->Lab
 | .obj k=> .obj (ρ k)
 | .arr k fr=> .arr (ρ k) fr
 | .fob k i=> .fob (ρ k) i
 | .far k i fr=> .far (ρ k) i fr
 |x=>x
def L.zY (Λ:L) (ρ:Nat->Nat) (σ:Nat->Option Nat) (Λ':L):L where
 lab:=fun b=>if Λ.hid σ b then Λ.lab b else (Λ'.lab b).ren ρ
 fro:=fun k=>match σ k with|some j=>Λ'.fro j|none=>Λ.fro k
 nxt:=Λ.nxt
 w:=Λ'.w
 frf:=fun k i=>match σ k with|some j=>Λ'.frf j i|none=>Λ.frf k i
variable {ρ:Nat->Nat} {σ:Nat->Option Nat} {m1 m n:Nat}
theorem zbQ {Λ:L} {b:Nat} (h:Λ.hid σ b=true):∃fr,(Λ.view ρ σ m1).lab b= .fix (some fr)/\((∃k,Λ.lab b= .obj k/\σ k=none/\fr=0)∨(∃k,Λ.lab b= .arr k fr/\σ k=none)∨(∃k i,Λ.lab b= .fob k i/\σ k=none/\fr=0)∨∃k i,Λ.lab b= .far k i fr/\σ k=none):=by
 unfold L.hid at h;simp only [L.view]
 cases hl:Λ.lab b with
 |fix fr=>rw [hl] at h;simp at h
 |obj k=>rw [hl] at h;simp at h;exact ⟨0,by simp [h],.inl ⟨k,rfl,h,rfl⟩⟩
 |arr k fr=>rw [hl] at h;simp at h;exact ⟨fr,by simp [h],.inr (.inl ⟨k,rfl,h⟩)⟩
 |fob k i=>rw [hl] at h;simp at h;exact ⟨0,by simp [h],.inr (.inr (.inl ⟨k,i,rfl,h,rfl⟩))⟩
 |far k i fr=>rw [hl] at h;simp at h;exact ⟨fr,by simp [h],.inr (.inr (.inr ⟨k,i,rfl,h⟩))⟩
theorem Yi {Λ:L} {b k j:Nat} (h:Λ.lab b= .obj k) (hk:σ k=some j):(Λ.view ρ σ m1).lab b= .obj j:=by simp [L.view,h,hk]
theorem z0S {Λ:L} {b k j fr:Nat} (h:Λ.lab b= .arr k fr) (hk:σ k=some j):(Λ.view ρ σ m1).lab b= .arr j fr:=by simp [L.view,h,hk]
theorem z0f {Λ:L} {b k j i:Nat} (h:Λ.lab b= .fob k i) (hk:σ k=some j):(Λ.view ρ σ m1).lab b= .fob j i:=by simp [L.view,h,hk]
theorem z0v {Λ:L} {b k j i fr:Nat} (h:Λ.lab b= .far k i fr) (hk:σ k=some j):(Λ.view ρ σ m1).lab b= .far j i fr:=by simp [L.view,h,hk]
theorem z2X {Λ:L} {b:Nat} {fr:Option Nat} (h:Λ.lab b= .fix fr):(Λ.view ρ σ m1).lab b= .fix fr:=by simp [L.view,h]
theorem WW {Λ:L} {b j:Nat} (h:(Λ.view ρ σ m1).lab b= .obj j):∃k,Λ.lab b= .obj k/\σ k=some j:=by
 simp only [L.view] at h
 cases hl:Λ.lab b with
 |fix fr=>simp [hl] at h
 |obj k=>simp only [hl] at h;split at h<;>simp_all
 |arr k fr=>simp only [hl] at h;split at h<;>simp_all
 |fob k i=>simp only [hl] at h;split at h<;>simp_all
 |far k i fr=>simp only [hl] at h;split at h<;>simp_all
theorem z5t {Λ:L} {b j fr:Nat} (h:(Λ.view ρ σ m1).lab b= .arr j fr):∃k,Λ.lab b= .arr k fr/\σ k=some j:=by
 simp only [L.view] at h
 cases hl:Λ.lab b with
 |fix fr=>simp [hl] at h
 |obj k=>simp only [hl] at h;split at h<;>simp_all
 |arr k fr=>simp only [hl] at h;split at h<;>simp_all
 |fob k i=>simp only [hl] at h;split at h<;>simp_all
 |far k i fr=>simp only [hl] at h;split at h<;>simp_all
theorem yN {Λ:L} {b j i:Nat} (h:(Λ.view ρ σ m1).lab b= .fob j i):∃k,Λ.lab b= .fob k i/\σ k=some j:=by
 simp only [L.view] at h
 cases hl:Λ.lab b with
 |fix fr=>simp [hl] at h
 |obj k=>simp only [hl] at h;split at h<;>simp_all
 |arr k fr=>simp only [hl] at h;split at h<;>simp_all
 |fob k i=>simp only [hl] at h;split at h<;>simp_all
 |far k i fr=>simp only [hl] at h;split at h<;>simp_all
theorem z54 {Λ:L} {b j i fr:Nat} (h:(Λ.view ρ σ m1).lab b= .far j i fr):∃k,Λ.lab b= .far k i fr/\σ k=some j:=by
 simp only [L.view] at h
 cases hl:Λ.lab b with
 |fix fr=>simp [hl] at h
 |obj k=>simp only [hl] at h;split at h<;>simp_all
 |arr k fr=>simp only [hl] at h;split at h<;>simp_all
 |fob k i=>simp only [hl] at h;split at h<;>simp_all
 |far k i fr=>simp only [hl] at h;split at h<;>simp_all
theorem zdg {Λ:L} {b o:Nat} (h:Rd Λ.lab b o):Rd (Λ.view ρ σ m1).lab b o:=by
 unfold Rd at*
 cases hl:Λ.lab b with
 |fix fr=>rw [z2X hl];rw [hl] at h;exact h
 |obj k=>rw [hl] at h;exact h.elim
 |arr k fr=>
  rw [hl] at h
  cases hk:σ k with
  |some j=>rw [z0S hl hk];exact h
  |none=>simp only [L.view,hl,hk];exact h
 |fob k i=>rw [hl] at h;exact h.elim
 |far k i fr=>
  rw [hl] at h
  cases hk:σ k with
  |some j=>rw [z0v hl hk];exact h
  |none=>simp only [L.view,hl,hk];exact h
theorem zR.view {Λ:L} {v:Value} {x:T} (h:zR Λ.lab Λ.w v x):zR (Λ.view ρ σ m1).lab (Λ.view ρ σ m1).w v x:=h.yq fun _ _ _ _ hr=>⟨zdg hr,rfl⟩
theorem z2s (hn:Rn ρ σ m1 m n) {Λ:L} {b k j:Nat} (h:qz Λ.lab k b) (hk:σ k=some j):qz (Λ.view ρ σ m1).lab j b:=by
 obtain ⟨i,e1,e2⟩:=h;refine ⟨i,z0f e1 hk,fun b' i' h'=>?_⟩;obtain ⟨k',a1,a2⟩:=yN h';have h1:=(hn.inv _ _ a2).1;have h2:=(hn.inv _ _ hk).1;rw [←h1,h2] at a1;exact e2 b' i' a1
theorem zy.view (hn:Rn ρ σ m1 m n) {Λ:L} {v:Value} {y:V} (h:zy Λ v y):∀{x:V},x.ren ρ=y->x.bd m1=true->zy (Λ.view ρ σ m1) v x:=by
 induction h with
 |t h=>intro x hx hb;cases x<;>simp [V.ren] at hx;subst hx;exact .t h.view
 |zJ=>intro x hx hb;cases x<;>simp [V.ren] at hx;exact .zJ
 |@own v k sz xs h hsz hl hm ho=>
  intro x hx hb;cases x<;>simp [V.ren] at hx
  rename_i j sz' xs';obtain ⟨e1,rfl,rfl⟩:=hx
  have hj:j<m1:=by simpa [V.bd] using hb
  have hf:(Λ.view ρ σ m1).fro j=Λ.fro k:=by simp [L.view,hj,e1]
  have hs:σ k=some j:=by rw [←e1];exact hn.at_ j (by omega)
  refine .own h.view hsz hj (by rw [hf];exact hm) fun he=>?_
  rcases ho (by rw [←hf];exact he) with ho|⟨b,cap,arr,e,hv,hb',hh,hc,hn'⟩
  ·exact .inl ho
  ·exact .inr ⟨b,cap,arr,e,hv,z0S hb' hs,hh,hc,hn'⟩
 |@slc b k off len cap sz hl hc h=>
  intro x hx hb;cases x<;>simp [V.ren] at hx
  rename_i j _ _ _;obtain ⟨e1,rfl,rfl,rfl⟩:=hx
  have hj:j<m1:=by simpa [V.bd] using hb
  exact .slc hj hc (Yi h (by rw [←e1];exact hn.at_ j (by omega)))
 |@agg vs cs hs hv ih=>
  intro x hx hb;cases x<;>simp [V.ren] at hx
  rename_i ds;rw [V.y7] at hx;subst hx;refine .agg (by simpa using hs) fun j v c h1 h2=>ih j v (c.ren ρ) h1 (by simp [h2]) Z (V.ZL (by simpa [V.bd] using hb) j c h2)
 |@tup vs cs hs hv ih=>
  intro x hx hb;cases x<;>simp [V.ren] at hx
  rename_i ds;rw [V.y7] at hx;subst hx;refine .tup (by simpa using hs) fun j v c h1 h2=>ih j v (c.ren ρ) h1 (by simp [h2]) Z (V.ZL (by simpa [V.bd] using hb) j c h2)
 |@ptr b k off hl h=>
  intro x hx hb;cases x<;>simp [V.ren] at hx
  rename_i j _;obtain ⟨e1,rfl⟩:=hx
  have hj:j<m1:=by simpa [V.bd] using hb
  exact .ptr hj (Yi h (by rw [←e1];exact hn.at_ j (by omega)))
 |@mp b k hl h=>
  intro x hx hb;cases x<;>simp [V.ren] at hx
  rename_i j
  have hj:j<m1:=by simpa [V.bd] using hb
  exact .mp hj (Yi h (by rw [←hx];exact hn.at_ j (by omega)))
 |@fn f vs cs hs h=>
  intro x hx hb;cases x<;>simp [V.ren] at hx
  obtain ⟨rfl,rfl⟩:=hx;rename_i ds;refine .fn (by simpa using hs) fun j v c h1 h2=>?_;obtain ⟨b,e1,e2,e3⟩:=h j v (ρ c.1,c.2) h1 (by simp only [w0f,h2,Option.map_some])
  have hk:c.1<m1:=by
   simp only [V.bd,w0m,w0n] at hb;exact hb c (zMG h2)
  exact ⟨b,e1,Yi e2 (hn.at_ c.1 (by omega)),hk⟩
 |gd _ h' ih=>
  intro x hx hb;cases x<;>simp [V.ren] at hx
  obtain ⟨rfl,e⟩:=hx;exact .gd (fun hc=>ih hc e (by simpa [V.bd] using hb)) h'
 |top=>intro x hx hb;cases x<;>simp [V.ren] at hx;exact .top
 |ub h h'=>intro x hx hb;cases x<;>simp only [V.ren,V.ub.injEq,reduceCtorEq] at hx;obtain ⟨rfl,rfl⟩:=hx;exact .ub h h'
 |@fpt b k i off hl h=>
  intro x hx hb;cases x<;>simp [V.ren] at hx
  rename_i j _ _;obtain ⟨e1,rfl,rfl⟩:=hx
  have hj:j<m1:=by simpa [V.bd] using hb
  exact .fpt hj (z0f h (by rw [←e1];exact hn.at_ j (by omega)))
 |@gpt v k ver off hv hl hm h=>
  intro x hx hb;cases x<;>simp [V.ren] at hx
  rename_i j _ _;obtain ⟨e1,rfl,rfl⟩:=hx
  have hj:j<m1:=by simpa [V.bd] using hb
  have hf:(Λ.view ρ σ m1).frf j 0=Λ.frf k 0:=by simp [L.view,hj,e1]
  have hs:σ k=some j:=by rw [←e1];exact hn.at_ j (by omega)
  refine .gpt hv hj (by rw [hf];exact hm) fun he=>?_;obtain ⟨b,e1,e2⟩:=h (by rw [←hf];exact he);exact ⟨b,e1,z2s hn e2 hs⟩
 |@gsl v k ver off len sz hv hl hm h=>
  intro x hx hb;cases x<;>simp [V.ren] at hx
  rename_i j _ _ _ _;obtain ⟨e1,rfl,rfl,rfl,rfl⟩:=hx
  have hj:j<m1:=by simpa [V.bd] using hb
  have hf:(Λ.view ρ σ m1).frf j 0=Λ.frf k 0:=by simp [L.view,hj,e1]
  have hs:σ k=some j:=by rw [←e1];exact hn.at_ j (by omega)
  refine .gsl hv hj (by rw [hf];exact hm) fun he=>?_
  rcases h (by rw [←hf];exact he) with h|⟨b,cap,N,hv,hc,e2,hN,he'⟩
  ·exact .inl h
  ·exact .inr ⟨b,cap,N,hv,hc,z2s hn e2 hs,hN,he'⟩
 |@fow v k i sz xs h hsz hl hm ho=>
  intro x hx hb;cases x<;>simp [V.ren] at hx
  rename_i j _ _ _;obtain ⟨e1,rfl,rfl,rfl⟩:=hx
  have hj:j<m1:=by simpa [V.bd] using hb
  have hf:∀i,(Λ.view ρ σ m1).frf j i=Λ.frf k i:=by intro i;simp [L.view,hj,e1]
  have hs:σ k=some j:=by rw [←e1];exact hn.at_ j (by omega)
  refine .fow h.view hsz hj (by rw [hf];exact hm) fun he=>?_
  rcases ho (by rw [←hf];exact he) with ho|⟨b,cap,arr,e,hv,hb',hh,hc,hn'⟩
  ·exact .inl ho
  ·exact .inr ⟨b,cap,arr,e,hv,z0v hb' hs,hh,hc,hn'⟩
theorem qR (hn:Rn ρ σ m1 m n):∀(ob:List (Nat×z5)) (s s1:List (Nat×z5)),(∀j,j<m1+n->zl s (ρ j)=(zl s1 j).map (z5.ren ρ))->(∀j o,(j,o)∈ob->j<m1+n)->
  (∀j,j<m1+n->zl (Zr s (ob.map fun e=>(ρ e.1,e.2.ren ρ))) (ρ j)=(zl (Zr s1 ob) j).map (z5.ren ρ))/\(∀k,σ k=none->zl (Zr s (ob.map fun e=>(ρ e.1,e.2.ren ρ))) k=zl s k)
 |[],s,s1,h,_=>⟨h,fun _ _=>rfl⟩
 |(i,o)::r,s,s1,h,hb=>by
  simp only [w0o,Zr];have hi:i<m1+n:=hb i o (by simp)
  obtain ⟨g1,g2⟩:=qR hn r (Yn s (ρ i) (o.ren ρ)) (Yn s1 i o) (fun j hj=>by
   rw [Zf,Zf];by_cases e:i=j
   ·subst e;simp
   ·have:ρ i≠ρ j:=by
     intro e';have h1:=hn.at_ i hi;have h2:=hn.at_ j hj;rw [e',h2] at h1;simp at h1;exact e h1.symm
    simp only [e,this,w0r];exact h j hj) (fun j o hj=>hb j o (by simp [hj]))
  refine ⟨g1,fun k hk=>?_⟩;rw [g2 k hk,Zf]
  have:ρ i≠k:=by rintro rfl;rw [hn.at_ i hi] at hk;cases hk
  simp [this]
theorem z6.ren {out:Out} (hn:Rn ρ σ m1 m out.n) {f:FuncId} {vs:List V} {sto s1:List (Nat×z5)} (h:z6 P f vs ⟨s1,m1⟩ out) (hb:V.bds m1 vs=true) (hs:zP m1 s1=true)
  (hsub:∀j,j<m1->zl sto (ρ j)=(zl s1 j).map (z5.ren ρ)) (hob:∀k o,(k,o)∈out.ob->k<m1+out.n/\(zl s1 k≠none∨m1<=k)):
  w4 P f (V.w7 ρ vs) m sto {v:=out.v.ren ρ,ob:=out.ob.map fun e=>(ρ e.1,e.2.ren ρ),n:=out.n,rd:=true}:=by
 refine ⟨h.1,fun k o hk=>?_,fun Λ args hr hle hfree hsz hargs=>?_⟩
 ·simp only [w1a] at hk;obtain ⟨⟨j,o'⟩,hj,e⟩:=hk;simp at e;obtain ⟨rfl,rfl⟩:=e;obtain ⟨h1,h2⟩:=hob j o' hj;by_cases hj1:j<m1
  ·left
   rcases h2 with h2|h2
   ·rw [hsub j hj1];simpa using h2
   ·omega
  ·right;have:=hn.new j (by omega) h1;show m<=ρ j/\ρ j<m+out.n;omega
 simp only at hle hfree
 have hfresh:∀{b k j:Nat},σ k=some j->(Λ.lab b= .obj k∨∃fr,Λ.lab b= .arr k fr)->j<m1:=by
  intro b k j hk hl;obtain ⟨e,hj⟩:=hn.inv k j hk
  rcases w1b j m1 with h|h
  ·exact h
  ·have e2:=hn.new j h hj;have:=(hfree k (by omega) (by omega)).2.1
   rcases hl with hl|⟨fr,hl⟩
   ·exact absurd hl (this.obj b)
   ·exact absurd hl (this.arr b fr)
 have hfreshF:∀{b k j:Nat},σ k=some j->((∃i,Λ.lab b= .fob k i)∨∃i fr,Λ.lab b= .far k i fr)->j<m1:=by
  intro b k j hk hl;obtain ⟨e,hj⟩:=hn.inv k j hk
  rcases w1b j m1 with h|h
  ·exact h
  ·have e2:=hn.new j h hj;have:=(hfree k (by omega) (by omega)).2.1
   rcases hl with ⟨i,hl⟩|⟨i,fr,hl⟩
   ·exact absurd hl (this.fob b i)
   ·exact absurd hl (this.far b i fr)
 have hr1:Z7 (Λ.view ρ σ m1) ⟨s1,m1⟩:=by
  refine ⟨fun j o hj=>?_,fun b b' j h1 h2=>?_,fun b hb=>?_,fun b j hb=>?_,fun j hj=>?_,fun b b' j i h1 h2=>?_,fun b j hb=>?_,fun j i hj=>?_⟩
  ·obtain ⟨h1,h2⟩:=qX hs j o hj;refine ⟨h1,?_⟩;have hro:=(hr.sto (ρ j) (o.ren ρ) (by rw [hsub j h1,hj];rfl)).2;have hs':=hn.at_ j (by omega)
   cases o with
   |cells cs=>
    obtain ⟨b,arr,e,e1,e2,e3,e4⟩:=hro;rw [V.y7] at e3 e4
    exact ⟨b,arr,e,Yi e1 hs',e2,by simpa using e3,fun i v c a1 a2=>(e4 i v (c.ren ρ) a1 (by simp [a2])).view hn rfl (V.ZL (by simpa [z5.bd] using h2) i c a2)⟩
   |map kag es sx=>
    obtain ⟨b,ents,clock,e1,e2,e3⟩:=hro
    refine ⟨b,ents,clock,Yi e1 hs',e2,⟨by simpa using e3.size,fun i e kv a1 a2=>?_,e3.born,e3.apart,e3.known⟩⟩
    obtain ⟨g1,g2⟩:=e3.at_ i e (kv.1,kv.2.ren ρ) a1 (by simp [a2]);exact ⟨g1.yq fun _ _ h=>h.view,g2.view hn Z (V.ZL (by simpa [z5.bd] using h2) i kv.2 (by simp [a2]))⟩
   |arr n=>
    have hro':Λ.fro (ρ j)=n:=hro;unfold WV;simp [L.view,h1,hro']
   |iter q s seen c=>
    have hq:q<m1:=by simpa [z5.bd] using h2
    obtain ⟨b,bm,e1,e2,e3,e4⟩:=hro;exact ⟨b,bm,Yi e1 hs',e2,Yi e3 (hn.at_ q (by omega)),hq⟩
   |gro ver cs=>
    obtain ⟨q0,q⟩:=hro;rw [V.y7] at q
    refine ⟨by simpa [L.view,h1] using q0,?_⟩
    rcases q with ⟨e1,e2⟩|⟨b,arr,e,e1,e2,e3,e4⟩
    ·refine .inl ⟨by simpa using e1,fun b i hb=>?_⟩
     obtain ⟨k,a1,a2⟩:=yN hb;have:=(hn.inv _ _ a2).1;subst this;exact e2 b i a1
    ·exact .inr ⟨b,arr,e,z2s hn e1 hs',e2,by simpa using e3,fun i v c a1 a2=>(e4 i v (c.ren ρ) a1 (by simp [a2])).view hn rfl (V.ZL (by simpa [z5.bd] using h2) i c a2)⟩
   |wo os=>
    obtain ⟨q0,q⟩:=hro;refine ⟨fun b i hb=>?_,fun i cs hi=>?_⟩
    ·obtain ⟨k,a1,a2⟩:=yN hb;have:=(hn.inv _ _ a2).1;subst this;simpa using q0 b i a1
    ·obtain ⟨b,arr,e,e1,e2,e3,e4⟩:=q i (V.w7 ρ cs) (by simp [hi]);rw [V.y7] at e3 e4
     have hbd:V.bds m1 cs=true:=by
      simp only [z5.bd,w0m] at h2;exact h2 cs (zMG hi)
     exact ⟨b,arr,e,z0f e1 hs',e2,by simpa using e3,fun i v c a1 a2=>(e4 i v (c.ren ρ) a1 (by simp [a2])).view hn rfl (V.ZL hbd i c a2)⟩
   |Ya ns=>intro i;have:=hro i;simpa [L.view,h1] using this
   |WM kag I=>
    obtain ⟨b,ents,clock,e1,e2,e3,e4,e5⟩:=hro;refine ⟨b,ents,clock,Yi e1 hs',e2,e3,e4,fun i e hi=>?_⟩;obtain ⟨cs,v,q1,q2,q3⟩:=e5 i e hi;exact ⟨cs,v,q1.yq fun _ _ h=>h.view,q2.view,q3⟩
  ·obtain ⟨k,a1,a2⟩:=WW h1;obtain ⟨k',b1,b2⟩:=WW h2;have:=(hn.inv _ _ a2).1;have:=(hn.inv _ _ b2).1
   subst_vars
   exact hr.inj b b' _ a1 b1
  ·exact z2X (hr.new b hb)
  ·rcases hb with hb|⟨fr,hb⟩
   ·obtain ⟨k,a1,a2⟩:=WW hb;exact hfresh a2 (.inl a1)
   ·obtain ⟨k,a1,a2⟩:=z5t hb;exact hfresh a2 (.inr ⟨_,a1⟩)
  ·have hj':m1<=j:=hj;simp [L.view];omega
  ·obtain ⟨k,a1,a2⟩:=yN h1;obtain ⟨k',b1,b2⟩:=yN h2;have:=(hn.inv _ _ a2).1;have:=(hn.inv _ _ b2).1
   subst_vars
   exact hr.wF b b' _ i a1 b1
  ·rcases hb with ⟨i,hb⟩|⟨i,fr,hb⟩
   ·obtain ⟨k,a1,a2⟩:=yN hb;exact hfreshF a2 (.inl ⟨_,a1⟩)
   ·obtain ⟨k,a1,a2⟩:=z54 hb;exact hfreshF a2 (.inr ⟨_,_,a1⟩)
  ·have hj':m1<=j:=hj;simp [L.view];omega
 refine (h.2 (Λ.view ρ σ m1) args hr1 Z (by rw [hsz,V.y7];simp) fun j v y h1 h2=>(hargs j v (y.ren ρ) h1 (by rw [V.y7];simp [h2])).view hn Z (V.ZL hb j y h2)).mono fun e w' he=>?_;obtain ⟨v,Λ',rfl,rfl,k1,k2,k3,k4⟩:=he;simp only at k2 k3
 have hlt:∀{b:Nat},Λ.hid σ b=true->b<Λ.w.heap.size:=by
  intro b hh
  rcases w1b b Λ.w.heap.size with h|h
  ·exact h
  ·unfold L.hid at hh;rw [hr.new b h] at hh;simp at hh
 have hH:∀{b:Nat},Λ.hid σ b=true->(Λ.zY ρ σ Λ').lab b=Λ.lab b:=fun h=>by simp [L.zY,h]
 have hL:∀{b:Nat},Λ.hid σ b=false->(Λ.zY ρ σ Λ').lab b=(Λ'.lab b).ren ρ:=fun h=>by simp [L.zY,h]
 have hheap:∀{b:Nat},Λ.hid σ b=true->∃fr,Λ'.lab b= .fix (some fr)/\Λ'.w.heap[b]?=Λ.w.heap[b]?/\((∃k,Λ.lab b= .obj k/\σ k=none/\fr=0)∨(∃k,Λ.lab b= .arr k fr/\σ k=none)∨(∃k i,Λ.lab b= .fob k i/\σ k=none/\fr=0)∨∃k i,Λ.lab b= .far k i fr/\σ k=none):=by
  intro b hh;obtain ⟨fr,e1,e2⟩:=zbQ (ρ:=ρ) (m1:=m1) hh;obtain ⟨g1,g2⟩:=k1.fr.fix b (hlt hh) _ e1;exact ⟨fr,g1,g2,e2⟩
 have hvis:∀{b k j:Nat},σ k=some j->(Λ.lab b= .obj k∨∃fr,Λ.lab b= .arr k fr)->Λ.hid σ b=false:=by
  intro b k j hk hb;unfold L.hid
  rcases hb with hb|⟨fr,hb⟩<;>rw [hb]<;>simp [hk]
 have hvisF:∀{b k j:Nat},σ k=some j->((∃i,Λ.lab b= .fob k i)∨∃i fr,Λ.lab b= .far k i fr)->Λ.hid σ b=false:=by
  intro b k j hk hb;unfold L.hid
  rcases hb with ⟨i,hb⟩|⟨i,fr,hb⟩<;>rw [hb]<;>simp [hk]
 have hfix:∀{b:Nat} {fr:Option Nat},Λ.lab b= .fix fr->Λ.hid σ b=false:=by
  intro b fr hb;unfold L.hid;rw [hb]
 have rdren:∀{b o:Nat} {l:Nat->Lab},l b=(Λ'.lab b).ren ρ->Rd Λ'.lab b o->Rd l b o:=by
  intro b o l e h;unfold Rd at*;rw [e]
  cases hl:Λ'.lab b<;>rw [hl] at h<;>simp only [Lab.ren]<;>exact h
 have hinvF:∀{b k j i:Nat},σ k=some j->(Λ.zY ρ σ Λ').lab b= .fob k i->Λ'.lab b= .fob j i:=by
  intro b k j i hk hb
  cases hh:Λ.hid σ b with
  |true=>rw [hH hh] at hb;have:=hvisF hk (.inl ⟨i,hb⟩);rw [hh] at this;cases this
  |false=>
   rw [hL hh] at hb
   cases hl:Λ'.lab b<;>rw [hl] at hb<;>simp [Lab.ren] at hb
   rename_i j' i';obtain ⟨e1,rfl⟩:=hb;have hb1:=k3.wh b j' (.inl ⟨_,hl⟩);have hb2:=hn.at_ j' (by omega);rw [e1,hk] at hb2;simp at hb2;subst hb2;rfl
 have hkp:Kp Λ (Λ.zY ρ σ Λ'):=by
  refine ⟨⟨k1.fr.os,k1.fr.tape,k1.fr.output,k1.fr.size,fun b hb fr hl=>?_,fun b hb k fr hl o ho=>?_,fun b hb k i fr hl o ho=>?_⟩,w07 _,fun b k _ hl=>?_,fun b k n _ hb hl hf=>?_,fun k hk=>?_,fun b k i _ hl=>?_,fun b k i n _ hb hl hf=>?_,fun k i hk=>?_,fun b k i hk hp hf hl=>?_⟩
  ·obtain ⟨g1,g2⟩:=k1.fr.fix b hb fr (z2X hl)
   exact ⟨by rw [hL (hfix hl),g1];rfl,g2⟩
  ·cases hk:σ k with
   |none=>
    have hh:Λ.hid σ b=true:=by unfold L.hid;rw [hl];simp [hk]
    obtain ⟨fr',g1,g2,g3⟩:=hheap hh
    exact ⟨by unfold Rd;rw [hH hh,hl];exact ho,cell?_heap g2⟩
   |some j=>
    have hh:=hvis hk (.inr ⟨_,hl⟩);obtain ⟨g1,g2⟩:=k1.fr.arr b hb j fr (z0S hl hk) o ho;exact ⟨rdren (hL hh) g1,g2⟩
  ·cases hk:σ k with
   |none=>
    have hh:Λ.hid σ b=true:=by unfold L.hid;rw [hl];simp [hk]
    obtain ⟨fr',g1,g2,g3⟩:=hheap hh
    exact ⟨by unfold Rd;rw [hH hh,hl];exact ho,cell?_heap g2⟩
   |some j=>
    have hh:=hvisF hk (.inr ⟨_,_,hl⟩);obtain ⟨g1,g2⟩:=k1.fr.far b hb j i fr (z0v hl hk) o ho;exact ⟨rdren (hL hh) g1,g2⟩
  ·cases hk:σ k with
   |none=>rw [hH (by unfold L.hid;rw [hl];simp [hk])];exact hl
   |some j=>
    rw [hL (hvis hk (.inl hl)),k1.obj b j (hfresh hk (.inl hl)) (Yi hl hk)];simp only [Lab.ren,(hn.inv k j hk).1]
  ·cases hk:σ k with
   |none=>
    have hh:Λ.hid σ b=true:=by unfold L.hid;rw [hl];simp [hk]
    obtain ⟨fr',g1,g2,g3⟩:=hheap hh
    exact ⟨by rw [hH hh];exact hl,g2⟩
   |some j=>
    have hj:=hfresh hk (.inr ⟨_,hl⟩)
    have e1:(Λ.view ρ σ m1).fro j=Λ.fro k:=by simp [L.view,hj,(hn.inv k j hk).1]
    have e2:(Λ.zY ρ σ Λ').fro k=Λ'.fro j:=by simp [L.zY,hk]
    obtain ⟨g1,g2⟩:=k1.own b j n hj hb (z0S hl hk) (by rw [←e2,hf,e1])
    exact ⟨by rw [hL (hvis hk (.inr ⟨_,hl⟩)),g1];simp only [Lab.ren,(hn.inv k j hk).1],g2⟩
  ·cases hk':σ k with
   |none=>simp [L.zY,hk']
   |some j=>
    obtain ⟨e1,e2⟩:=hn.inv k j hk';simp only [L.zY,hk'];by_cases hj:j<m1
    ·have:=k1.fro j hj;simpa [L.view,hj,e1] using this
    ·have e3:=hn.new j (by omega) e2;rw [(hfree k (by omega) (by omega)).2.1.fro];omega
  ·cases hk:σ k with
   |none=>
    have hh:Λ.hid σ b=true:=by unfold L.hid;rw [hl];simp [hk]
    obtain ⟨fr',g1,g2,g3⟩:=hheap hh
    exact ⟨by rw [hH hh];exact hl,fun N hN=>by unfold ZG at hN⊢;show (match Λ'.w.heap[b]? with|some (.cells arr _ _)=>some arr.size|_=>none)=_;rw [g2];exact hN⟩
   |some j=>
    obtain ⟨g1,g2⟩:=k1.fob b j i (hfreshF hk (.inl ⟨_,hl⟩)) (z0f hl hk)
    exact ⟨by rw [hL (hvisF hk (.inl ⟨_,hl⟩)),g1];simp only [Lab.ren,(hn.inv k j hk).1],g2⟩
  ·cases hk:σ k with
   |none=>
    have hh:Λ.hid σ b=true:=by unfold L.hid;rw [hl];simp [hk]
    obtain ⟨fr',g1,g2,g3⟩:=hheap hh
    exact ⟨by rw [hH hh];exact hl,g2⟩
   |some j=>
    have hj:=hfreshF hk (.inr ⟨_,_,hl⟩)
    have e1:(Λ.view ρ σ m1).frf j i=Λ.frf k i:=by simp [L.view,hj,(hn.inv k j hk).1]
    have e2:(Λ.zY ρ σ Λ').frf k i=Λ'.frf j i:=by simp [L.zY,hk]
    obtain ⟨g1,g2⟩:=k1.far b j i n hj hb (z0v hl hk) (by rw [←e2,hf,e1])
    exact ⟨by rw [hL (hvisF hk (.inr ⟨_,_,hl⟩)),g1];simp only [Lab.ren,(hn.inv k j hk).1],g2⟩
  ·cases hk':σ k with
   |none=>simp [L.zY,hk']
   |some j=>
    obtain ⟨e1,e2⟩:=hn.inv k j hk';simp only [L.zY,hk'];by_cases hj:j<m1
    ·have:=k1.frf j i hj;simpa [L.view,hj,e1] using this
    ·have e3:=hn.new j (by omega) e2;rw [(hfree k (by omega) (by omega)).2.1.frf];omega
  ·cases hk':σ k with
   |none=>
    cases hh:Λ.hid σ b with
    |true=>rw [hH hh] at hl;exact hl
    |false=>
     rw [hL hh] at hl
     cases hl':Λ'.lab b<;>rw [hl'] at hl<;>simp [Lab.ren] at hl
     rename_i j' i';have hb1:=k3.wh b j' (.inl ⟨_,hl'⟩);have hb2:=hn.at_ j' (by omega);rw [hl.1,hk'] at hb2;cases hb2
   |some j=>
    have hb1:=hinvF hk' hl;obtain ⟨e1,e2⟩:=hn.inv k j hk';by_cases hj:j<m1
    ·have e3:(Λ.view ρ σ m1).frf j 0=Λ.frf k 0:=by simp [L.view,hj,e1]
     have e4:(Λ.zY ρ σ Λ').frf k 0=Λ'.frf j 0:=by simp [L.zY,hk']
     obtain ⟨k',a1,a2⟩:=yN (k1.z4W b j i hj (by rw [e3];exact hp) (by rw [←e4,hf,e3]) hb1);have:=(hn.inv _ _ a2).1;rw [←this,e1] at a1;exact a1
    ·have e3:=hn.new j (by omega) e2;have:=(hfree k (by omega) (by omega)).2.1.frf 0;omega
 have hobj:∀{b j:Nat},Λ'.lab b= .obj j->(Λ.zY ρ σ Λ').lab b= .obj (ρ j):=by
  intro b k hb
  cases hh:Λ.hid σ b with
  |true=>obtain ⟨fr,g1,_⟩:=hheap hh;rw [g1] at hb;simp at hb
  |false=>rw [hL hh,hb];rfl
 have harr:∀{b j n:Nat},Λ'.lab b= .arr j n->(Λ.zY ρ σ Λ').lab b= .arr (ρ j) n:=by
  intro b k n hb
  cases hh:Λ.hid σ b with
  |true=>obtain ⟨fr,g1,_⟩:=hheap hh;rw [g1] at hb;simp at hb
  |false=>rw [hL hh,hb];rfl
 have hfob:∀{b j i:Nat},Λ'.lab b= .fob j i->(Λ.zY ρ σ Λ').lab b= .fob (ρ j) i:=by
  intro b k i hb
  cases hh:Λ.hid σ b with
  |true=>obtain ⟨fr,g1,_⟩:=hheap hh;rw [g1] at hb;simp at hb
  |false=>rw [hL hh,hb];rfl
 have hfar:∀{b j i n:Nat},Λ'.lab b= .far j i n->(Λ.zY ρ σ Λ').lab b= .far (ρ j) i n:=by
  intro b k i n hb
  cases hh:Λ.hid σ b with
  |true=>obtain ⟨fr,g1,_⟩:=hheap hh;rw [g1] at hb;simp at hb
  |false=>rw [hL hh,hb];rfl
 have hcur:∀{b j:Nat},j<m1+out.n->qz Λ'.lab j b->qz (Λ.zY ρ σ Λ').lab (ρ j) b:=by
  rintro b j hj ⟨i,e1,e2⟩;exact ⟨i,hfob e1,fun b' i' h'=>e2 b' i' (hinvF (hn.at_ j hj) h')⟩
 have hrep:∀{u:Value} {y:T},zR Λ'.lab Λ'.w u y->zR (Λ.zY ρ σ Λ').lab (Λ.zY ρ σ Λ').w u y:=by
  intro u y hy;refine hy.yq fun b o _ _ hrd=>⟨?_,rfl⟩
  cases hh:Λ.hid σ b with
  |true=>
   obtain ⟨fr,g1,_,g3⟩:=hheap hh;unfold Rd at hrd⊢;rw [g1] at hrd;rw [hH hh]
   rcases g3 with ⟨k,e,_,rfl⟩|⟨k,e,_⟩|⟨k,i,e,_,rfl⟩|⟨k,i,e,_⟩
   ·simp at hrd
   ·rw [e];exact hrd
   ·simp at hrd
   ·rw [e];exact hrd
  |false=>exact rdren (hL hh) hrd
 have hfro:∀{j:Nat},j<m1+out.n->(Λ.zY ρ σ Λ').fro (ρ j)=Λ'.fro j:=by
  intro j hj;simp [L.zY,hn.at_ j hj]
 have hfrf:∀{j i:Nat},j<m1+out.n->(Λ.zY ρ σ Λ').frf (ρ j) i=Λ'.frf j i:=by
  intro j i hj;simp [L.zY,hn.at_ j hj]
 have hρ:∀{j:Nat},j<m1+out.n->ρ j<Λ.nxt:=by
  intro j hj;by_cases h1:j<m1
  ·have:=hn.low j h1;omega
  ·have:=hn.new j (by omega) hj;omega
 have hval:∀{u:Value} {y:V},zy Λ' u y->zy (Λ.zY ρ σ Λ') u (y.ren ρ):=by
  intro u y hy
  induction hy with
  |t h=>exact .t (hrep h)
  |zJ=>exact .zJ
  |@own v k sz xs h hsz hl hn' ho=>
   rw [k2] at hl;refine .own (hrep h) hsz (hρ hl) (by rw [hfro hl];exact hn') fun he=>?_
   rcases ho (by rw [←hfro hl];exact he) with ho|⟨b,cap,arr,e,hv,hb',hh,hc,hn'⟩
   ·exact .inl ho
   ·exact .inr ⟨b,cap,arr,e,hv,harr hb',hh,hc,hn'⟩
  |slc hl hc h=>exact .slc (hρ (by omega)) hc (hobj h)
  |agg hs _ ih=>
   refine .agg (by rw [V.y7];simpa using hs) fun j v c h1 h2=>?_;rw [V.y7,w0f,w05] at h2;obtain ⟨c',h3,rfl⟩:=h2;exact ih j v c' h1 h3
  |tup hs _ ih=>
   refine .tup (by rw [V.y7];simpa using hs) fun j v c h1 h2=>?_;rw [V.y7,w0f,w05] at h2;obtain ⟨c',h3,rfl⟩:=h2;exact ih j v c' h1 h3
  |ptr hl h=>exact .ptr (hρ (by omega)) (hobj h)
  |mp hl h=>exact .mp (hρ (by omega)) (hobj h)
  |fn hs h=>
   refine .fn (by simpa using hs) fun j v c h1 h2=>?_;rw [w0f,w05] at h2;obtain ⟨c',h3,rfl⟩:=h2;obtain ⟨b,e1,e2,e3⟩:=h j v c' h1 h3;exact ⟨b,e1,hobj e2,hρ (by omega)⟩
  |gd _ h' ih=>exact .gd ih h'
  |top=>exact .top
  |ub h h'=>exact .ub h h'
  |fpt hl h=>exact .fpt (hρ (by omega)) (hfob h)
  |gpt hv hl hm h=>
   rw [k2] at hl;refine .gpt hv (hρ hl) (by rw [hfrf hl];exact hm) fun he=>?_;obtain ⟨b,e1,e2⟩:=h (by rw [←hfrf hl];exact he);exact ⟨b,e1,hcur hl e2⟩
  |gsl hv hl hm h=>
   rw [k2] at hl;refine .gsl hv (hρ hl) (by rw [hfrf hl];exact hm) fun he=>?_
   rcases h (by rw [←hfrf hl];exact he) with h|⟨b,cap,N,hv,hc,e2,hN,he'⟩
   ·exact .inl h
   ·exact .inr ⟨b,cap,N,hv,hc,hcur hl e2,hN,he'⟩
  |fow h hsz hl hm ho=>
   rw [k2] at hl;refine .fow (hrep h) hsz (hρ hl) (by rw [hfrf hl];exact hm) fun he=>?_
   rcases ho (by rw [←hfrf hl];exact he) with ho|⟨b,cap,arr,e,hv,hb',hh,hc,hn'⟩
   ·exact .inl ho
   ·exact .inr ⟨b,cap,arr,e,hv,hfar hb',hh,hc,hn'⟩
 have hname:∀{b k:Nat},Λ.hid σ b=true->((Λ.zY ρ σ Λ').lab b= .obj k∨∃n,(Λ.zY ρ σ Λ').lab b= .arr k n)->σ k=none/\(Λ.lab b= .obj k∨∃n,Λ.lab b= .arr k n):=by
  intro b k hh hb;rw [hH hh] at hb;refine ⟨?_,hb⟩
  unfold L.hid at hh;rcases hb with hb|⟨n,hb⟩<;>rw [hb] at hh<;>simpa using hh
 have hseen:∀{b k:Nat},Λ.hid σ b=false->((Λ.zY ρ σ Λ').lab b= .obj k∨∃n,(Λ.zY ρ σ Λ').lab b= .arr k n)->∃j,ρ j=k/\j<m1+out.n/\(Λ'.lab b= .obj j∨∃n,Λ'.lab b= .arr j n):=by
  intro b k hh hb;rw [hL hh] at hb
  cases hl:Λ'.lab b with
  |fix fr=>rw [hl] at hb;simp [Lab.ren] at hb
  |obj j=>rw [hl] at hb;simp [Lab.ren] at hb;have:=k3.bnd b j (.inl hl);exact ⟨j,hb,by omega,.inl rfl⟩
  |arr j n=>rw [hl] at hb;simp [Lab.ren] at hb;have:=k3.bnd b j (.inr ⟨n,hl⟩);exact ⟨j,hb,by omega,.inr ⟨n,rfl⟩⟩
  |fob j i=>rw [hl] at hb;simp [Lab.ren] at hb
  |far j i n=>rw [hl] at hb;simp [Lab.ren] at hb
 have hseenF:∀{b k:Nat},Λ.hid σ b=false->((∃i,(Λ.zY ρ σ Λ').lab b= .fob k i)∨∃i n,(Λ.zY ρ σ Λ').lab b= .far k i n)->∃j,ρ j=k/\j<m1+out.n:=by
  intro b k hh hb;rw [hL hh] at hb
  cases hl:Λ'.lab b with
  |fix fr=>rw [hl] at hb;simp [Lab.ren] at hb
  |obj j=>rw [hl] at hb;simp [Lab.ren] at hb
  |arr j n=>rw [hl] at hb;simp [Lab.ren] at hb
  |fob j i=>rw [hl] at hb;simp [Lab.ren] at hb;have:=k3.wh b j (.inl ⟨i,hl⟩);exact ⟨j,hb,by omega⟩
  |far j i n=>rw [hl] at hb;simp [Lab.ren] at hb;have:=k3.wh b j (.inr ⟨i,n,hl⟩);exact ⟨j,hb,by omega⟩
 obtain ⟨ag1,ag2⟩:=qR hn out.ob sto s1 (fun j hj=>by
  by_cases h1:j<m1
  ·exact hsub j h1
  ·have e3:=hn.new j (by omega) hj;rw [(hfree (ρ j) (by omega) (by omega)).2.2]
   cases ha:zl s1 j with
   |none=>rfl
   |some o=>have:=(qX hs j o ha).1;omega) (fun j o hj=>(hob j o hj).1)
 refine ⟨v,Λ.zY ρ σ Λ',rfl,rfl,hkp,rfl,?_,hval k4,fun k hk _ hcase=>?_⟩
 ·refine ⟨fun k o ho=>?_,fun b b' k h1 h2=>?_,fun b hb=>?_,fun b k hb=>?_,fun k hk=>?_,fun b b' k i h1 h2=>?_,fun b k hb=>?_,fun k i hk=>?_⟩
  ·cases hk:σ k with
   |none=>
    have ho':zl sto k=some o:=by rw [←ag2 k hk];exact ho
    obtain ⟨g1,g2⟩:=hr.sto k o ho'
    refine ⟨g1,g2.mono hkp g1 (fun b hb=>?_) (by simp [L.zY,hk]) (fun b i hb=>?_) (fun b i hb=>?_) (fun i=>by simp [L.zY,hk])⟩
    ·obtain ⟨fr,q1,q2,_⟩:=hheap (b:=b) (by unfold L.hid;rw [hb];simp [hk]);exact q2
    ·obtain ⟨fr,q1,q2,_⟩:=hheap (b:=b) (by unfold L.hid;rw [hb];simp [hk]);exact q2
    ·cases hh:Λ.hid σ b with
     |true=>rw [hH hh] at hb;exact hb
     |false=>obtain ⟨j,e1,e2⟩:=hseenF hh (.inl ⟨i,hb⟩);rw [←e1,hn.at_ j e2] at hk;cases hk
   |some j=>
    obtain ⟨e1,e2⟩:=hn.inv k j hk;subst e1;have ho':zl (Zr sto (out.ob.map fun e=>(ρ e.1,e.2.ren ρ))) (ρ j)=some o:=ho;rw [ag1 j e2,w05] at ho';obtain ⟨o1,a1,rfl⟩:=ho';obtain ⟨g1,g2⟩:=k3.sto j o1 a1;refine ⟨hρ e2,?_⟩
    cases o1 with
    |cells cs=>
     obtain ⟨b,arr,e,e1,e2,e3,e4⟩:=g2
     refine ⟨b,arr,e,hobj e1,e2,by rw [V.y7];simpa using e3,fun i v c a1 a2=>?_⟩
     rw [V.y7,w0f,w05] at a2;obtain ⟨c',a3,rfl⟩:=a2;exact hval (e4 i v c' a1 a3)
    |map kag es sx=>
     obtain ⟨b,ents,clock,e1,e2,e3⟩:=g2
     refine ⟨b,ents,clock,hobj e1,e2,⟨by simpa using e3.size,fun i e kv a1 a2=>?_,e3.born,e3.apart,e3.known⟩⟩
     rw [w0f,w05] at a2;obtain ⟨kv',a3,rfl⟩:=a2;obtain ⟨q1,q2⟩:=e3.at_ i e kv' a1 a3;exact ⟨q1.yq fun _ _ h=>hrep h,hval q2⟩
    |arr n'=>
     unfold WV at*;simp only [z5.ren];rw [hfro e2];exact g2
    |iter q s seen c=>
     obtain ⟨b,bm,a1,a2,a3,a4⟩:=g2;exact ⟨b,bm,hobj a1,a2,hobj a3,hρ (by omega)⟩
    |gro ver cs=>
     obtain ⟨q0,q⟩:=g2
     refine ⟨by rw [hfrf e2];exact q0,?_⟩
     rw [V.y7]
     rcases q with ⟨e3,e4⟩|⟨b,arr,e,e3,e4,e5,e6⟩
     ·exact .inl ⟨by simp [e3],fun b i hb=>e4 b i (hinvF (hn.at_ j e2) hb)⟩
     ·refine .inr ⟨b,arr,e,hcur e2 e3,e4,by simpa using e5,fun i v c a1 a2=>?_⟩
      rw [w0f,w05] at a2;obtain ⟨c',a3,rfl⟩:=a2;exact hval (e6 i v c' a1 a3)
    |wo os=>
     obtain ⟨q0,q⟩:=g2
     refine ⟨fun b i hb=>by simpa using q0 b i (hinvF (hn.at_ j e2) hb),fun i cs hi=>?_⟩
     rw [w0f,w05] at hi;obtain ⟨cs',hi,rfl⟩:=hi;obtain ⟨b,arr,e,e3,e4,e5,e6⟩:=q i cs' hi
     refine ⟨b,arr,e,hfob e3,e4,by rw [V.y7];simpa using e5,fun i v c a1 a2=>?_⟩
     rw [V.y7,w0f,w05] at a2;obtain ⟨c',a3,rfl⟩:=a2;exact hval (e6 i v c' a1 a3)
    |Ya ns=>exact fun i=>(hfrf e2).trans (g2 i)
    |WM kag I=>
     obtain ⟨b,ents,clock,e3,e4,e5,e6,e7⟩:=g2;refine ⟨b,ents,clock,hobj e3,e4,e5,e6,fun i e hi=>?_⟩;obtain ⟨cs,v,q1,q2,q3⟩:=e7 i e hi;exact ⟨cs,v,q1.yq fun _ _ h=>hrep h,hrep q2,q3⟩
  ·cases hh:Λ.hid σ b with
   |true=>
    obtain ⟨q1,q2⟩:=hname hh (.inl h1)
    cases hh':Λ.hid σ b' with
    |true=>
     rw [hH hh] at h1;rw [hH hh'] at h2;exact hr.inj b b' k h1 h2
    |false=>
     obtain ⟨j,e1,e2,_⟩:=hseen hh' (.inl h2);rw [←e1,hn.at_ j e2] at q1;cases q1
   |false=>
    obtain ⟨j,e1,e2,_⟩:=hseen hh (.inl h1)
    cases hh':Λ.hid σ b' with
    |true=>
     obtain ⟨q1,_⟩:=hname hh' (.inl h2);rw [←e1,hn.at_ j e2] at q1;cases q1
    |false=>
     rw [hL hh] at h1;rw [hL hh'] at h2
     cases hl:Λ'.lab b<;>rw [hl] at h1<;>simp [Lab.ren] at h1
     cases hl':Λ'.lab b'<;>rw [hl'] at h2<;>simp [Lab.ren] at h2
     rename_i j1 j2;have b1:=k3.bnd b j1 (.inl hl);have b2:=k3.bnd b' j2 (.inl hl');have c1:=hn.at_ j1 (by omega);have c2:=hn.at_ j2 (by omega);rw [h1] at c1;rw [h2,c1] at c2;simp at c2;subst c2;exact k3.inj b b' j1 hl hl'
  ·have hge:Λ.w.heap.size<=b:=w0u k1.fr.size hb;rw [hL (hfix (hr.new b hge)),k3.new b hb];rfl
  ·show k<Λ.nxt
   cases hh:Λ.hid σ b with
   |true=>exact hr.bnd b k (hname hh hb).2
   |false=>obtain ⟨j,rfl,e2,_⟩:=hseen hh hb;exact hρ e2
  ·have hk':Λ.nxt<=k:=hk
   cases hs:σ k with
   |none=>simp only [L.zY,hs];exact hr.frz k hk'
   |some j=>obtain ⟨rfl,e2⟩:=hn.inv k j hs;have:=hρ e2;omega
  ·cases hk:σ k with
   |some j=>exact k3.wF b b' j i (hinvF hk h1) (hinvF hk h2)
   |none=>
    have hd:∀{b:Nat},(Λ.zY ρ σ Λ').lab b= .fob k i->Λ.lab b= .fob k i:=by
     intro b hb
     cases hh:Λ.hid σ b with
     |true=>rw [hH hh] at hb;exact hb
     |false=>obtain ⟨j,e1,e2⟩:=hseenF hh (.inl ⟨i,hb⟩);rw [←e1,hn.at_ j e2] at hk;cases hk
    exact hr.wF b b' k i (hd h1) (hd h2)
  ·show k<Λ.nxt
   cases hh:Λ.hid σ b with
   |true=>rw [hH hh] at hb;exact hr.wh b k hb
   |false=>obtain ⟨j,rfl,e2⟩:=hseenF hh hb;exact hρ e2
  ·have hk':Λ.nxt<=k:=hk
   cases hs:σ k with
   |none=>simp only [L.zY,hs];exact hr.z22 k i hk'
   |some j=>obtain ⟨rfl,e2⟩:=hn.inv k j hs;have:=hρ e2;omega
 ·have hge:m+out.n<=k:=by
   rcases hcase with h|⟨_,h⟩
   ·exact h
   ·cases h
  have hs0:σ k=none:=by
   cases hs:σ k with
   |none=>rfl
   |some j=>
    obtain ⟨rfl,e2⟩:=hn.inv k j hs;by_cases h1:j<m1
    ·have:=hn.low j h1;omega
    ·have:=hn.new j (by omega) e2;omega
  refine ⟨fun b hb=>?_,fun b n hb=>?_,by simp only [L.zY,hs0];exact hk.fro,fun b i hb=>?_,fun b i n hb=>?_,fun i=>by simp only [L.zY,hs0];exact hk.frf i⟩
  ·cases hh:Λ.hid σ b with
   |true=>rw [hH hh] at hb;exact hk.obj b hb
   |false=>obtain ⟨j,e1,e2,_⟩:=hseen hh (.inl hb);rw [←e1,hn.at_ j e2] at hs0;cases hs0
  ·cases hh:Λ.hid σ b with
   |true=>rw [hH hh] at hb;exact hk.arr b n hb
   |false=>obtain ⟨j,e1,e2,_⟩:=hseen hh (.inr ⟨n,hb⟩);rw [←e1,hn.at_ j e2] at hs0;cases hs0
  ·cases hh:Λ.hid σ b with
   |true=>rw [hH hh] at hb;exact hk.fob b i hb
   |false=>obtain ⟨j,e1,e2⟩:=hseenF hh (.inl ⟨i,hb⟩);rw [←e1,hn.at_ j e2] at hs0;cases hs0
  ·cases hh:Λ.hid σ b with
   |true=>rw [hH hh] at hb;exact hk.far b i n hb
   |false=>obtain ⟨j,e1,e2⟩:=hseenF hh (.inr ⟨i,n,hb⟩);rw [←e1,hn.at_ j e2] at hs0;cases hs0
mutual
theorem V.z1f:∀v:V,v.ren id=v
 | .t x=>rfl
 | .zJ=>rfl
 | .top=>rfl
 | .own k sz xs=>rfl
 | .slc k o l s=>rfl
 | .ptr k o=>rfl
 | .mp k=>rfl
 | .fn f cs=>by simp [V.ren]
 | .agg cs=>by simp [V.ren,V.WZ cs]
 | .tup cs=>by simp [V.ren,V.WZ cs]
 | .gd c x=>by simp [V.ren,V.z1f x]
 | .ub c d=>rfl
 | .fpt k i o=>rfl
 | .gpt k v o=>rfl
 | .gsl k v o l s=>rfl
 | .fow k i s xs=>rfl
theorem V.WZ:∀cs:List V,V.w7 id cs=cs
 |[]=>rfl
 |x::r=>by simp [V.w7,V.z1f x,V.WZ r]
end
theorem z5.z1f:∀o:z5,o.ren id=o
 | .cells cs=>by simp [z5.ren,V.WZ]
 | .map kag es st=>by
  simp only [z5.ren,z5.map.injEq,true_and,and_true]
  exact (List.map_congr_left fun e _=>by rw [V.z1f];rfl).trans (List.map_id _)
 | .arr n=>rfl
 | .iter q s seen c=>rfl
 | .gro v cs=>by simp [z5.ren,V.WZ]
 | .wo os=>by simp [z5.ren,show V.w7 id=id from funext V.WZ]
 | .Ya ns=>rfl
 | .WM a I=>rfl
theorem z6.wide {f:FuncId} {vs:List V} {x:V} {m:Nat} {sto:List (Nat×z5)} (h:z6 P f vs ⟨sto,m⟩ {v:=x,rd:=true}) (hb:V.bds m vs=true) (hs:zP m sto=true):FnL P f vs m sto {v:=x,rd:=true}:=by
 intro s hk
 have hrn:Rn id (fun k=>if k<m then some k else none) m m 0:=by
  refine ⟨fun k j h=>?_,fun j hj=>?_,fun j hj=>hj,fun j h1 h2=>?_⟩
  ·by_cases hkm:k<m
   ·simp only [w0c hkm,w00] at h;subst h;exact ⟨rfl,by omega⟩
   ·simp only [w0d hkm] at h;cases h
  ·exact w0c (by simpa using hj)
  ·omega
 have:=z6.ren (sto:=s) (P:=P) (out:={v:=x,rd:=true}) hrn h hb hs (fun j hj=>by
  rw [id,hk j hj]
  cases zl sto j with
  |none=>rfl
  |some o=>simp [z5.z1f]) (fun k o hk=>by simp at hk)
 rw [V.WZ,V.z1f] at this;exact this
theorem zbD {f:FuncId} {vs:List V} {x:V} {base:Nat} {sto:List (Nat×z5)} {K:Out->Prop} (h:z6 P f vs ⟨sto,base⟩ {v:=x,rd:=true}) (hb:V.bds base vs=true) (hs:zP base sto=true) (hk:K {v:=x,rd:=true}):QQ P f vs base sto K:=
 ⟨_,by simp only [w0v];exact h.wide hb hs,hk⟩
end
end Go.GB
namespace Go.GB
def YG {ρ:Type} (n:Nat) (K:Nat->ρ):ρ:=
 match n with
 |0=>K 0|1=>K 1|2=>K 2|3=>K 3|4=>K 4|5=>K 5|6=>K 6|7=>K 7|8=>K 8|9=>K 9|10=>K 10|11=>K 11|12=>K 12|13=>K 13|14=>K 14|15=>K 15
 |16=>K 16|17=>K 17|18=>K 18|19=>K 19|20=>K 20|21=>K 21|22=>K 22|23=>K 23|24=>K 24|25=>K 25|26=>K 26|27=>K 27|28=>K 28|29=>K 29|30=>K 30|n=>K n
theorem w6 {ρ:Type} (n:Nat) (K:Nat->ρ):YG n K=K n:=by
 unfold YG;split<;>rfl
inductive It where
 |c (a:zV)
 |blk (id:Nat)
 |lp (a:zV)
section
variable {P:Program} {n m:Nat} {R:St->Prop}
def ZY (P:Program) (n m:Nat) (R:St->Prop):List It->YJ->St->Prop
 |[],.exit _,_=>False
 |[],_,st=>R st
 | .c a::k,.normal,st=>Sat P n m a st (ZY P n m R k)
 | .c _::k,e,st=>ZY P n m R k e st
 | .blk id::k,.exit id',st=>if id'=id then ZY P n m R k .normal st else ZY P n m R k (.exit id') st
 | .blk _::k,e,st=>ZY P n m R k e st
 | .lp a::k,.normal,st=>z3J P n m a st (ZY P n m R k)
 | .lp _::k,e,st=>ZY P n m R k e st
def Run (P:Program) (n m:Nat) (R:St->Prop) (k:List It) (st:St):Prop:=ZY P n m R k .normal st
theorem Qe:∀(k:List It) (st:St),ZY P n m R k .ret st=R st
 |[],st=>rfl
 | .c a::k,st=>by simp only [ZY];exact Qe k st
 | .blk a::k,st=>by simp only [ZY];exact Qe k st
 | .lp a::k,st=>by simp only [ZY];exact Qe k st
def z0q (id:Nat):List It->Option (List It)
 |[]=>none
 | .blk i::k=>bif Nat.beq id i then some k else z0q id k
 | .c _::k=>z0q id k
 | .lp _::k=>z0q id k
theorem z0m {id:Nat} {st:St}:∀{k k':List It},z0q id k=some k'->Run P n m R k' st->ZY P n m R k (.exit id) st
 | .c _::k,k',h,hr=>by simp only [ZY];exact z0m (by simpa [z0q] using h) hr
 | .lp _::k,k',h,hr=>by simp only [ZY];exact z0m (by simpa [z0q] using h) hr
 | .blk i::k,k',h,hr=>by
  simp only [z0q] at h;simp only [ZY];by_cases e:id=i
  ·subst e;simp at h;subst h;simp only [w0v];exact hr
  ·have hb:Nat.beq id i=false:=by
    cases hb:Nat.beq id i with
    |false=>rfl
    |true=>exact absurd (w0s hb) e
   rw [hb] at h;simp only [e,w0r];exact z0m h hr
def yf:Nat->List It->List It
 |0,k=>k
 |f+1,.c (.seq a b)::k=>yf f (.c a:: .c b::k)
 |f+1,.c (.block id a)::k=>yf f (.c a:: .blk id::k)
 |f+1,.c .skip::k=>yf f k
 |f+1,.c (.scope a)::k=>yf f (.c a::k)
 |f+1,.c .lbl::k=>yf f k
 |f+1,.blk _::k=>yf f k
 |_+1,.c .ret::_=>[]
 |f+1,.c (.exit id)::k=>match z0q id k with|some k'=>yf f k'|none=> .c (.exit id)::k
 |_+1,k=>k
theorem Run.adv:∀(f:Nat) {k k':List It} {st:St},yf f k=k'->Run P n m R k' st->Run P n m R k st
 |0,k,k',st,h,hr=>by simp only [Go.GB.yf] at h;subst h;exact hr
 |f+1,[],k',st,h,hr=>by simp only [Go.GB.yf] at h;subst h;exact hr
 |f+1,.lp a::k,k',st,h,hr=>by simp only [Go.GB.yf] at h;subst h;exact hr
 |f+1,.blk id::k,k',st,h,hr=>by
  simp only [Go.GB.yf] at h;have:=Run.adv f h hr;simpa only [Run,ZY] using this
 |f+1,.c a::k,k',st,h,hr=>by
  cases a with
  |seq a b=>
   simp only [Go.GB.yf] at h;have:=Run.adv f h hr;simp only [Run,ZY] at this⊢;refine Sat.seq (this.mono fun e st' he=>?_)
   cases e with
   |normal=>simpa only [ZY,z1C] using he
   |exit id=>simpa only [ZY,z1C] using he
   |ret=>simpa only [ZY,z1C] using he
  |block id a=>
   simp only [Go.GB.yf] at h;have:=Run.adv f h hr;simp only [Run,ZY] at this⊢;refine Sat.block (this.mono fun e st' he=>?_)
   cases e with
   |normal=>simpa only [ZY,z6H] using he
   |exit id=>simpa only [ZY,z6H] using he
   |ret=>simpa only [ZY,z6H] using he
  |skip=>
   simp only [Go.GB.yf] at h;have:=Run.adv f h hr;exact Sat.skip this
  |lbl=>
   simp only [Go.GB.yf] at h;have:=Run.adv f h hr;exact Sat.lbl this
  |scope a=>
   simp only [Go.GB.yf] at h;have:=Run.adv f h hr;exact Sat.scope this
  |ret=>
   simp only [Go.GB.yf] at h;subst h;refine Sat.ret ?_;rw [Qe];exact hr
  |exit id=>
   simp only [Go.GB.yf] at h
   cases hp:z0q id k with
   |none=>rw [hp] at h;subst h;exact hr
   |some k2=>
    rw [hp] at h;exact Sat.exit (z0m hp (Run.adv f h hr))
  |region d o a l=>simp only [Go.GB.yf] at h;subst h;exact hr
  |cond z a b=>simp only [Go.GB.yf] at h;subst h;exact hr
  |loop c=>simp only [Go.GB.yf] at h;subst h;exact hr
def Mid (P:Program) (n m:Nat) (R:St->Prop) (draw:Bool) (all:List AO) (after:List (List Nat)) (live:List Nat) (k:List It) (b:Nat) (fl:List (Bool×Bool)) (ops:List AO) (st:St):Prop:=
 evR P b st ops fl.reverse fun b st' fl=>z4g draw all after fl st'.env/\Run P n m R k (z1F live b st')
theorem Run.region {b:Nat} {k k':List It} {draw:Bool} {ops:List AO} {after:List (List Nat)} {live:List Nat} {st:St} (hk:yf 200 k= .c (.region draw ops after live)::k') (hb:YG st.s.nxt some=some b) (h:Mid P n m R draw ops after live k' b [] ops st):Run P n m R k st:=
 Run.adv 200 hk (Sat.region (by rw [w6] at hb;simp at hb;subst hb;exact h))
theorem Run.cond {k k':List It} {z:Ar} {a b:zV} {st:St} {t:Bool} (hk:yf 200 k= .c (.cond z a b)::k') (hz:z.v st= .t (.bool t)) (h1:t=true->Run P n m R (.c a::k') st) (h2:t=false->Run P n m R (.c b::k') st):Run P n m R k st:=
 Run.adv 200 hk (Sat.ite hz h1 h2)
theorem Run.zj {k k':List It} {z:Ar} {a b:zV} {st:St} {t:Bool} (hk:yf 200 k= .c (.cond z a b)::k') (hz:z.v st= .t (.bool t)) (ht:t=true) (h1:Run P n m R (.c a::k') st):Run P n m R k st:=
 Run.adv 200 hk (Sat.ite hz (fun _=>h1) (fun h=>by rw [ht] at h;cases h))
theorem Run.zf {k k':List It} {z:Ar} {a b:zV} {st:St} {t:Bool} (hk:yf 200 k= .c (.cond z a b)::k') (hz:z.v st= .t (.bool t)) (ht:t=false) (h1:Run P n m R (.c b::k') st):Run P n m R k st:=
 Run.adv 200 hk (Sat.ite hz (fun h=>by rw [ht] at h;cases h) (fun _=>h1))
theorem Run.fin {k:List It} {st:St} (hk:yf 200 k=[]) (h:R st):Run P n m R k st:=Run.adv 200 hk h
theorem Run.loop {k k':List It} {c:zV} {st:St} (hk:yf 200 k= .c (.loop c)::k') (h:Run P n m R (.lp c::k') st):Run P n m R k st:=
 Run.adv 200 hk (Sat.loop h)
theorem Run.wQ {k:List It} {c:zV} {st:St} (h:Run P n m R (.c c:: .lp c::k) st):Run P n m R (.lp c::k) st:=by
 simp only [Run,ZY] at h⊢;refine z3J.wQ (Sat.mono h fun e st' he=>?_)
 cases e with
 |normal=>simpa only [ZY,z1C] using he
 |exit id=>simpa only [ZY,z1C] using he
 |ret=>simpa only [ZY,z1C] using he
theorem Run.QA {k k':List It} {c:zV} {st st':St} (j:Nat) (hk:yf 200 k= .lp c::k') (h:Run P n m R (.lp c::k') st') (h1:Nat.ble m j=true) (h2:Nat.ble j st.s.nxt=true) (h3:Nat.ble j st'.s.nxt=true) (he:LeE j st'.s.nxt st.env st'.env) (hs:LeS j st'.s.nxt st.s.sto st'.s.sto):Run P n m R k st:=
 Run.adv 200 hk (z3J.QA j h (w0x h1) (w0x h2) (w0x h3) he hs)
theorem Run.zgV {k k':List It} {c:zV} {st st':St} (j:Nat) (hk:yf 200 k= .c c::k') (h:Run P n m R (.c c::k') st') (h1:Nat.ble m j=true) (h2:Nat.ble j st.s.nxt=true) (h3:Nat.ble j st'.s.nxt=true) (he:LeE j st'.s.nxt st.env st'.env) (hs:LeS j st'.s.nxt st.s.sto st'.s.sto):Run P n m R k st:=
 Run.adv 200 hk (Sat.QA j h (w0x h1) (w0x h2) (w0x h3) he hs)
def V.zcS {ρ:Type} (v:V) (K:V->ρ):ρ:=
 match v with
 | .agg cs=>K (.agg cs)
 | .tup cs=>K (.tup cs)
 | .t x=>K (.t x)
 | .zJ=>K .zJ
 | .own k sz xs=>K (.own k sz xs)
 | .slc k o l s=>K (.slc k o l s)
 | .ptr k o=>K (.ptr k o)
 | .mp k=>K (.mp k)
 | .fn f cs=>K (.fn f cs)
 | .gd c x=>K (.gd c x)
 | .ub c x=>K (.ub c x)
 | .top=>K .top
 | .fpt k i o=>K (.fpt k i o)
 | .gpt k w o=>K (.gpt k w o)
 | .gsl k w o l s=>K (.gsl k w o l s)
 | .fow k i sz xs=>K (.fow k i sz xs)
theorem V.z7f {ρ:Type} (v:V) (K:V->ρ):v.zcS K=K v:=by
 cases v<;>rfl
def q8 {ρ:Type}:List V->(List V->ρ)->ρ
 |[],K=>K []
 |x::r,K=>x.zcS fun x'=>q8 r fun r'=>K (x'::r')
theorem WD {ρ:Type}:∀(l:List V) (K:List V->ρ),q8 l K=K l
 |[],K=>rfl
 |x::r,K=>by simp only [q8,V.z7f];exact WD r _
def V.force {ρ:Type} (v:V) (K:V->ρ):ρ:=
 match v with
 | .agg cs=>q8 cs fun cs'=>K (.agg cs')
 | .tup cs=>q8 cs fun cs'=>K (.tup cs')
 | .t x=>K (.t x)
 | .zJ=>K .zJ
 | .own k sz xs=>K (.own k sz xs)
 | .slc k o l s=>K (.slc k o l s)
 | .ptr k o=>K (.ptr k o)
 | .mp k=>K (.mp k)
 | .fn f cs=>K (.fn f cs)
 | .gd c x=>K (.gd c x)
 | .ub c x=>K (.ub c x)
 | .top=>K .top
 | .fpt k i o=>K (.fpt k i o)
 | .gpt k w o=>K (.gpt k w o)
 | .gsl k w o l s=>K (.gsl k w o l s)
 | .fow k i sz xs=>K (.fow k i sz xs)
theorem V.force_eq {ρ:Type} (v:V) (K:V->ρ):v.force K=K v:=by
 cases v<;>simp only [V.force,WD]
def z4Z {ρ:Type}:Nat->List V->(List (Nat×V)->ρ)->ρ
 |_,[],K=>K []
 |i,x::r,K=>x.force fun x'=>YG (i+1) fun j=>z4Z j r fun e=>K ((i,x')::e)
theorem z4t {ρ:Type}:∀(vs:List V) (i:Nat) (K:List (Nat×V)->ρ),z4Z i vs K=K (qZ i vs)
 |[],i,K=>rfl
 |x::r,i,K=>by simp only [z4Z,V.force_eq,w6,z4t r,qZ]
theorem z6.run {f:FuncId} {n:Nat} {ac:zV} {rs:List qy} {vs:List V} {s:S} {out:Out} (hi:z9 P f=some (n,ac.bare,rs)) (hm:P.follows .mixedOrders=true) (hn:Nat.ble vs.length n=true)
  {e:List (Nat×V)} (he:z4Z 0 vs some=some e) (h:Run P n s.nxt (z4 s out rs .ret) [.c ac] {env:=e,s:=s}):z6 P f vs s out:=by
 rw [z4t] at he;simp at he;subst he;refine z6.zfN hi hm (w0x hn) (Sat.mono h fun e st he=>?_)
 cases e with
 |normal=>exact he
 |exit id=>exact he.elim
 |ret=>exact he
def z4i {α ρ:Type}:List (Nat×α)->Nat->α->(List (Nat×α)->ρ)->ρ
 |[],d,v,K=>K [(d,v)]
 |(k,x)::r,d,v,K=>bif Nat.beq k d then K ((k,v)::r) else z4i r d v fun r'=>K ((k,x)::r')
theorem z0J {α ρ:Type}:∀(e:List (Nat×α)) (d:Nat) (v:α) (K:List (Nat×α)->ρ),z4i e d v K=K (Yn e d v)
 |[],d,v,K=>rfl
 |(k,x)::r,d,v,K=>by
  simp only [z4i,Yn];by_cases e:k=d
  ·subst e;simp
  ·have hb:Nat.beq k d=false:=by
    cases hb:Nat.beq k d with
    |false=>rfl
    |true=>exact absurd (w0s hb) e
   simp only [hb,cond_false,e,w0r];exact z0J r d v _
def z6s {ρ:Type} (live:List Nat):List (Nat×V)->(List (Nat×V)->ρ)->ρ
 |[],K=>K []
 |(t,x)::r,K=>bif live.any (Nat.beq t) then z6s live r fun r'=>K ((t,x)::r') else z6s live r K
theorem any_beq (live:List Nat) (t:Nat):live.any (Nat.beq t)=live.contains t:=by
 induction live with
 |nil=>rfl
 |cons a r ih=>
  simp only [w14,List.contains_cons,ih];congr 1;by_cases e:t=a
  ·subst e;simp
  ·have hb:Nat.beq t a=false:=by
    cases hb:Nat.beq t a with
    |false=>rfl
    |true=>exact absurd (w0s hb) e
   simp [hb,e]
theorem Wv {ρ:Type} (live:List Nat):∀(e:List (Nat×V)) (K:List (Nat×V)->ρ),z6s live e K=K (We live e)
 |[],K=>rfl
 |(t,x)::r,K=>by
  simp only [z6s,We,any_beq]
  cases h:live.contains t<;>simp [Wv live r]
def setEnv {ρ:Type} (st:St) (d:Option Nat) (v:V) (K:List (Nat×V)->ρ):ρ:=
 match d with
 |some d=>z4i st.env d v K
 |none=>K st.env
theorem Zn {ρ:Type} (st:St) (d:Option Nat) (v:V) (K:List (Nat×V)->ρ):setEnv st d v K=K (match d with|some d=>Yn st.env d v|none=>st.env):=by
 cases d<;>simp only [setEnv,z0J]
def z02 {ρ:Type} (b:Bool) (K:Bool->ρ):ρ:=match b with|true=>K true|false=>K false
theorem Ws {ρ:Type} (b:Bool) (K:Bool->ρ):z02 b K=K b:=by cases b<;>rfl
def St.z5r {ρ:Type} (st:St) (e:List (Nat×V)) (K:St->ρ):ρ:=match st with|⟨_,⟨sto,nx⟩⟩=>K ⟨e,⟨sto,nx⟩⟩
theorem St.ZB {ρ:Type} (st:St) (e:List (Nat×V)) (K:St->ρ):st.z5r e K=K ⟨e,st.s⟩:=rfl
def z9d (gc:Bool) (st:St) (op:AOp):Option (V×List Bool):=
 match op with
 | .pick c (.c (.t (.bool true))) b=>
  match rd gc st c with
  |(.t (.bool cb),p1)=>
   match rd (gc&&!cb) st b with
   |(.t (.bool xb),p3)=>some (.t (.bool (cb||xb)),p1++([]++p3))
   |_=>zk gc st op
  |_=>zk gc st op
 | .pick c a (.c (.t (.bool false)))=>
  match rd gc st c with
  |(.t (.bool cb),p1)=>
   match rd (gc&&cb) st a with
   |(.t (.bool xa),p2)=>some (.t (.bool (cb&&xa)),p1++(p2++[]))
   |_=>zk gc st op
  |_=>zk gc st op
 | .eqb true x y=>
  match rd gc st x with
  |(.t (.bool a),p1)=>
   match rd gc st y with
   |(.t (.bool b),p2)=>some (.t (.bool (!(a==b))),p1++p2)
   |_=>zk gc st op
  |_=>zk gc st op
 | .eqb false x y=>
  match rd gc st x with
  |(.t (.bool a),p1)=>
   match rd gc st y with
   |(.t (.bool b),p2)=>some (.t (.bool (a==b)),p1++p2)
   |_=>zk gc st op
  |_=>zk gc st op
 |op=>zk gc st op
theorem z7k (gc:Bool) (st:St) (op:AOp):z9d gc st op=zk gc st op:=by
 unfold z9d;split
 ·rename_i c b;split
  ·rename_i cb p1 hc;split
   ·rename_i xb p3 hb;simp only [zk,hc,hb];simp only [rd,Ar.v,V.un]
    cases cb<;>rfl
   ·rfl
  ·rfl
 ·rename_i c a _;split
  ·rename_i cb p1 hc;split
   ·rename_i xa p2 ha;simp only [zk,hc,ha];simp only [rd,Ar.v,V.un]
    cases cb<;>rfl
   ·rfl
  ·rfl
 ·split
  ·rename_i h1;split
   ·rename_i h2;simp [zk,h1,h2]
   ·rfl
  ·rfl
 ·split
  ·rename_i h1;split
   ·rename_i h2;simp [zk,h1,h2]
   ·rfl
  ·rfl
 ·rfl
theorem yY (a:Bool):(!a||(!a||a))=true:=by cases a<;>rfl
theorem yX (a:Bool):(!a||true)=true:=by cases a<;>rfl
theorem yZ (a b:Bool):(!a||(!(a&&b)||(a&&b)))=true:=by cases a<;>cases b<;>rfl
def z1L (st:St) (d:Option Nat) (op:AOp):Option (List Bool×St×Bool):=
 match z9d true st op with
 |some (v,ps)=>v.force fun v'=>setEnv st d v' fun e=>z02 (Z8 st op) fun l=>st.z5r e fun st'=>some (ps,st',l)
 |none=>none
theorem zcK {st st':St} {d:Option Nat} {op:AOp} {ps:List Bool} {l:Bool} (h:z1L st d op=some (ps,st',l)):
  ∃v,zk true st op=some (v,ps)/\st'=st.app d {v:=v,rd:=l}/\Z8 st op=l:=by
 unfold z1L at h;rw [z7k] at h;split at h
 ·rename_i v ps' hv;simp only [V.force_eq,Zn,Ws,St.ZB,w00,w04] at h;obtain ⟨rfl,h2,h3⟩:=h;refine ⟨v,hv,?_,h3⟩
  rw [←h2];cases d<;>rfl
 ·cases h
variable {draw:Bool} {all:List AO} {after:List (List Nat)} {live:List Nat} {k:List It} {b:Nat} {fl:List (Bool×Bool)} {ops:List AO} {st st':St} {d:Option Nat}
theorem Mid.pure {op:AOp} {ps:List Bool} {l:Bool} (h:z1L st d op=some (ps,st',l)) (hp:Z9 ps) (h':Mid P n m R draw all after live k b ((l,false)::fl) ops st'):Mid P n m R draw all after live k b fl (⟨d,none,op⟩::ops) st:=by
 obtain ⟨v,h1,rfl,h3⟩:=zcK h;unfold Mid at h'⊢;simp only [evR,evO,evU,h1,h3];refine ⟨hp,?_⟩;simpa using h'
theorem Mid.zeC {op:AOp} {l:Bool} (h:z1L st d op=some ([],st',l)) (h':Mid P n m R draw all after live k b ((l,false)::fl) ops st'):Mid P n m R draw all after live k b fl (⟨d,none,op⟩::ops) st:=
 Mid.pure h trivial h'
def ZZ (want:Bool):V->Option Bool
 | .t (.bool b)=>match want with|true=>some b|false=>some (!b)
 | .gd c (.t (.bool b))=>match want with|true=>some (c&&b)|false=>some (c&&!b)
 | .gd false .top=>some false
 |_=>none
theorem wO (want:Bool) (v:V):ZZ want v=z4s want v:=by
 unfold ZZ z4s
 cases want<;>split<;>simp_all
def stepG (st:St) (d:Option Nat) (s:Nat) (want:Bool) (op:AOp):Option (List Bool×St×Bool):=
 match ZZ want (look st.env s) with
 |none=>none
 |some gc=>
  match z9d gc st op with
  |some (v,ps)=>v.force fun v'=>setEnv st d (.gd gc v') fun e=>z02 (Z8 st op) fun l=>st.z5r e fun st'=>some (ps.map (fun p=>!gc||p),st',l)
  |none=>none
theorem Mid.grd {op:AOp} {s:Nat} {want:Bool} {ps:List Bool} {l:Bool} (h:stepG st d s want op=some (ps,st',l)) (hp:Z9 ps) (h':Mid P n m R draw all after live k b ((l,false)::fl) ops st'):Mid P n m R draw all after live k b fl (⟨d,some (s,want),op⟩::ops) st:=by
 unfold stepG at h;rw [wO] at h;split at h
 ·cases h
 ·rename_i gc hgc;rw [z7k] at h;split at h
  ·rename_i v ps' hv;simp only [V.force_eq,Zn,Ws,St.ZB,w00,w04] at h;obtain ⟨rfl,h2,h3⟩:=h;unfold Mid at h'⊢;simp only [evR,evO,hgc,hv,h3];refine ⟨hp,?_⟩
   have:st'=st.app d {v:= .gd gc v,rd:=l}:=by rw [←h2];cases d<;>rfl
   rw [this] at h';simpa using h'
  ·cases h
theorem Mid.opX {op:AOp} (hn:zk true st op=none) (h:evX P b st (fun o=>Mid P n m R draw all after live k (b+o.n) ((o.rd,!o.ob.isEmpty||decide (0<o.n))::fl) ops (st.app d o)) op):Mid P n m R draw all after live k b fl (⟨d,none,op⟩::ops) st:=by
 unfold Mid at h⊢;simp only [evR,evO,evU,hn];exact .inl (by simpa using h)
theorem Mid.opY {op:AOp} {o:Out} (hn:zk true st op=none) (hy:z1b st b op o) (h:Mid P n m R draw all after live k (b+o.n) ((o.rd,!o.ob.isEmpty||decide (0<o.n))::fl) ops (st.app d o)):Mid P n m R draw all after live k b fl (⟨d,none,op⟩::ops) st:=by
 unfold Mid at h⊢;simp only [evR,evO,evU,hn]
 exact .inr ⟨o,hy,by simpa using h⟩
def V.QC:V->V
 | .own _ _ xs=> .t (.lst xs)
 | .fow _ _ _ xs=> .t (.lst xs)
 | .zJ=> .t (.lst [])
 |v=>v
def z75 {ρ:Type}:List V->(List V->ρ)->ρ
 |[],K=>K []
 |x::r,K=>x.QC.zcS fun x'=>z75 r fun r'=>K (x'::r')
theorem z2D {ρ:Type}:∀(l:List V) (K:List V->ρ),z75 l K=K (l.map V.QC)
 |[],K=>rfl
 |x::r,K=>by simp only [z75,V.z7f,z2D r,w0o]
def V.qp:V->V
 | .agg cs=> .agg (cs.map V.QC)
 |v=>v.QC
def V.z8J {ρ:Type} (v:V) (K:V->ρ):ρ:=
 match v with
 | .agg cs=>z75 cs fun cs'=>K (.agg cs')
 | .own _ _ xs=>K (.t (.lst xs))
 | .zJ=>K (.t (.lst []))
 | .tup cs=>q8 cs fun cs'=>K (.tup cs')
 | .t x=>K (.t x)
 | .slc k o l s=>K (.slc k o l s)
 | .ptr k o=>K (.ptr k o)
 | .mp k=>K (.mp k)
 | .fn f cs=>K (.fn f cs)
 | .gd c x=>K (.gd c x)
 | .ub c x=>K (.ub c x)
 | .top=>K .top
 | .fpt k i o=>K (.fpt k i o)
 | .gpt k w o=>K (.gpt k w o)
 | .gsl k w o l s=>K (.gsl k w o l s)
 | .fow _ _ _ xs=>K (.t (.lst xs))
theorem V.z6v {ρ:Type} (v:V) (K:V->ρ):v.z8J K=K v.qp:=by
 cases v<;>simp only [V.z8J,V.qp,V.QC,z2D,WD]
theorem zy.QC {Λ:L} {u:Value} {x:V} (h:zy Λ u x):zy Λ u x.QC:=by
 cases h with
 |own h _ _ _ _=>exact .t h
 |zJ=>exact .t .nil
 |t h=>exact .t h
 |slc a b c=>exact .slc a b c
 |agg a b=>exact .agg a b
 |tup a b=>exact .tup a b
 |ptr a b=>exact .ptr a b
 |mp a b=>exact .mp a b
 |fn a b=>exact .fn a b
 |gd a b=>exact .gd a b
 |ub a b=>exact .ub a b
 |top=>exact .top
 |fpt a b=>exact .fpt a b
 |gpt a b c d=>exact .gpt a b c d
 |gsl a b c d=>exact .gsl a b c d
 |fow h _ _ _ _=>exact .t h
theorem zy.qp {Λ:L} {u:Value} {x:V} (h:zy Λ u x):zy Λ u x.qp:=by
 cases x with
 |agg cs=>
  cases h with
  |agg hs hv=>
   refine .agg (by simpa using hs) fun j v c h1 h2=>?_;rw [w0f,w05] at h2;obtain ⟨c',h3,rfl⟩:=h2;exact (hv j v c' h1 h3).QC
 |_=>exact h.QC
def Q4 (vs vs':List V):Prop:=vs.length=vs'.length/\∀(Λ:L) (j:Nat) (u:Value) (x y:V),vs[j]?=some x->vs'[j]?=some y->zy Λ u x->zy Λ u y
theorem Q4.pure (vs:List V):Q4 vs (vs.map V.qp):=by
 refine ⟨by simp,fun Λ j u x y h1 h2 h=>?_⟩
 rw [w0f,h1] at h2;simp at h2;subst h2;exact h.qp
theorem Q4.rfl {vs:List V}:Q4 vs vs:=⟨Eq.refl _,fun Λ j u x y h1 h2 h=>by rw [h1] at h2;simp at h2;subst h2;exact h⟩
theorem Q4.app {a b c d:List V} (h:Q4 a b) (k:Q4 c d):Q4 (a++c) (b++d):=by
 refine ⟨by simp [h.1,k.1],fun Λ j u x y h1 h2 hr=>?_⟩
 by_cases hj:j<a.length
 ·rw [w0h hj] at h1;rw [w0h (by rw [←h.1];exact hj)] at h2;exact h.2 Λ j u x y h1 h2 hr
 ·rw [w0i (by omega)] at h1;rw [w0i (by rw [←h.1];omega),←h.1] at h2;exact k.2 Λ _ u x y h1 h2 hr
theorem w4.le {f:FuncId} {vs vs':List V} {base:Nat} {sto:List (Nat×z5)} {out:Out} (hl:Q4 vs vs') (h:w4 P f vs' base sto out):w4 P f vs base sto out:=
 ⟨h.1,h.2.1,fun Λ args h1 h2 h3 h4 h5=>h.2.2 Λ args h1 h2 h3 (h4.trans hl.1) fun j v x hj hx=>by
  have hlt:j<vs.length:=by rw [hl.1];exact (w02.1 hx).1
  have hv:=w09 hlt
  exact hl.2 Λ j v _ x hv hx (h5 j v _ hj hv)⟩
theorem QQ.le {f:FuncId} {vs vs':List V} {base:Nat} {sto:List (Nat×z5)} {K:Out->Prop} (hl:Q4 vs vs') (h:QQ P f vs' base sto K):QQ P f vs base sto K:=by
 obtain ⟨out,h1,h2⟩:=h;refine ⟨out,?_,h2⟩;split
 ·rename_i e;rw [e] at h1;exact fun s hs=>w4.le hl (h1 s hs)
 ·rename_i e
  have h1':∀s,w4 P f vs' base s out:=by simpa [e] using h1
  exact fun s=>w4.le hl (h1' s)
theorem qP.le {f:FuncId} {vs vs':List V} {base:Nat} {sto:List (Nat×z5)} {K:Out->Prop} (hl:Q4 vs vs') (h:qP P f vs' base sto K):qP P f vs base sto K:=by
 obtain ⟨out,h1,h2⟩:=h;refine ⟨out,?_,h2⟩;split
 ·rename_i e;rw [e] at h1;exact w4.le hl h1
 ·rename_i e
  have h1':∀s,w4 P f vs' base s out:=by simpa [e] using h1
  exact fun s=>w4.le hl (h1' s)
def z1x {α:Type} (st:St):List Ar->(List V->α)->α
 |[],K=>K []
 |x::r,K=>V.z8J (x.u st) fun v=>z1x st r fun vs=>K (v::vs)
theorem qC {α:Type} (st:St):∀(l:List Ar) (K:List V->α),z1x st l K=K ((yu st l).map V.qp)
 |[],K=>rfl
 |x::r,K=>by simp only [z1x,V.z6v,qC st r,yu,w0o]
def zQ {α:Type} (st:St) (d:Option Nat) (v:V) (K:St->α):α:=v.force fun v'=>setEnv st d v' fun e=>st.z5r e K
theorem Mid.call {f:FuncId} {args:List Ar} {vs:List V} {x:V} (h:z6 P f vs ⟨[],0⟩ {v:=x}) (hv:z1x st args some=some vs) (hb:V.bds 0 vs=true) (hx:x.bd 0=true) (hs:zQ st d x some=some st')
  (h':Mid P n m R draw all after live k b ((false,false)::fl) ops st'):Mid P n m R draw all after live k b fl (⟨d,none,.call f args⟩::ops) st:=by
 rw [qC] at hv;simp at hv;refine Mid.opX Z ?_;simp only [evX];refine QQ.le (Q4.pure _) ?_;rw [hv];refine zcx h hb hx ?_;simp only [zQ,V.force_eq,Zn,St.ZB,w00] at hs
 have:st'=st.app d {v:=x}:=by rw [←hs];cases d<;>rfl
 rw [this] at h';exact h'
theorem Mid.Wd {f:FuncId} {args:List Ar} {vs:List V} {x:V} (h:z6 P f vs ⟨st.s.sto,b⟩ {v:=x,rd:=true}) (hv:z1x st args some=some vs) (hb:V.bds b vs=true) (hsb:zP b st.s.sto=true) (hs:zQ st d x some=some st')
  (h':Mid P n m R draw all after live k b ((true,false)::fl) ops st'):Mid P n m R draw all after live k b fl (⟨d,none,.call f args⟩::ops) st:=by
 rw [qC] at hv;simp at hv;refine Mid.opX Z ?_;simp only [evX];refine QQ.le (Q4.pure _) ?_;rw [hv];refine zbD h hb hsb ?_;simp only [zQ,V.force_eq,Zn,St.ZB,w00] at hs
 have:st'=st.app d {v:=x,rd:=true}:=by rw [←hs];cases d<;>rfl
 rw [this] at h';exact h'
theorem Mid.z5w {f:FuncId} {caps:List (Nat×Nat)} {y:Ar} {args:List Ar} {vs:List V} {x:V} (hf:y.u st= .fn f caps) (h:z6 P f (vs++qS caps) ⟨st.s.sto,b⟩ {v:=x,rd:=true}) (hv:z1x st args some=some vs) (hb:V.bds b (vs++qS caps)=true) (hsb:zP b st.s.sto=true) (hs:zQ st d x some=some st')
  (h':Mid P n m R draw all after live k b ((true,false)::fl) ops st'):Mid P n m R draw all after live k b fl (⟨d,none,.z1w y args⟩::ops) st:=by
 rw [qC] at hv;simp at hv;refine Mid.opX Z ?_;simp only [evX,hf];refine qP.le ((Q4.pure _).app .rfl) ?_;rw [hv];refine za4 h hb hsb ?_;simp only [zQ,V.force_eq,Zn,St.ZB,w00] at hs
 have:st'=st.app d {v:=x,rd:=true}:=by rw [←hs];cases d<;>rfl
 rw [this] at h';exact h'
def unK {α:Type} (gc:Bool) (v:V) (K:V->List Bool->α):α:=
 match v with
 | .gd c x=>x.z8J fun x'=>K x' [!gc||c]
 | .agg cs=>z75 cs fun cs'=>K (.agg cs') []
 | .tup cs=>q8 cs fun cs'=>K (.tup cs') []
 | .t x=>K (.t x) []
 | .zJ=>K (.t (.lst [])) []
 | .own _ _ xs=>K (.t (.lst xs)) []
 | .slc k o l s=>K (.slc k o l s) []
 | .ptr k o=>K (.ptr k o) []
 | .mp k=>K (.mp k) []
 | .fn f cs=>K (.fn f cs) []
 | .ub c d=>K (.ub c d) []
 | .top=>K .top []
 | .fpt k i o=>K (.fpt k i o) []
 | .gpt k w o=>K (.gpt k w o) []
 | .gsl k w o l s=>K (.gsl k w o l s) []
 | .fow _ _ _ xs=>K (.t (.lst xs)) []
theorem zfY {α:Type} (gc:Bool) (v:V) (K:V->List Bool->α):unK gc v K=K (v.un gc).1.qp (v.un gc).2:=by
 cases v<;>simp only [unK,z2D,WD,V.z6v,V.un,V.qp,V.QC]
def z2q {α:Type} (gc:Bool) (st:St):List Ar->(List V->List Bool->α)->α
 |[],K=>K [] []
 |x::r,K=>unK gc (x.v st) fun v p=>z2q gc st r fun vs ps=>K (v::vs) (p++ps)
theorem wU {a b:List Bool}:Z9 (a++b)↔Z9 a/\Z9 b:=by
 induction a with
 |nil=>simp [Z9]
 |cons x r ih=>simp [Z9,ih,and_assoc]
theorem z6E {st:St}:∀{l:List Ar} {vs:List V} {ps:List Bool},z2q true st l (fun vs ps=>some (vs,ps))=some (vs,ps)->Z9 ps->(yu st l).map V.qp=vs:=by
 have key:∀(l:List Ar) {ρ:Type} (K:List V->List Bool->ρ),∃vs ps,z2q true st l K=K vs ps/\(Z9 ps->(yu st l).map V.qp=vs):=by
  intro l
  induction l with
  |nil=>intro ρ K;exact ⟨[],[],rfl,fun _=>rfl⟩
  |cons x r ih=>
   intro ρ K;simp only [z2q,zfY];obtain ⟨vs,ps,h1,h2⟩:=ih fun vs ps=>K (((x.v st).un true).1.qp::vs) (((x.v st).un true).2++ps);refine ⟨_,_,h1,fun hp=>?_⟩;rw [wU] at hp;simp only [yu,w0o,h2 hp.2,Ar.u];congr 1;congr 1
   cases hv:x.v st<;>simp only [V.un,V.ug] at*
   rename_i c y;have:=hp.1;rw [hv] at this;simp [V.un,Z9] at this;simp [this]
 intro l vs ps h hp;obtain ⟨vs',ps',h1,h2⟩:=key l fun vs ps=>some (vs,ps);rw [h1] at h;simp at h;obtain ⟨rfl,rfl⟩:=h;exact h2 hp
theorem Mid.Q2 {f:FuncId} {s:Nat} {want gc:Bool} {args:List Ar} {vs:List V} {ps:List Bool} {x:V} (hg:ZZ want (look st.env s)=some gc) (hv:z2q gc st args (fun vs ps=>some (vs,ps))=some (vs,ps)) (hp:Z9 (ps.map fun p=>!gc||p)) (h:gc=true->∃vs',vs=vs'/\z6 P f vs' ⟨[],0⟩ {v:=x}/\V.bds 0 vs'=true) (hx:x.bd 0=true) (hs:zQ st d (.gd gc x) some=some st')
  (h':Mid P n m R draw all after live k b ((false,false)::fl) ops st'):Mid P n m R draw all after live k b fl (⟨d,some (s,want),.call f args⟩::ops) st:=by
 rw [wO] at hg;simp only [zQ,V.force_eq,Zn,St.ZB,w00] at hs
 have:st'=st.app d {v:= .gd gc x}:=by rw [←hs];cases d<;>rfl
 rw [this] at h';unfold Mid at h'⊢;simp only [evR,evO,hg,zk];refine .inl ⟨{v:=x},?_,⟨rfl,rfl⟩,?_⟩
 ·intro hgc;simp only [w0k,w0r];intro s;obtain ⟨vs',e1,e2,e3⟩:=h hgc;subst hgc
  have hpp:Z9 ps:=by
   have:∀l:List Bool,Z9 (l.map fun p=>!true||p)->Z9 l:=by
    intro l
    induction l with
    |nil=>exact fun h=>h
    |cons a r ih=>intro h;exact ⟨by simpa using h.1,ih h.2⟩
   exact this ps hp
  refine w4.le (Q4.pure _) ?_;rw [z6E hv hpp,e1];exact e2.pure e3 hx
 ·simpa using h'
def z5G {α:Type} (live:List Nat) (b:Nat) (st:St) (K:St->α):α:=match st with|⟨env,⟨sto,_⟩⟩=>z6s live env fun e=>K ⟨e,⟨sto,b⟩⟩
theorem Mid.done (h:z5G live b st some=some st') (hr:z4g draw all after fl.reverse st.env) (h':Run P n m R k st'):Mid P n m R draw all after live k b fl [] st:=by
 obtain ⟨env,⟨sto,nx⟩⟩:=st;simp only [z5G,Wv,w00] at h;subst h;exact ⟨hr,h'⟩
theorem Mid.z4o (h:z5G live b st some=some st') (h':Run P n m R k st'):Mid P n m R false all after live k b fl [] st:=
 Mid.done h (fun h=>by cases h) h'
def z5.force {ρ:Type} (o:z5) (K:z5->ρ):ρ:=
 match o with
 | .cells cs=>q8 cs fun cs'=>K (.cells cs')
 | .map kag es s=>K (.map kag es s)
 | .arr n=>K (.arr n)
 | .iter q s u c=>K (.iter q s u c)
 | .gro w cs=>q8 cs fun cs'=>K (.gro w cs')
 | .wo os=>K (.wo os)
 | .Ya ns=>K (.Ya ns)
 | .WM a I=>K (.WM a I)
theorem z5.force_eq {ρ:Type} (o:z5) (K:z5->ρ):o.force K=K o:=by
 cases o<;>simp only [z5.force,WD]
def z5h {ρ:Type}:List (Nat×z5)->List (Nat×z5)->(List (Nat×z5)->ρ)->ρ
 |s,[],K=>K s
 |s,(k,o)::r,K=>o.force fun o'=>z4i s k o' fun s'=>z5h s' r K
theorem z4L {ρ:Type}:∀(r s:List (Nat×z5)) (K:List (Nat×z5)->ρ),z5h s r K=K (Zr s r)
 |[],s,K=>rfl
 |(k,o)::r,s,K=>by simp only [z5h,z5.force_eq,z0J,z4L r,Zr]
def z8D {α ρ:Type}:List α->(List α->ρ)->ρ
 |[],K=>K []
 |x::r,K=>z8D r fun r'=>K (x::r')
theorem z4I {α ρ:Type}:∀(l:List α) (K:List α->ρ),z8D l K=K l
 |[],K=>rfl
 |x::r,K=>z4I r _
def z29 {α ρ:Type}:List (List α)->(List (List α)->ρ)->ρ
 |[],K=>K []
 |x::r,K=>z8D x fun x'=>z29 r fun r'=>K (x'::r')
theorem z2F {α ρ:Type}:∀(l:List (List α)) (K:List (List α)->ρ),z29 l K=K l
 |[],K=>rfl
 |x::r,K=>by simp only [z29,z4I];exact z2F r _
def z0I {ρ:Type} (b:Nat) (st:St) (d:Option Nat) (o:Out) (K:Nat->St->ρ):ρ:=
 YG (b+o.n) fun b'=>o.v.force fun v'=>setEnv st d v' fun e=>z5h st.s.sto o.ob fun sto=>match st with|⟨_,⟨_,nx⟩⟩=>K b' ⟨e,⟨sto,nx⟩⟩
theorem qD {ρ:Type} (b:Nat) (st:St) (d:Option Nat) (o:Out) (K:Nat->St->ρ):z0I b st d o K=K (b+o.n) (st.app d o):=by
 obtain ⟨env,⟨sto,nx⟩⟩:=st;simp only [z0I,w6,V.force_eq,Zn,z4L]
 cases d<;>rfl
def yc (b:Nat) (st:St):AOp->Option Out
 | .st n x v=>
  match x.u st with
  | .ptr k o=>
   match zl st.s.sto k with
   |some (.cells cs)=>
    match (v.u st).parts with
    |some vs=>bif Nat.beq vs.length n&&Nat.ble (o+n) cs.length&&vs.all V.Zq then some {v:= .top,ob:=[(k,.cells (setAt cs o vs))],rd:=true} else none
    |none=>none
   |_=>none
  |_=>none
 | .box n x=>
  match (x.u st).parts with
  |some vs=>bif Nat.beq vs.length n&&vs.all V.Zq then some {v:= .ptr b 0,ob:=[(b,.cells vs)],n:=1} else none
  |none=>none
 | .alloc zs=>some {v:= .ptr b 0,ob:=[(b,.cells zs)],n:=1}
 | .bsl ow sz zs ps=>
  match ZP st sz zs ps with
  |some xs=>z29 xs fun xs=>bif y6 sz xs then (match ow with|true=>(match xs with|[]=>some {v:= .zJ}|y::ys=>some {v:= .own b sz (y::ys),ob:=[(b,.arr (y::ys).length)],n:=1})|false=>some {v:= .t (.lst xs)}) else none
  |none=>none
 |_=>none
theorem zdc {P:Program} {b:Nat} {st:St} {op:AOp} {o:Out} {K:Out->Prop} (h:yc b st op=some o) (hk:K o):evX P b st K op:=by
 unfold yc at h;split at h
 ·rename_i nn x v;simp only [evX];split at h
  ·rename_i k oo hx;rw [hx];simp only;split at h
   ·rename_i cs hc;rw [hc];simp only;split at h
    ·rename_i vs hv;rw [hv];simp only
     cases hh:(Nat.beq vs.length nn&&Nat.ble (oo+nn) cs.length&&vs.all V.Zq) with
     |false=>rw [hh] at h;simp at h
     |true=>
      rw [hh] at h;simp at h;subst h;simp only [w0a] at hh;refine ⟨⟨?_,hh.2⟩,hk⟩;have h1:=w0s hh.1.1;have h2:=w0x hh.1.2;simp [h1,h2]
    ·cases h
   ·cases h
  ·cases h
 ·rename_i nn x;simp only [evX];split at h
  ·rename_i vs hv;rw [hv];simp only
   cases hh:(Nat.beq vs.length nn&&vs.all V.Zq) with
   |false=>rw [hh] at h;simp at h
   |true=>
    rw [hh] at h;simp at h;subst h;simp only [w0a] at hh;refine ⟨⟨?_,hh.2⟩,hk⟩;have h1:=w0s hh.1;simp [h1]
  ·cases h
 ·simp at h;subst h;exact hk
 ·rename_i ow sz zs ps;simp only [evX];split at h
  ·rename_i xs hv;rw [hv];simp only [z2F] at h⊢
   cases hh:y6 sz xs with
   |false=>rw [hh] at h;simp at h
   |true=>
    rw [hh] at h;refine ⟨rfl,?_⟩
    cases ow with
    |false=>simp at h;subst h;exact hk
    |true=>
     left
     cases xs with
     |nil=>simp at h;subst h;exact hk
     |cons y ys=>simp at h;subst h;exact hk
  ·cases h
 ·cases h
def z8K (b:Nat) (st:St) (d:Option Nat) (op:AOp):Option (Nat×St×Bool×Bool):=
 match yc b st op with
 |some o=>z02 o.rd fun r=>z02 (!o.ob.isEmpty||decide (0<o.n)) fun c=>z0I b st d o fun b' st'=>some (b',st',r,c)
 |none=>none
theorem z8F {st:St} {op:AOp} {b:Nat} {o:Out} (h:yc b st op=some o):zk true st op=none:=by
 cases op<;>first |rfl|(simp [yc] at h)
variable {b':Nat}
theorem Mid.eff {op:AOp} {r c:Bool} (h:z8K b st d op=some (b',st',r,c)) (h':Mid P n m R draw all after live k b' ((r,c)::fl) ops st'):Mid P n m R draw all after live k b fl (⟨d,none,op⟩::ops) st:=by
 unfold z8K at h;split at h
 ·rename_i o ho;simp only [Ws,qD,w00,w04] at h;obtain ⟨rfl,rfl,rfl,rfl⟩:=h;exact Mid.opX (z8F ho) (zdc ho h')
 ·cases h
theorem Mid.zh9 {sz:Nat} {zs xs:List (List T)} {ps:List (Nat×Ar)} {ow:Bool} (hx:ZP st sz zs ps=some xs) (ha:y6 sz xs=true) (hs:zQ st d (.t (.lst xs)) some=some st')
  (h':Mid P n m R draw all after live k b ((false,false)::fl) ops st'):Mid P n m R draw all after live k b fl (⟨d,none,.bsl ow sz zs ps⟩::ops) st:=by
 simp only [zQ,V.force_eq,Zn,St.ZB,w00] at hs
 have e:st'=st.app d {v:= .t (.lst xs)}:=by rw [←hs];cases d<;>rfl
 refine Mid.opX Z ?_;simp only [evX,hx];refine ⟨ha,?_⟩
 have hk:Mid P n m R draw all after live k (b+0) ((false,!([]:List (Nat×z5)).isEmpty||decide (0<0))::fl) ops (st.app d {v:= .t (.lst xs)}):=by
  rw [e] at h';simpa using h'
 cases ow with
 |true=>exact .inr hk
 |false=>exact hk
theorem Mid.zg1 {sz by_ j s nn:Nat} {x y:Ar} {xs ys:List (List T)} (hx:x.u st= .own j s xs) (hy:(y.u st).zF=some (.lst ys)) (hn:zl st.s.sto j=some (.arr nn)) (he:nn=xs.length) (hs:Nat.beq s sz=true) (hl:y6 sz ys=true)
  (h1:(xs.length+ys.length)*by_<=140737488355328) (h2:xs.length+ys.length<=9223372036854775807)
  (hst:z0I b st d {v:= .own j sz (xs++ys),ob:=[(j,.arr (xs.length+ys.length))],rd:=true} (fun b' st'=>some (b',st'))=some (b',st'))
  (h':Mid P n m R draw all after live k b' ((true,true)::fl) ops st'):Mid P n m R draw all after live k b fl (⟨d,none,.app sz by_ x y⟩::ops) st:=by
 refine Mid.opX Z ?_;have hs':=w0s hs;simp only [qD,w00,w04] at hst;obtain ⟨rfl,rfl⟩:=hst;simp only [evX,hx,hy,hn];exact ⟨hs',he,hl,h1,h2,h'⟩
theorem Mid.appMap {α:Type} (f:α->List T) (l1 l2:List α) {sz by_ j s nn:Nat} {x y:Ar} (hx:x.u st= .own j s (l1.map f)) (hy:(y.u st).zF=some (.lst (l2.map f))) (hn:zl st.s.sto j=some (.arr nn)) (he:nn=l1.length) (hs:Nat.beq s sz=true) (hl:∀x,(f x).length=sz)
  (h1:(l1.length+l2.length)*by_<=140737488355328) (h2:l1.length+l2.length<=9223372036854775807)
  (hst:z0I b st d {v:= .own j sz ((l1++l2).map f),ob:=[(j,.arr (l1++l2).length)],rd:=true} (fun b' st'=>some (b',st'))=some (b',st'))
  (h':Mid P n m R draw all after live k b' ((true,true)::fl) ops st'):Mid P n m R draw all after live k b fl (⟨d,none,.app sz by_ x y⟩::ops) st:=
 Mid.zg1 hx hy hn (by simpa using he) hs (by simp [y6,hl]) (by simpa using h1) (by simpa using h2) (by rw [←hst];simp) h'
theorem Mid.za1 {α:Type} (f:α->List T) (l2:List α) {sz by_:Nat} {x y:Ar} (hx:x.u st= .zJ) (hy:(y.u st).zF=some (.lst (l2.map f))) (hl:∀x,(f x).length=sz)
  (h1:l2.length*by_<=140737488355328) (h2:l2.length<=9223372036854775807)
  (hst:z0I b st d {v:= .own b sz (l2.map f),ob:=[(b,.arr l2.length)],n:=1} (fun b' st'=>some (b',st'))=some (b',st'))
  (h':Mid P n m R draw all after live k b' ((false,true)::fl) ops st'):Mid P n m R draw all after live k b fl (⟨d,none,.app sz by_ x y⟩::ops) st:=by
 refine Mid.opX Z ?_;simp only [qD,w00,w04] at hst;obtain ⟨rfl,rfl⟩:=hst;simp only [evX,hx,hy]
 exact ⟨by simp [y6,hl],by simpa using h1,by simpa using h2,by simpa using h'⟩
theorem Mid.z2v {sz by_:Nat} {z:List V} {x:Ar} {kd:IntKind} {i:Int} (hx:x.u st= .t (.int kd i)) (h0:0<=i) (h1:i*by_<=281474976710656) (h2:i<=9223372036854775807) (hz:Nat.beq z.length sz=true)
  (hst:z0I b st d {v:= .slc b 0 i.toNat sz,ob:=[(b,.cells (List.replicate i.toNat z).flatten)],n:=1} (fun b' st'=>some (b',st'))=some (b',st'))
  (h':Mid P n m R draw all after live k b' ((false,true)::fl) ops st'):Mid P n m R draw all after live k b fl (⟨d,none,.z2v sz by_ z x⟩::ops) st:=by
 refine Mid.opX Z ?_;simp only [qD,w00,w04] at hst;obtain ⟨rfl,rfl⟩:=hst;simp only [evX,hx];exact ⟨⟨h0,h1,h2,w0s hz⟩,h'⟩
theorem Yu {gc:Bool} {x:Ar} {v:V} {p:List Bool} {t:T} (hx:rd gc st x=(v,p)) (hv:v.zF=some t):Yd (x.v st)=false:=by
 unfold rd at hx;generalize x.v st=u at hx⊢
 cases u<;>simp only [V.un,w04] at hx<;>obtain ⟨rfl,_⟩:=hx<;>simp_all [V.zF,Yd]
 rename_i c y _
 cases y<;>simp_all
theorem zb3 {gc:Bool} {x:Ar} {v:V} {p:List Bool} (hx:rd gc st x=(v,p)) (hv:∀c y,v≠ .gd c y) (h:Yd v=false):Yd (x.v st)=false:=by
 unfold rd at hx;generalize x.v st=u at hx⊢
 cases u<;>simp only [V.un,w04] at hx<;>obtain ⟨rfl,_⟩:=hx<;>simp_all [Yd]
 rename_i c y _
 cases y<;>simp_all
theorem Mid.elem {sz:Nat} {x i:Ar} {v:V} {p1 p2:List Bool} {kd:IntKind} {z:Int} {xs:List (List T)} {c:List T} (hx:rd true st x=(v,p1)) (hv:v.zF=some (.lst xs)) (hi:rd true st i=(.t (.int kd z),p2)) (hc:xs[z.toNat]?=some c) (hl:(Nat.beq c.length sz&&!(Nat.beq sz 0))=true) (h0:0<=z) (hp:Z9 (p1++p2))
  (hs:zQ st d (.t (.ptr c)) some=some st') (h':Mid P n m R draw all after live k b ((false,false)::fl) ops st'):Mid P n m R draw all after live k b fl (⟨d,none,.ia sz x i⟩::ops) st:=by
 have hl1:c.length=sz/\sz≠0:=by
  simp only [w0a] at hl;refine ⟨w0s hl.1,?_⟩;rintro rfl;simp at hl
 have hev:zk true st (.ia sz x i)=some (.t (.ptr c),p1++(p2++[decide (0<=z)])):=by
  simp only [zk,hx,hi]
  cases v<;>simp_all [V.zF]
 simp only [zQ,V.force_eq,Zn,St.ZB,w00] at hs
 have e:st'=st.app d {v:= .t (.ptr c)}:=by rw [←hs];cases d<;>rfl
 rw [e] at h';unfold Mid at h'⊢;simp only [evR,evO,evU,hev,Z8,Yu hx hv]
 refine ⟨?_,by simpa using h'⟩
 have hpa:∀(a b:List Bool),Z9 (a++b)↔Z9 a/\Z9 b:=by
  intro a b
  induction a with
  |nil=>simp [Z9]
  |cons x r ih=>simp [Z9,ih,and_assoc]
 rw [hpa] at hp;simp [hpa,hp.1,hp.2,Z9,h0]
theorem Mid.val {op:AOp} {v:V} {ps:List Bool} (hev:zk true st op=some (v,ps)) (hl:Z8 st op=false) (hp:Z9 ps) (hs:zQ st d v some=some st')
  (h':Mid P n m R draw all after live k b ((false,false)::fl) ops st'):Mid P n m R draw all after live k b fl (⟨d,none,op⟩::ops) st:=by
 simp only [zQ,V.force_eq,Zn,St.ZB,w00] at hs
 have e:st'=st.app d {v:=v}:=by rw [←hs];cases d<;>rfl
 rw [e] at h';unfold Mid at h'⊢;simp only [evR,evO,evU,hev,hl]
 exact ⟨hp,by simpa using h'⟩
theorem Mid.zgZ {x y:Ar} {i jn:Nat} {j:Int} (hx:rd true st x=(.t (.int .i64 i),[])) (hy:rd true st y=(.t (.int .i64 j),[])) (hj:YG j.toNat some=some jn) (hjn:j=(jn:Int)) (h2:i+jn<=9223372036854775807) (hs:zQ st d (.t (.int .i64 ((i+jn:Nat):Int))) some=some st')
  (h':Mid P n m R draw all after live k b ((false,false)::fl) ops st'):Mid P n m R draw all after live k b fl (⟨d,none,.bin .add x y⟩::ops) st:=
 Mid.val (v:= .t (.int .i64 ((i+jn:Nat):Int))) (ps:=[]) (by subst hjn;simp only [zk,hx,hy,z0i];simp;exact wrap64 (by omega) (by omega)) rfl trivial hs h'
theorem Mid.zgv {x y:Ar} {i j:Int} (hx:rd true st x=(.t (.int .i64 i),[])) (hy:rd true st y=(.t (.int .i64 j),[])) (h1:-9223372036854775808<=i - j) (h2:i - j<=9223372036854775807) (hs:zQ st d (.t (.int .i64 (i - j))) some=some st')
  (h':Mid P n m R draw all after live k b ((false,false)::fl) ops st'):Mid P n m R draw all after live k b fl (⟨d,none,.bin .sub x y⟩::ops) st:=
 Mid.val (v:= .t (.int .i64 (i - j))) (ps:=[]) (by simp only [zk,hx,hy,z0i];simp [wrap64 h1 h2]) rfl trivial hs h'
theorem Mid.zf6 {α:Type} {f:α->List T} {l:List α} {x:Ar} {v:V} (hx:rd true st x=(v,[])) (hv:v.zF=some (.lst (l.map f))) (hs:zQ st d (.t (.int .i64 l.length)) some=some st')
  (h':Mid P n m R draw all after live k b ((false,false)::fl) ops st'):Mid P n m R draw all after live k b fl (⟨d,none,.len x⟩::ops) st:=by
 refine Mid.val (v:= .t (.int .i64 l.length)) (ps:=[]) ?_ (Yu hx hv) trivial hs h';simp only [zk,hx]
 cases v<;>simp_all [V.zF]
theorem Mid.za {α:Type} {f:α->List T} {l:List α} {e:α} {sz j:Nat} {x i:Ar} {v:V} {kd:IntKind} (hx:rd true st x=(v,[])) (hv:v.zF=some (.lst (l.map f))) (hi:rd true st i=(.t (.int kd j),[])) (hc:l[j]?=some e) (hl:(Nat.beq (f e).length sz&&!(Nat.beq sz 0))=true)
  (hs:zQ st d (.t (.ptr (f e))) some=some st') (h':Mid P n m R draw all after live k b ((false,false)::fl) ops st'):Mid P n m R draw all after live k b fl (⟨d,none,.ia sz x i⟩::ops) st:=
 Mid.elem hx hv hi (by simp [hc]) hl (by simp) trivial hs h'
theorem Mid.byte {x i:Ar} {kd:IntKind} {j:Nat} {s:List UInt8} {c:UInt8} (hx:rd true st x=(.t (.str s),[])) (hi:rd true st i=(.t (.int kd j),[])) (hc:s[j]?=some c)
  (hs:zQ st d (.t (.int .u8 c.toNat)) some=some st') (h':Mid P n m R draw all after live k b ((false,false)::fl) ops st'):Mid P n m R draw all after live k b fl (⟨d,none,.ixs x i⟩::ops) st:=
 Mid.val (v:= .t (.int .u8 c.toNat)) (ps:=[true]) (by simp only [zk,hx,hi];simp [hc]) rfl ⟨rfl,trivial⟩ hs h'
theorem Mid.zaS {op:AOp} {s:Nat} {want gc:Bool} {v:V} {ps:List Bool} (hg:ZZ want (look st.env s)=some gc) (hev:zk gc st op=some (v,ps)) (hl:Z8 st op=false) (hp:Z9 (ps.map fun p=>!gc||p)) (hs:zQ st d (.gd gc v) some=some st')
  (h':Mid P n m R draw all after live k b ((false,false)::fl) ops st'):Mid P n m R draw all after live k b fl (⟨d,some (s,want),op⟩::ops) st:=by
 rw [wO] at hg;simp only [zQ,V.force_eq,Zn,St.ZB,w00] at hs
 have e:st'=st.app d {v:= .gd gc v}:=by rw [←hs];cases d<;>rfl
 rw [e] at h';unfold Mid at h'⊢;simp only [evR,evO,hg,hev,hl]
 exact ⟨hp,by simpa using h'⟩
theorem Mid.zgA {s:Nat} {want gc:Bool} {x i:Ar} {kd:IntKind} {j:Nat} {str:List UInt8} {c:UInt8} {p1 p2:List Bool} (hg:ZZ want (look st.env s)=some gc) (hx:rd gc st x=(.t (.str str),p1)) (hi:rd gc st i=(.t (.int kd j),p2)) (hc:str[j]?=some c)
  (hp1:Z9 (p1.map fun p=>!gc||p)) (hp2:Z9 (p2.map fun p=>!gc||p))
  (hs:zQ st d (.gd gc (.t (.int .u8 c.toNat))) some=some st') (h':Mid P n m R draw all after live k b ((false,false)::fl) ops st'):Mid P n m R draw all after live k b fl (⟨d,some (s,want),.ixs x i⟩::ops) st:=
 Mid.zaS (v:= .t (.int .u8 c.toNat)) (ps:=p1++(p2++[true])) hg (by simp only [zk,hx,hi];simp [hc]) rfl (by simp only [List.map_append,wU];exact ⟨hp1,hp2,by simp [Z9]⟩) hs h'
theorem Mid.zdD {α:Type} {f:α->List T} {l:List α} {s:Nat} {want gc:Bool} {x:Ar} {v:V} {p1:List Bool} (hg:ZZ want (look st.env s)=some gc) (hx:rd gc st x=(v,p1)) (hv:v.zF=some (.lst (l.map f))) (hp1:Z9 (p1.map fun p=>!gc||p)) (hs:zQ st d (.gd gc (.t (.int .i64 l.length))) some=some st')
  (h':Mid P n m R draw all after live k b ((false,false)::fl) ops st'):Mid P n m R draw all after live k b fl (⟨d,some (s,want),.len x⟩::ops) st:=by
 refine Mid.zaS (v:= .t (.int .i64 l.length)) (ps:=p1) hg ?_ (Yu hx hv) hp1 hs h';simp only [zk,hx]
 cases v<;>simp_all [V.zF]
theorem Mid.z6g {α:Type} {f:α->List T} {l:List α} {e:α} {sz j:Nat} {s:Nat} {want gc:Bool} {x i:Ar} {v:V} {kd:IntKind} {p1 p2:List Bool} (hg:ZZ want (look st.env s)=some gc) (hx:rd gc st x=(v,p1)) (hv:v.zF=some (.lst (l.map f))) (hi:rd gc st i=(.t (.int kd j),p2)) (hc:l[j]?=some e) (hl:(Nat.beq (f e).length sz&&!(Nat.beq sz 0))=true)
  (hp1:Z9 (p1.map fun p=>!gc||p)) (hp2:Z9 (p2.map fun p=>!gc||p)) (hs:zQ st d (.gd gc (.t (.ptr (f e)))) some=some st') (h':Mid P n m R draw all after live k b ((false,false)::fl) ops st'):Mid P n m R draw all after live k b fl (⟨d,some (s,want),.ia sz x i⟩::ops) st:=by
 have hl1:(f e).length=sz/\sz≠0:=by
  simp only [w0a] at hl;refine ⟨w0s hl.1,?_⟩;rintro rfl;simp at hl
 refine Mid.zaS (v:= .t (.ptr (f e))) (ps:=p1++(p2++[true])) hg ?_ (Yu hx hv) (by simp only [List.map_append,wU];exact ⟨hp1,hp2,by simp [Z9]⟩) hs h';simp only [zk,hx,hi]
 cases v<;>simp_all [V.zF]
theorem Mid.zh7 {x y:Ar} {i j:Nat} (hx:rd true st x=(.t (.int .i64 i),[])) (hy:rd true st y=(.t (.int .i64 j),[])) (h2:i+j<=9223372036854775807) (hs:zQ st d (.t (.int .i64 ((i+j:Nat):Int))) some=some st')
  (h':Mid P n m R draw all after live k b ((false,false)::fl) ops st'):Mid P n m R draw all after live k b fl (⟨d,none,.bin .add x y⟩::ops) st:=
 Mid.val (v:= .t (.int .i64 ((i+j:Nat):Int))) (ps:=[]) (by simp only [zk,hx,hy,z0i];simp;exact wrap64 (by omega) (by omega)) rfl trivial hs h'
theorem Mid.zgh {s:Nat} {want gc:Bool} {x y:Ar} {i jn:Nat} {j:Int} {p1 p2:List Bool} (hg:ZZ want (look st.env s)=some gc) (hx:rd gc st x=(.t (.int .i64 i),p1)) (hy:rd gc st y=(.t (.int .i64 j),p2)) (hj:YG j.toNat some=some jn) (hjn:j=(jn:Int)) (h2:i+jn<=9223372036854775807)
  (hp1:Z9 (p1.map fun p=>!gc||p)) (hp2:Z9 (p2.map fun p=>!gc||p)) (hs:zQ st d (.gd gc (.t (.int .i64 ((i+jn:Nat):Int)))) some=some st')
  (h':Mid P n m R draw all after live k b ((false,false)::fl) ops st'):Mid P n m R draw all after live k b fl (⟨d,some (s,want),.bin .add x y⟩::ops) st:=
 Mid.zaS (v:= .t (.int .i64 ((i+jn:Nat):Int))) (ps:=p1++(p2++[])) hg (by subst hjn;simp only [zk,hx,hy,z0i];simp;exact wrap64 (by omega) (by omega)) rfl (by simp only [List.map_append,wU];exact ⟨hp1,hp2,trivial⟩) hs h'
theorem Mid.zfm {s:Nat} {want gc:Bool} {x y:Ar} {i j:Int} {p1 p2:List Bool} (hg:ZZ want (look st.env s)=some gc) (hx:rd gc st x=(.t (.int .i64 i),p1)) (hy:rd gc st y=(.t (.int .i64 j),p2)) (h1:-9223372036854775808<=i - j) (h2:i - j<=9223372036854775807)
  (hp1:Z9 (p1.map fun p=>!gc||p)) (hp2:Z9 (p2.map fun p=>!gc||p)) (hs:zQ st d (.gd gc (.t (.int .i64 (i - j)))) some=some st')
  (h':Mid P n m R draw all after live k b ((false,false)::fl) ops st'):Mid P n m R draw all after live k b fl (⟨d,some (s,want),.bin .sub x y⟩::ops) st:=
 Mid.zaS (v:= .t (.int .i64 (i - j))) (ps:=p1++(p2++[])) hg (by simp only [zk,hx,hy,z0i];simp [wrap64 h1 h2]) rfl (by simp only [List.map_append,wU];exact ⟨hp1,hp2,trivial⟩) hs h'
theorem Mid.zgU {α:Type} {f:α->List T} {l:List α} {sz:Nat} {x hi:Ar} {v:V} {kd:IntKind} {j:Nat} (hx:rd true st x=(v,[])) (hv:v.zF=some (.lst (l.map f))) (hh:rd true st hi=(.t (.int kd j),[])) (hj:j<=l.length) (hsz:∀x,(f x).length=sz) (hs:zQ st d (.t (.lst ((l.take j).map f))) some=some st')
  (h':Mid P n m R draw all after live k b ((false,false)::fl) ops st'):Mid P n m R draw all after live k b fl (⟨d,none,.sll sz x none (some hi)⟩::ops) st:=
 Mid.val (v:= .t (.lst ((l.take j).map f))) (ps:=[true,true,true,true]) (by simp only [zk,hx,hv,bnd,hh];simp [hj,y6,hsz]) (Yu hx hv) ⟨rfl,rfl,rfl,rfl,trivial⟩ hs h'
theorem Mid.zei {α:Type} {f:α->List T} {l:List α} {sz:Nat} {x lo:Ar} {v:V} {kd:IntKind} {j:Nat} (hx:rd true st x=(v,[])) (hv:v.zF=some (.lst (l.map f))) (hh:rd true st lo=(.t (.int kd j),[])) (hj:j<=l.length) (hsz:∀x,(f x).length=sz) (hs:zQ st d (.t (.lst ((l.drop j).map f))) some=some st')
  (h':Mid P n m R draw all after live k b ((false,false)::fl) ops st'):Mid P n m R draw all after live k b fl (⟨d,none,.sll sz x (some lo) none⟩::ops) st:=
 Mid.val (v:= .t (.lst ((l.drop j).map f))) (ps:=[true,true,true,true]) (by simp only [zk,hx,hv,bnd,hh];simp [hj,y6,hsz,w0w]) (Yu hx hv) ⟨rfl,rfl,rfl,rfl,trivial⟩ hs h'
theorem Mid.Wi {op:AOp} {s:Nat} {want gc:Bool} {l:Bool} (hg:ZZ want (look st.env s)=some gc) (hf:gc=false) (hn:zk gc st op=none) (hl:Z8 st op=l) (hs:zQ st d (.gd false .top) some=some st')
  (h':Mid P n m R draw all after live k b ((l,false)::fl) ops st'):Mid P n m R draw all after live k b fl (⟨d,some (s,want),op⟩::ops) st:=by
 rw [wO] at hg;subst hl;simp only [zQ,V.force_eq,Zn,St.ZB,w00] at hs
 have e:st'=st.app d {v:= .gd false .top,rd:=Z8 st op}:=by rw [←hs];cases d<;>rfl
 rw [e] at h';unfold Mid at h'⊢;simp only [evR,evO,hg,hn]
 refine z7M (fun h=>by rw [hf] at h;cases h) (fun _=>?_)
 simpa using h'
theorem z1I {α:Type} {k:Nat} {o:α}:∀{a b:List (Nat×α)},zl a k=some o->zl (a++b) k=some o
 |[],b,h=>by simp [zl] at h
 |(j,x)::r,b,h=>by
  simp only [w23,zl] at h⊢;split
  ·rename_i e;simpa [e] using h
  ·rename_i e;simp only [e,w0r] at h;exact z1I h
theorem z4.Zy {s:S} {st:St} {rs:List qy} {x r:V} {rd:Bool} {ex:List (Nat×z5)} (hr:z1S st rs=some r) (he:st.s.sto=s.sto++ex) (hn:Nat.ble s.nxt st.s.nxt=true) (hs:zP s.nxt s.sto=true) (h:LeR s.nxt st.s r x):z4 s {v:=x,rd:=rd} rs .ret st:=by
 refine ⟨r,hr,w0x hn,h,.same fun k o hk=>⟨?_,qX hs k o hk⟩⟩;rw [he];exact z1I hk
theorem Run.list {α β:Type} {k k':List It} {c:zV} {st:St} (l:List α) (stf:Nat->β->St) (Inv:List α->Nat->β->Prop) (j:Nat) (b0:β) (hk:yf 200 k= .c (.loop c)::k') (h0:Inv l 0 b0)
  (h1:Nat.ble m j=true) (h2:Nat.ble j st.s.nxt=true) (h3:Nat.ble j (stf 0 b0).s.nxt=true) (he:LeE j (stf 0 b0).s.nxt st.env (stf 0 b0).env) (hs:LeS j (stf 0 b0).s.nxt st.s.sto (stf 0 b0).s.sto)
  (hend:∀b,Inv [] l.length b->Run P n m R (.c c:: .lp c::k') (stf l.length b))
  (hstep:∀(i:Nat) (x:α) (r:List α) (b:β),l[i]?=some x->i<l.length->l.drop (i+1)=r->Inv (x::r) i b->(∀b',Inv r (i+1) b'->Run P n m R (.lp c::k') (stf (i+1) b'))->Run P n m R (.c c:: .lp c::k') (stf i b)):
  Run P n m R k st:=by
 refine Run.loop hk (Run.QA j Z ?_ h1 h2 h3 he hs)
 have key:∀(r:List α) (i:Nat) (b:β),l.drop i=r->i<=l.length->Inv r i b->Run P n m R (.lp c::k') (stf i b):=by
  intro r
  induction r with
  |nil=>
   intro i b hd hi hb;have:=zcO hd
   have e:i=l.length:=by omega
   subst e;exact Run.wQ (hend b hb)
  |cons x r ih=>
   intro i b hd hi hb;obtain ⟨e1,e2,e3⟩:=Qc hd;exact Run.wQ (hstep i x r b e1 e3 e2 hb fun b' hb'=>ih (i+1) b' e2 (by omega) hb')
 exact key l 0 b0 Z (Nat.zero_le _) h0
theorem Run.zgp {β:Type} {k k':List It} {c:zV} {st:St} (stf:β->St) (Inv:β->Prop) (μ:β->Nat) (j:Nat) (b0:β) (hk:yf 200 k= .c (.loop c)::k') (h0:Inv b0)
  (h1:Nat.ble m j=true) (h2:Nat.ble j st.s.nxt=true) (h3:Nat.ble j (stf b0).s.nxt=true) (he:LeE j (stf b0).s.nxt st.env (stf b0).env) (hs:LeS j (stf b0).s.nxt st.s.sto (stf b0).s.sto)
  (hstep:∀(b:β),Inv b->(∀b',μ b'<μ b->Inv b'->Run P n m R (.lp c::k') (stf b'))->Run P n m R (.c c:: .lp c::k') (stf b)):Run P n m R k st:=by
 refine Run.loop hk (Run.QA j Z ?_ h1 h2 h3 he hs)
 have key:∀(f:Nat) (b:β),μ b<f->Inv b->Run P n m R (.lp c::k') (stf b):=by
  intro f
  induction f with
  |zero=>intro b h;omega
  |succ f ih=>intro b h hb;exact Run.wQ (hstep b hb fun b' hlt hb'=>ih b' (by omega) hb')
 exact key (μ b0+1) b0 (by omega) h0
theorem z2n {α:Type} {f:α->List T} {sz:Nat} (h:∀x,(f x).length=sz) (l:List α):y6 sz (l.map f)=true:=by
 simp [y6,h]
inductive Cfg where
 |run (k:List It) (st:St)
 |mid (draw:Bool) (all:List AO) (after:List (List Nat)) (live:List Nat) (k:List It) (b:Nat) (fl:List (Bool×Bool)) (ops:List AO) (st:St)
def Go (P:Program) (n m:Nat) (R:St->Prop):Cfg->Prop
 | .run k st=>Run P n m R k st
 | .mid draw all after live k b fl ops st=>Mid P n m R draw all after live k b fl ops st
def AOp.zgQ:AOp->Bool
 | .ia _ _ _=>true
 | .z9X _ _ _ _=>true
 | .ixs _ _=>true
 | .ixa _ _ _ _ _=>true
 | .len _=>true
 | .bin .add _ _=>true
 | .bin .sub _ _=>true
 | .bin .mul _ _=>true
 | .bin .quo _ _=>true
 | .bin .rem _ _=>true
 | .sls _ _ _=>true
 | .sll _ _ _ _=>true
 | .z7O _=>true
 | .app _ _ _ _=>true
 | .z2v _ _ _ _=>true
 | .nw _=>true
 | .call _ _=>true
 | .z1w _ _=>true
 |_=>false
def W7 {ρ:Type}:Nat->Cfg->List (List Bool)->(Cfg->List (List Bool)->ρ)->ρ
 |0,c,ps,K=>K c ps
 |f+1,.run k st,ps,K=>
  match yf 200 k with
  | .c (.region draw ops after live)::k'=>YG st.s.nxt fun b=>W7 f (.mid draw ops after live k' b [] ops st) ps K
  |k'=>K (.run k' st) ps
 |f+1,.mid draw all after live k b fl [] st,ps,K=>
  match draw with
  |false=>z5G live b st fun st'=>W7 f (.run k st') ps K
  |true=>z5G live b st fun st'=>W7 f (.run k st') ([indep all after fl.reverse st.env]::ps) K
 |f+1,.mid draw all after live k b fl (⟨d,g,op⟩::ops) st,ps,K=>
  match op.zgQ with
  |true=>K (.mid draw all after live k b fl (⟨d,g,op⟩::ops) st) ps
  |false=>
   match g with
   |none=>
    match z8K b st d op with
    |some (b',st',r,c)=>W7 f (.mid draw all after live k b' ((r,c)::fl) ops st') ps K
    |none=>
     match z1L st d op with
     |some ([],st',l)=>W7 f (.mid draw all after live k b ((l,false)::fl) ops st') ps K
     |some (p::q,st',l)=>W7 f (.mid draw all after live k b ((l,false)::fl) ops st') ((p::q)::ps) K
     |none=>K (.mid draw all after live k b fl (⟨d,none,op⟩::ops) st) ps
   |some (s,want)=>
    match stepG st d s want op with
    |some ([],st',l)=>W7 f (.mid draw all after live k b ((l,false)::fl) ops st') ps K
    |some (p::q,st',l)=>W7 f (.mid draw all after live k b ((l,false)::fl) ops st') ((p::q)::ps) K
    |none=>K (.mid draw all after live k b fl (⟨d,some (s,want),op⟩::ops) st) ps
def z1W:List (List Bool)->Prop
 |[]=>True
 |p::r=>Z9 p/\z1W r
theorem YM {ρ:Type}:∀(f:Nat) (c:Cfg) (ps:List (List Bool)) (K:Cfg->List (List Bool)->ρ),∃c' ps',W7 f c ps K=K c' ps'/\(z1W ps'->z1W ps/\(Go P n m R c'->Go P n m R c))
 |0,c,ps,K=>⟨c,ps,rfl,fun h=>⟨h,fun h=>h⟩⟩
 |f+1,.run k st,ps,K=>by
  simp only [W7];split
  ·rename_i draw ops after live k' hk;simp only [w6];obtain ⟨c',ps',h1,h2⟩:=YM f (.mid draw ops after live k' st.s.nxt [] ops st) ps K;refine ⟨c',ps',h1,fun h=>⟨(h2 h).1,fun hg=>Run.region hk (w6 _ _) ((h2 h).2 hg)⟩⟩
  ·exact ⟨_,_,rfl,fun h=>⟨h,fun hg=>Run.adv 200 Z hg⟩⟩
 |f+1,.mid draw all after live k b fl [] st,ps,K=>by
  cases draw with
  |false=>
   simp only [W7];obtain ⟨env,⟨sto,nx⟩⟩:=st;simp only [z5G,Wv];obtain ⟨c',ps',h1,h2⟩:=YM f (.run k ⟨We live env,⟨sto,b⟩⟩) ps K;exact ⟨c',ps',h1,fun h=>⟨(h2 h).1,fun hg=>Mid.z4o (st':=⟨We live env,⟨sto,b⟩⟩) (by simp only [z5G,Wv]) ((h2 h).2 hg)⟩⟩
  |true=>
   simp only [W7];obtain ⟨env,⟨sto,nx⟩⟩:=st;simp only [z5G,Wv];obtain ⟨c',ps',h1,h2⟩:=YM f (.run k ⟨We live env,⟨sto,b⟩⟩) ([indep all after fl.reverse env]::ps) K;refine ⟨c',ps',h1,fun h=>?_⟩;obtain ⟨⟨g1,g2⟩,g3⟩:=h2 h;exact ⟨g2,fun hg=>Mid.done (st':=⟨We live env,⟨sto,b⟩⟩) (by simp only [z5G,Wv]) (fun _=>g1.1) (g3 hg)⟩
 |f+1,.mid draw all after live k b fl (⟨d,g,op⟩::ops) st,ps,K=>by
  simp only [W7];split
  ·exact ⟨_,_,rfl,fun h=>⟨h,fun h=>h⟩⟩
  ·split
   ·split
    ·rename_i b' st' r c he;obtain ⟨c',ps',h1,h2⟩:=YM f (.mid draw all after live k b' ((r,c)::fl) ops st') ps K;exact ⟨c',ps',h1,fun h=>⟨(h2 h).1,fun hg=>Mid.eff he ((h2 h).2 hg)⟩⟩
    ·split
     ·rename_i st' l hs;obtain ⟨c',ps',h1,h2⟩:=YM f (.mid draw all after live k b ((l,false)::fl) ops st') ps K;exact ⟨c',ps',h1,fun h=>⟨(h2 h).1,fun hg=>Mid.zeC hs ((h2 h).2 hg)⟩⟩
     ·rename_i p q st' l hs;obtain ⟨c',ps',h1,h2⟩:=YM f (.mid draw all after live k b ((l,false)::fl) ops st') ((p::q)::ps) K;exact ⟨c',ps',h1,fun h=>⟨(h2 h).1.2,fun hg=>Mid.pure hs (h2 h).1.1 ((h2 h).2 hg)⟩⟩
     ·exact ⟨_,_,rfl,fun h=>⟨h,fun h=>h⟩⟩
   ·split
    ·rename_i st' l hs;obtain ⟨c',ps',h1,h2⟩:=YM f (.mid draw all after live k b ((l,false)::fl) ops st') ps K;exact ⟨c',ps',h1,fun h=>⟨(h2 h).1,fun hg=>Mid.grd hs trivial ((h2 h).2 hg)⟩⟩
    ·rename_i p q st' l hs;obtain ⟨c',ps',h1,h2⟩:=YM f (.mid draw all after live k b ((l,false)::fl) ops st') ((p::q)::ps) K;exact ⟨c',ps',h1,fun h=>⟨(h2 h).1.2,fun hg=>Mid.grd hs (h2 h).1.1 ((h2 h).2 hg)⟩⟩
    ·exact ⟨_,_,rfl,fun h=>⟨h,fun h=>h⟩⟩
def Cfg.zge:Cfg->Bool
 | .run k _=>match yf 200 k with| .c (.region _ _ _ _)::_=>true|_=>false
 | .mid _ _ _ _ _ _ _ [] _=>true
 | .mid _ _ _ _ _ b _ (⟨d,g,op⟩::_) st=>
  match op.zgQ with
  |true=>false
  |false=>
   match g with
   |none=>match z8K b st d op with|some _=>true|none=>match z1L st d op with|some _=>true|none=>false
   |some (s,want)=>match stepG st d s want op with|some _=>true|none=>false
def W3 (f:Nat) (c:Cfg):Option (Cfg×List (List Bool)):=
 match c.zge with
 |true=>W7 f c [] fun c' ps=>some (c',ps)
 |false=>none
theorem Go.W3 {f:Nat} {c c':Cfg} {ps:List (List Bool)} (h:W3 f c=some (c',ps)) (hp:z1W ps) (h':Go P n m R c'):Go P n m R c:=by
 unfold Go.GB.W3 at h;split at h
 ·obtain ⟨c2,ps2,h1,h2⟩:=YM (P:=P) (n:=n) (m:=m) (R:=R) f c [] fun c' ps=>some (c',ps);rw [h1] at h;simp at h;obtain ⟨rfl,rfl⟩:=h;exact (h2 hp).2 h'
 ·cases h
theorem Run.W3 {f:Nat} {k:List It} {st:St} {c':Cfg} {ps:List (List Bool)} (h:W3 f (.run k st)=some (c',ps)) (hp:z1W ps) (h':Go P n m R c'):Run P n m R k st:=Go.W3 (c:= .run k st) h hp h'
theorem Mid.W3 {f:Nat} {c':Cfg} {ps:List (List Bool)} (h:W3 f (.mid draw all after live k b fl ops st)=some (c',ps)) (hp:z1W ps) (h':Go P n m R c'):Mid P n m R draw all after live k b fl ops st:=Go.W3 (c:= .mid draw all after live k b fl ops st) h hp h'
attribute [irreducible] Run Mid
end
section
variable {P:Program} {n m:Nat} {R:St->Prop}
variable {draw:Bool} {all:List AO} {after:List (List Nat)} {live:List Nat} {k:List It} {b:Nat} {fl:List (Bool×Bool)} {ops:List AO} {st st':St} {d:Option Nat} {b':Nat}
theorem fR {k:List It} {st:St} {c':Cfg} {ps:List (List Bool)} (h:W3 200 (.run k st)=some (c',ps)) (h':Go P n m R c') (hp:z1W ps:=by (repeat' (first |exact trivial|exact w0j _|exact yY _|exact yX _|exact grd3 _ _|exact yZ _ _|refine And.intro ?_ ?_|exact rfl|(simp;done)|(simp<;>omega)));done):Run P n m R k st:=
 Run.W3 h hp h'
theorem fM {c':Cfg} {ps:List (List Bool)} (h:W3 200 (.mid draw all after live k b fl ops st)=some (c',ps)) (h':Go P n m R c') (hp:z1W ps:=by (repeat' (first |exact trivial|exact w0j _|exact yY _|exact yX _|exact grd3 _ _|exact yZ _ _|refine And.intro ?_ ?_|exact rfl|(simp;done)|(simp<;>omega)));done):Mid P n m R draw all after live k b fl ops st:=
 Mid.W3 h hp h'
theorem aL {x y:Ar} {i jn:Nat} {j:Int} (hx:rd true st x=(.t (.int .i64 i),[])) (hy:rd true st y=(.t (.int .i64 j),[])) (hj:YG j.toNat some=some jn) (hjn:j=(jn:Int)) (hs:zQ st d (.t (.int .i64 ((i+jn:Nat):Int))) some=some st') (h':Mid P n m R draw all after live k b ((false,false)::fl) ops st') (h2:i+jn<=9223372036854775807:=by omega):Mid P n m R draw all after live k b fl (⟨d,none,.bin .add x y⟩::ops) st:=
 Mid.zgZ hx hy hj hjn h2 hs h'
theorem aN {x y:Ar} {i j:Nat} (hx:rd true st x=(.t (.int .i64 i),[])) (hy:rd true st y=(.t (.int .i64 j),[])) (hs:zQ st d (.t (.int .i64 ((i+j:Nat):Int))) some=some st') (h':Mid P n m R draw all after live k b ((false,false)::fl) ops st') (h2:i+j<=9223372036854775807:=by omega):Mid P n m R draw all after live k b fl (⟨d,none,.bin .add x y⟩::ops) st:=
 Mid.zh7 hx hy h2 hs h'
theorem s64 {x y:Ar} {i j:Int} (hx:rd true st x=(.t (.int .i64 i),[])) (hy:rd true st y=(.t (.int .i64 j),[])) (hs:zQ st d (.t (.int .i64 (i - j))) some=some st') (h':Mid P n m R draw all after live k b ((false,false)::fl) ops st') (h1:-9223372036854775808<=i - j:=by omega) (h2:i - j<=9223372036854775807:=by omega):Mid P n m R draw all after live k b fl (⟨d,none,.bin .sub x y⟩::ops) st:=
 Mid.zgv hx hy h1 h2 hs h'
theorem lM {α:Type} {f:α->List T} {l:List α} {x:Ar} {v:V} (hx:rd true st x=(v,[])) (hv:v.zF=some (.lst (l.map f))) (hs:zQ st d (.t (.int .i64 l.length)) some=some st') (h':Mid P n m R draw all after live k b ((false,false)::fl) ops st'):Mid P n m R draw all after live k b fl (⟨d,none,.len x⟩::ops) st:=
 Mid.zf6 hx hv hs h'
theorem lTo {α:Type} {f:α->List T} {l:List α} {sz:Nat} {x hi:Ar} {v:V} {kd:IntKind} {j:Nat} (hx:rd true st x=(v,[])) (hv:v.zF=some (.lst (l.map f))) (hh:rd true st hi=(.t (.int kd j),[])) (hs:zQ st d (.t (.lst ((l.take j).map f))) some=some st') (h':Mid P n m R draw all after live k b ((false,false)::fl) ops st') (hj:j<=l.length:=by omega) (hsz:∀x,(f x).length=sz:=by intros;rfl):Mid P n m R draw all after live k b fl (⟨d,none,.sll sz x none (some hi)⟩::ops) st:=
 Mid.zgU hx hv hh hj hsz hs h'
theorem lMG {α:Type} {f:α->List T} {l:List α} {s:Nat} {want gc:Bool} {x:Ar} {v:V} {p1:List Bool} (hg:ZZ want (look st.env s)=some gc) (hx:rd gc st x=(v,p1)) (hv:v.zF=some (.lst (l.map f))) (hs:zQ st d (.gd gc (.t (.int .i64 l.length))) some=some st') (h':Mid P n m R draw all after live k b ((false,false)::fl) ops st') (hp1:Z9 (p1.map fun p=>!gc||p):=by (repeat' (first |exact trivial|exact w0j _|exact yY _|exact yX _|exact grd3 _ _|exact yZ _ _|refine And.intro ?_ ?_|exact rfl|(simp;done)|(simp<;>omega)));done):Mid P n m R draw all after live k b fl (⟨d,some (s,want),.len x⟩::ops) st:=
 Mid.zdD hg hx hv hp1 hs h'
theorem aLG {s:Nat} {want gc:Bool} {x y:Ar} {i jn:Nat} {j:Int} {p1 p2:List Bool} (hg:ZZ want (look st.env s)=some gc) (hx:rd gc st x=(.t (.int .i64 i),p1)) (hy:rd gc st y=(.t (.int .i64 j),p2)) (hj:YG j.toNat some=some jn) (hjn:j=(jn:Int)) (hs:zQ st d (.gd gc (.t (.int .i64 ((i+jn:Nat):Int)))) some=some st') (h':Mid P n m R draw all after live k b ((false,false)::fl) ops st') (h2:i+jn<=9223372036854775807:=by omega) (hp1:Z9 (p1.map fun p=>!gc||p):=by (repeat' (first |exact trivial|exact w0j _|exact yY _|exact yX _|exact grd3 _ _|exact yZ _ _|refine And.intro ?_ ?_|exact rfl|(simp;done)|(simp<;>omega)));done) (hp2:Z9 (p2.map fun p=>!gc||p):=by (repeat' (first |exact trivial|exact w0j _|exact yY _|exact yX _|exact grd3 _ _|exact yZ _ _|refine And.intro ?_ ?_|exact rfl|(simp;done)|(simp<;>omega)));done):Mid P n m R draw all after live k b fl (⟨d,some (s,want),.bin .add x y⟩::ops) st:=
 Mid.zgh hg hx hy hj hjn h2 hp1 hp2 hs h'
theorem zgP {s:Nat} {want gc:Bool} {x y:Ar} {i j:Int} {p1 p2:List Bool} (hg:ZZ want (look st.env s)=some gc) (hx:rd gc st x=(.t (.int .i64 i),p1)) (hy:rd gc st y=(.t (.int .i64 j),p2)) (hs:zQ st d (.gd gc (.t (.int .i64 (i - j)))) some=some st') (h':Mid P n m R draw all after live k b ((false,false)::fl) ops st') (h1:-9223372036854775808<=i - j:=by omega) (h2:i - j<=9223372036854775807:=by omega) (hp1:Z9 (p1.map fun p=>!gc||p):=by (repeat' (first |exact trivial|exact w0j _|exact yY _|exact yX _|exact grd3 _ _|exact yZ _ _|refine And.intro ?_ ?_|exact rfl|(simp;done)|(simp<;>omega)));done) (hp2:Z9 (p2.map fun p=>!gc||p):=by (repeat' (first |exact trivial|exact w0j _|exact yY _|exact yX _|exact grd3 _ _|exact yZ _ _|refine And.intro ?_ ?_|exact rfl|(simp;done)|(simp<;>omega)));done):Mid P n m R draw all after live k b fl (⟨d,some (s,want),.bin .sub x y⟩::ops) st:=
 Mid.zfm hg hx hy h1 h2 hp1 hp2 hs h'
theorem p0 {op:AOp} {l:Bool} (h:z1L st d op=some ([],st',l)) (h':Mid P n m R draw all after live k b ((l,false)::fl) ops st'):Mid P n m R draw all after live k b fl (⟨d,none,op⟩::ops) st:=
 Mid.zeC h h'
theorem gr {op:AOp} {s:Nat} {want:Bool} {ps:List Bool} {l:Bool} (h:stepG st d s want op=some (ps,st',l)) (h':Mid P n m R draw all after live k b ((l,false)::fl) ops st') (hp:Z9 ps:=by (repeat' (first |exact trivial|exact w0j _|exact yY _|exact yX _|exact grd3 _ _|exact yZ _ _|refine And.intro ?_ ?_|exact rfl|(simp;done)|(simp<;>omega)));done):Mid P n m R draw all after live k b fl (⟨d,some (s,want),op⟩::ops) st:=
 Mid.grd h hp h'
theorem pu {op:AOp} {ps:List Bool} {l:Bool} (h:z1L st d op=some (ps,st',l)) (h':Mid P n m R draw all after live k b ((l,false)::fl) ops st') (hp:Z9 ps:=by (repeat' (first |exact trivial|exact w0j _|exact yY _|exact yX _|exact grd3 _ _|exact yZ _ _|refine And.intro ?_ ?_|exact rfl|(simp;done)|(simp<;>omega)));done):Mid P n m R draw all after live k b fl (⟨d,none,op⟩::ops) st:=
 Mid.pure h hp h'
theorem byG {s:Nat} {want gc:Bool} {x i:Ar} {kd:IntKind} {j:Nat} {str:List UInt8} {c:UInt8} {p1 p2:List Bool} (hg:ZZ want (look st.env s)=some gc) (hx:rd gc st x=(.t (.str str),p1)) (hi:rd gc st i=(.t (.int kd j),p2)) (hc:str[j]?=some c) (hs:zQ st d (.gd gc (.t (.int .u8 c.toNat))) some=some st') (h':Mid P n m R draw all after live k b ((false,false)::fl) ops st') (hp1:Z9 (p1.map fun p=>!gc||p):=by (repeat' (first |exact trivial|exact w0j _|exact yY _|exact yX _|exact grd3 _ _|exact yZ _ _|refine And.intro ?_ ?_|exact rfl|(simp;done)|(simp<;>omega)));done) (hp2:Z9 (p2.map fun p=>!gc||p):=by (repeat' (first |exact trivial|exact w0j _|exact yY _|exact yX _|exact grd3 _ _|exact yZ _ _|refine And.intro ?_ ?_|exact rfl|(simp;done)|(simp<;>omega)));done):Mid P n m R draw all after live k b fl (⟨d,some (s,want),.ixs x i⟩::ops) st:=
 Mid.zgA hg hx hi hc hp1 hp2 hs h'
theorem elG {α:Type} {f:α->List T} {l:List α} {e:α} {sz j:Nat} {s:Nat} {want gc:Bool} {x i:Ar} {v:V} {kd:IntKind} {p1 p2:List Bool} (hg:ZZ want (look st.env s)=some gc) (hx:rd gc st x=(v,p1)) (hv:v.zF=some (.lst (l.map f))) (hi:rd gc st i=(.t (.int kd j),p2)) (hc:l[j]?=some e) (hl:(Nat.beq (f e).length sz&&!(Nat.beq sz 0))=true) (hs:zQ st d (.gd gc (.t (.ptr (f e)))) some=some st') (h':Mid P n m R draw all after live k b ((false,false)::fl) ops st') (hp1:Z9 (p1.map fun p=>!gc||p):=by (repeat' (first |exact trivial|exact w0j _|exact yY _|exact yX _|exact grd3 _ _|exact yZ _ _|refine And.intro ?_ ?_|exact rfl|(simp;done)|(simp<;>omega)));done) (hp2:Z9 (p2.map fun p=>!gc||p):=by (repeat' (first |exact trivial|exact w0j _|exact yY _|exact yX _|exact grd3 _ _|exact yZ _ _|refine And.intro ?_ ?_|exact rfl|(simp;done)|(simp<;>omega)));done):Mid P n m R draw all after live k b fl (⟨d,some (s,want),.ia sz x i⟩::ops) st:=
 Mid.z6g hg hx hv hi hc hl hp1 hp2 hs h'
theorem caG {f:FuncId} {s:Nat} {want gc:Bool} {args:List Ar} {vs:List V} {ps:List Bool} {x:V} (hg:ZZ want (look st.env s)=some gc) (hv:z2q gc st args (fun vs ps=>some (vs,ps))=some (vs,ps)) (h:gc=true->∃vs',vs=vs'/\z6 P f vs' ⟨[],0⟩ {v:=x}/\V.bds 0 vs'=true) (hx:x.bd 0=true) (hs:zQ st d (.gd gc x) some=some st') (h':Mid P n m R draw all after live k b ((false,false)::fl) ops st') (hp:Z9 (ps.map fun p=>!gc||p):=by (repeat' (first |exact trivial|exact w0j _|exact yY _|exact yX _|exact grd3 _ _|exact yZ _ _|refine And.intro ?_ ?_|exact rfl|(simp;done)|(simp<;>omega)));done):Mid P n m R draw all after live k b fl (⟨d,some (s,want),.call f args⟩::ops) st:=
 Mid.Q2 hg hv hp h hx hs h'
theorem apM {α:Type} (f:α->List T) (l1:List α) (l2:List α) {sz by_ j s nn:Nat} {x y:Ar} (hx:x.u st= .own j s (l1.map f)) (hy:(y.u st).zF=some (.lst (l2.map f))) (hn:zl st.s.sto j=some (.arr nn)) (hs:Nat.beq s sz=true) (hst:z0I b st d {v:= .own j sz ((l1++l2).map f),ob:=[(j,.arr (l1++l2).length)],rd:=true} (fun b' st'=>some (b',st'))=some (b',st')) (h':Mid P n m R draw all after live k b' ((true,true)::fl) ops st') (he:nn=l1.length:=by first |rfl|simp) (hl:∀x,(f x).length=sz:=by intros;rfl) (h1:(l1.length+l2.length)*by_<=140737488355328:=by simp;omega) (h2:l1.length+l2.length<=9223372036854775807:=by simp;omega):Mid P n m R draw all after live k b fl (⟨d,none,.app sz by_ x y⟩::ops) st:=
 Mid.appMap f l1 l2 hx hy hn he hs hl h1 h2 hst h'
theorem apN {α:Type} (f:α->List T) (l2:List α) {sz by_:Nat} {x y:Ar} (hx:x.u st= .zJ) (hy:(y.u st).zF=some (.lst (l2.map f))) (hst:z0I b st d {v:= .own b sz (l2.map f),ob:=[(b,.arr l2.length)],n:=1} (fun b' st'=>some (b',st'))=some (b',st')) (h':Mid P n m R draw all after live k b' ((false,true)::fl) ops st') (hl:∀x,(f x).length=sz:=by intros;rfl) (h1:l2.length*by_<=140737488355328:=by simp;omega) (h2:l2.length<=9223372036854775807:=by simp;omega):Mid P n m R draw all after live k b fl (⟨d,none,.app sz by_ x y⟩::ops) st:=
 Mid.za1 f l2 hx hy hl h1 h2 hst h'
theorem zh {k k':List It} {c:zV} {st st':St} (j:Nat) (hk:yf 200 k= .lp c::k') (h:Run P n m R (.lp c::k') st') (h1:Nat.ble m j=true) (h2:Nat.ble j st.s.nxt=true) (h3:Nat.ble j st'.s.nxt=true) (he:LeE j st'.s.nxt st.env st'.env:=by repeat' (first |exact trivial|exact LeX.t|exact LeX.top|exact LeX.zI (w0x rfl) (w0x rfl)|exact LeX.Zc|exact LeX.Zb|exact LeX.same rfl|exact LeX.tEq (by simp)|exact LeX.ownEq (by simp) (w0x rfl)|exact LeX.Wp (w0x rfl)|exact LeX.fowT|exact LeX.QD (by first |rfl|omega|simp) (by first |rfl|omega|simp) (by first |rfl|omega|(simp;done)|(simp;omega)) (w0x rfl)|exact LeX.fowEq (by first |rfl|omega) (by simp) (w0x rfl)|exact LeO.qF (by first |rfl|omega|simp) (zq.gE (by first |rfl|simp) (fun _=>rfl))|refine LeO.qF (by first |rfl|omega) ?_|exact zq.gE (by first |rfl|simp) (fun _=>rfl)|exact LeO.Ya (by first |rfl|simp)|exact LeX.tEq (by congr 1<;>omega)|exact Or.inr ⟨w0x rfl,w0x rfl,rfl⟩|refine Or.inl ⟨w0x rfl,_,rfl,?_⟩|refine LeO.cells ?_|exact LeO.arr rfl|exact LeO.arr (by simp)|exact LeO.mE (by first |rfl|simp) (by first |exact Or.inl rfl|exact Or.inr rfl)|exact LeO.cE (by first |rfl|simp)|exact zq.cE (by first |rfl|simp)|refine LeO.map (by first |rfl|simp) ?_ (by first |exact Or.inl rfl|exact Or.inr rfl)|exact LeO.iter (by first |rfl|simp) (w0x rfl)|refine zq.cons ?_ ?_|exact zq.nil|refine And.intro ?_ ?_)) (hs:LeS j st'.s.nxt st.s.sto st'.s.sto:=by repeat' (first |exact trivial|exact LeX.t|exact LeX.top|exact LeX.zI (w0x rfl) (w0x rfl)|exact LeX.Zc|exact LeX.Zb|exact LeX.same rfl|exact LeX.tEq (by simp)|exact LeX.ownEq (by simp) (w0x rfl)|exact LeX.Wp (w0x rfl)|exact LeX.fowT|exact LeX.QD (by first |rfl|omega|simp) (by first |rfl|omega|simp) (by first |rfl|omega|(simp;done)|(simp;omega)) (w0x rfl)|exact LeX.fowEq (by first |rfl|omega) (by simp) (w0x rfl)|exact LeO.qF (by first |rfl|omega|simp) (zq.gE (by first |rfl|simp) (fun _=>rfl))|refine LeO.qF (by first |rfl|omega) ?_|exact zq.gE (by first |rfl|simp) (fun _=>rfl)|exact LeO.Ya (by first |rfl|simp)|exact LeX.tEq (by congr 1<;>omega)|exact Or.inr ⟨w0x rfl,w0x rfl,rfl⟩|refine Or.inl ⟨w0x rfl,_,rfl,?_⟩|refine LeO.cells ?_|exact LeO.arr rfl|exact LeO.arr (by simp)|exact LeO.mE (by first |rfl|simp) (by first |exact Or.inl rfl|exact Or.inr rfl)|exact LeO.cE (by first |rfl|simp)|exact zq.cE (by first |rfl|simp)|refine LeO.map (by first |rfl|simp) ?_ (by first |exact Or.inl rfl|exact Or.inr rfl)|exact LeO.iter (by first |rfl|simp) (w0x rfl)|refine zq.cons ?_ ?_|exact zq.nil|refine And.intro ?_ ?_)):Run P n m R k st:=
 Run.QA j hk h h1 h2 h3 he hs
theorem Yz {k k':List It} {c:zV} {st st':St} (j:Nat) (hk:yf 200 k= .c c::k') (h:Run P n m R (.c c::k') st') (h1:Nat.ble m j=true) (h2:Nat.ble j st.s.nxt=true) (h3:Nat.ble j st'.s.nxt=true) (he:LeE j st'.s.nxt st.env st'.env:=by repeat' (first |exact trivial|exact LeX.t|exact LeX.top|exact LeX.zI (w0x rfl) (w0x rfl)|exact LeX.Zc|exact LeX.Zb|exact LeX.same rfl|exact LeX.tEq (by simp)|exact LeX.ownEq (by simp) (w0x rfl)|exact LeX.Wp (w0x rfl)|exact LeX.fowT|exact LeX.QD (by first |rfl|omega|simp) (by first |rfl|omega|simp) (by first |rfl|omega|(simp;done)|(simp;omega)) (w0x rfl)|exact LeX.fowEq (by first |rfl|omega) (by simp) (w0x rfl)|exact LeO.qF (by first |rfl|omega|simp) (zq.gE (by first |rfl|simp) (fun _=>rfl))|refine LeO.qF (by first |rfl|omega) ?_|exact zq.gE (by first |rfl|simp) (fun _=>rfl)|exact LeO.Ya (by first |rfl|simp)|exact LeX.tEq (by congr 1<;>omega)|exact Or.inr ⟨w0x rfl,w0x rfl,rfl⟩|refine Or.inl ⟨w0x rfl,_,rfl,?_⟩|refine LeO.cells ?_|exact LeO.arr rfl|exact LeO.arr (by simp)|exact LeO.mE (by first |rfl|simp) (by first |exact Or.inl rfl|exact Or.inr rfl)|exact LeO.cE (by first |rfl|simp)|exact zq.cE (by first |rfl|simp)|refine LeO.map (by first |rfl|simp) ?_ (by first |exact Or.inl rfl|exact Or.inr rfl)|exact LeO.iter (by first |rfl|simp) (w0x rfl)|refine zq.cons ?_ ?_|exact zq.nil|refine And.intro ?_ ?_)) (hs:LeS j st'.s.nxt st.s.sto st'.s.sto:=by repeat' (first |exact trivial|exact LeX.t|exact LeX.top|exact LeX.zI (w0x rfl) (w0x rfl)|exact LeX.Zc|exact LeX.Zb|exact LeX.same rfl|exact LeX.tEq (by simp)|exact LeX.ownEq (by simp) (w0x rfl)|exact LeX.Wp (w0x rfl)|exact LeX.fowT|exact LeX.QD (by first |rfl|omega|simp) (by first |rfl|omega|simp) (by first |rfl|omega|(simp;done)|(simp;omega)) (w0x rfl)|exact LeX.fowEq (by first |rfl|omega) (by simp) (w0x rfl)|exact LeO.qF (by first |rfl|omega|simp) (zq.gE (by first |rfl|simp) (fun _=>rfl))|refine LeO.qF (by first |rfl|omega) ?_|exact zq.gE (by first |rfl|simp) (fun _=>rfl)|exact LeO.Ya (by first |rfl|simp)|exact LeX.tEq (by congr 1<;>omega)|exact Or.inr ⟨w0x rfl,w0x rfl,rfl⟩|refine Or.inl ⟨w0x rfl,_,rfl,?_⟩|refine LeO.cells ?_|exact LeO.arr rfl|exact LeO.arr (by simp)|exact LeO.mE (by first |rfl|simp) (by first |exact Or.inl rfl|exact Or.inr rfl)|exact LeO.cE (by first |rfl|simp)|exact zq.cE (by first |rfl|simp)|refine LeO.map (by first |rfl|simp) ?_ (by first |exact Or.inl rfl|exact Or.inr rfl)|exact LeO.iter (by first |rfl|simp) (w0x rfl)|refine zq.cons ?_ ?_|exact zq.nil|refine And.intro ?_ ?_)):Run P n m R k st:=
 Run.zgV j hk h h1 h2 h3 he hs
theorem zu {α β:Type} {k k':List It} {c:zV} {st:St} (l:List α) (stf:Nat->β->St) (Inv:List α->Nat->β->Prop) (j:Nat) (b0:β) (hk:yf 200 k= .c (.loop c)::k') (h0:Inv l 0 b0) (h1:Nat.ble m j=true) (h2:Nat.ble j st.s.nxt=true) (h3:Nat.ble j (stf 0 b0).s.nxt=true) (hend:∀b,Inv [] l.length b->Run P n m R (.c c:: .lp c::k') (stf l.length b)) (hstep:∀(i:Nat) (x:α) (r:List α) (b:β),l[i]?=some x->i<l.length->l.drop (i+1)=r->Inv (x::r) i b->(∀b',Inv r (i+1) b'->Run P n m R (.lp c::k') (stf (i+1) b'))->Run P n m R (.c c:: .lp c::k') (stf i b)) (he:LeE j (stf 0 b0).s.nxt st.env (stf 0 b0).env:=by repeat' (first |exact trivial|exact LeX.t|exact LeX.top|exact LeX.zI (w0x rfl) (w0x rfl)|exact LeX.Zc|exact LeX.Zb|exact LeX.same rfl|exact LeX.tEq (by simp)|exact LeX.ownEq (by simp) (w0x rfl)|exact LeX.Wp (w0x rfl)|exact LeX.fowT|exact LeX.QD (by first |rfl|omega|simp) (by first |rfl|omega|simp) (by first |rfl|omega|(simp;done)|(simp;omega)) (w0x rfl)|exact LeX.fowEq (by first |rfl|omega) (by simp) (w0x rfl)|exact LeO.qF (by first |rfl|omega|simp) (zq.gE (by first |rfl|simp) (fun _=>rfl))|refine LeO.qF (by first |rfl|omega) ?_|exact zq.gE (by first |rfl|simp) (fun _=>rfl)|exact LeO.Ya (by first |rfl|simp)|exact LeX.tEq (by congr 1<;>omega)|exact Or.inr ⟨w0x rfl,w0x rfl,rfl⟩|refine Or.inl ⟨w0x rfl,_,rfl,?_⟩|refine LeO.cells ?_|exact LeO.arr rfl|exact LeO.arr (by simp)|exact LeO.mE (by first |rfl|simp) (by first |exact Or.inl rfl|exact Or.inr rfl)|exact LeO.cE (by first |rfl|simp)|exact zq.cE (by first |rfl|simp)|refine LeO.map (by first |rfl|simp) ?_ (by first |exact Or.inl rfl|exact Or.inr rfl)|exact LeO.iter (by first |rfl|simp) (w0x rfl)|refine zq.cons ?_ ?_|exact zq.nil|refine And.intro ?_ ?_)) (hs:LeS j (stf 0 b0).s.nxt st.s.sto (stf 0 b0).s.sto:=by repeat' (first |exact trivial|exact LeX.t|exact LeX.top|exact LeX.zI (w0x rfl) (w0x rfl)|exact LeX.Zc|exact LeX.Zb|exact LeX.same rfl|exact LeX.tEq (by simp)|exact LeX.ownEq (by simp) (w0x rfl)|exact LeX.Wp (w0x rfl)|exact LeX.fowT|exact LeX.QD (by first |rfl|omega|simp) (by first |rfl|omega|simp) (by first |rfl|omega|(simp;done)|(simp;omega)) (w0x rfl)|exact LeX.fowEq (by first |rfl|omega) (by simp) (w0x rfl)|exact LeO.qF (by first |rfl|omega|simp) (zq.gE (by first |rfl|simp) (fun _=>rfl))|refine LeO.qF (by first |rfl|omega) ?_|exact zq.gE (by first |rfl|simp) (fun _=>rfl)|exact LeO.Ya (by first |rfl|simp)|exact LeX.tEq (by congr 1<;>omega)|exact Or.inr ⟨w0x rfl,w0x rfl,rfl⟩|refine Or.inl ⟨w0x rfl,_,rfl,?_⟩|refine LeO.cells ?_|exact LeO.arr rfl|exact LeO.arr (by simp)|exact LeO.mE (by first |rfl|simp) (by first |exact Or.inl rfl|exact Or.inr rfl)|exact LeO.cE (by first |rfl|simp)|exact zq.cE (by first |rfl|simp)|refine LeO.map (by first |rfl|simp) ?_ (by first |exact Or.inl rfl|exact Or.inr rfl)|exact LeO.iter (by first |rfl|simp) (w0x rfl)|refine zq.cons ?_ ?_|exact zq.nil|refine And.intro ?_ ?_)):Run P n m R k st:=
 Run.list l stf Inv j b0 hk h0 h1 h2 h3 he hs hend hstep
theorem z13 {β:Type} {k k':List It} {c:zV} {st:St} (stf:β->St) (Inv:β->Prop) (μ:β->Nat) (j:Nat) (b0:β) (hk:yf 200 k= .c (.loop c)::k') (h0:Inv b0) (h1:Nat.ble m j=true) (h2:Nat.ble j st.s.nxt=true) (h3:Nat.ble j (stf b0).s.nxt=true) (hstep:∀(b:β),Inv b->(∀b',μ b'<μ b->Inv b'->Run P n m R (.lp c::k') (stf b'))->Run P n m R (.c c:: .lp c::k') (stf b)) (he:LeE j (stf b0).s.nxt st.env (stf b0).env:=by repeat' (first |exact trivial|exact LeX.t|exact LeX.top|exact LeX.zI (w0x rfl) (w0x rfl)|exact LeX.Zc|exact LeX.Zb|exact LeX.same rfl|exact LeX.tEq (by simp)|exact LeX.ownEq (by simp) (w0x rfl)|exact LeX.Wp (w0x rfl)|exact LeX.fowT|exact LeX.QD (by first |rfl|omega|simp) (by first |rfl|omega|simp) (by first |rfl|omega|(simp;done)|(simp;omega)) (w0x rfl)|exact LeX.fowEq (by first |rfl|omega) (by simp) (w0x rfl)|exact LeO.qF (by first |rfl|omega|simp) (zq.gE (by first |rfl|simp) (fun _=>rfl))|refine LeO.qF (by first |rfl|omega) ?_|exact zq.gE (by first |rfl|simp) (fun _=>rfl)|exact LeO.Ya (by first |rfl|simp)|exact LeX.tEq (by congr 1<;>omega)|exact Or.inr ⟨w0x rfl,w0x rfl,rfl⟩|refine Or.inl ⟨w0x rfl,_,rfl,?_⟩|refine LeO.cells ?_|exact LeO.arr rfl|exact LeO.arr (by simp)|exact LeO.mE (by first |rfl|simp) (by first |exact Or.inl rfl|exact Or.inr rfl)|exact LeO.cE (by first |rfl|simp)|exact zq.cE (by first |rfl|simp)|refine LeO.map (by first |rfl|simp) ?_ (by first |exact Or.inl rfl|exact Or.inr rfl)|exact LeO.iter (by first |rfl|simp) (w0x rfl)|refine zq.cons ?_ ?_|exact zq.nil|refine And.intro ?_ ?_)) (hs:LeS j (stf b0).s.nxt st.s.sto (stf b0).s.sto:=by repeat' (first |exact trivial|exact LeX.t|exact LeX.top|exact LeX.zI (w0x rfl) (w0x rfl)|exact LeX.Zc|exact LeX.Zb|exact LeX.same rfl|exact LeX.tEq (by simp)|exact LeX.ownEq (by simp) (w0x rfl)|exact LeX.Wp (w0x rfl)|exact LeX.fowT|exact LeX.QD (by first |rfl|omega|simp) (by first |rfl|omega|simp) (by first |rfl|omega|(simp;done)|(simp;omega)) (w0x rfl)|exact LeX.fowEq (by first |rfl|omega) (by simp) (w0x rfl)|exact LeO.qF (by first |rfl|omega|simp) (zq.gE (by first |rfl|simp) (fun _=>rfl))|refine LeO.qF (by first |rfl|omega) ?_|exact zq.gE (by first |rfl|simp) (fun _=>rfl)|exact LeO.Ya (by first |rfl|simp)|exact LeX.tEq (by congr 1<;>omega)|exact Or.inr ⟨w0x rfl,w0x rfl,rfl⟩|refine Or.inl ⟨w0x rfl,_,rfl,?_⟩|refine LeO.cells ?_|exact LeO.arr rfl|exact LeO.arr (by simp)|exact LeO.mE (by first |rfl|simp) (by first |exact Or.inl rfl|exact Or.inr rfl)|exact LeO.cE (by first |rfl|simp)|exact zq.cE (by first |rfl|simp)|refine LeO.map (by first |rfl|simp) ?_ (by first |exact Or.inl rfl|exact Or.inr rfl)|exact LeO.iter (by first |rfl|simp) (w0x rfl)|refine zq.cons ?_ ?_|exact zq.nil|refine And.intro ?_ ?_)):Run P n m R k st:=
 Run.zgp stf Inv μ j b0 hk h0 h1 h2 h3 he hs hstep
end
theorem leSA {m m':Nat} {s s':List (Nat×z5)} (h:LeS m m' s s':=by repeat' (first |exact trivial|exact LeX.t|exact LeX.top|exact LeX.zI (Nat.le_of_ble_eq_true rfl) (Nat.le_of_ble_eq_true rfl)|exact LeX.Zc|exact LeX.Zb|exact LeX.same rfl|exact LeX.tEq (by simp)|exact LeX.ownEq (by simp) (Nat.le_of_ble_eq_true rfl)|exact LeX.tEq (by congr 1<;>omega)|exact Or.inr ⟨Nat.le_of_ble_eq_true rfl,Nat.le_of_ble_eq_true rfl,rfl⟩|refine Or.inl ⟨Nat.le_of_ble_eq_true rfl,_,rfl,?_⟩|refine LeO.cells ?_|exact LeO.arr rfl|exact LeO.arr (by simp)|exact LeO.mE (by first |rfl|simp) (by first |exact Or.inl rfl|exact Or.inr rfl)|exact LeO.cE (by first |rfl|simp)|exact zq.cE (by first |rfl|simp)|refine LeO.map (by first |rfl|simp) ?_ (by first |exact Or.inl rfl|exact Or.inr rfl)|exact LeO.iter (by first |rfl|simp) (Nat.le_of_ble_eq_true rfl)|refine zq.cons ?_ ?_|exact zq.nil|refine And.intro ?_ ?_)):LeS m m' s s':=h
theorem leEA {m m':Nat} {s s':List (Nat×V)} (h:LeE m m' s s':=by repeat' (first |exact trivial|exact LeX.t|exact LeX.top|exact LeX.zI (Nat.le_of_ble_eq_true rfl) (Nat.le_of_ble_eq_true rfl)|exact LeX.Zc|exact LeX.Zb|exact LeX.same rfl|exact LeX.tEq (by simp)|exact LeX.ownEq (by simp) (Nat.le_of_ble_eq_true rfl)|exact LeX.tEq (by congr 1<;>omega)|exact Or.inr ⟨Nat.le_of_ble_eq_true rfl,Nat.le_of_ble_eq_true rfl,rfl⟩|refine Or.inl ⟨Nat.le_of_ble_eq_true rfl,_,rfl,?_⟩|refine LeO.cells ?_|exact LeO.arr rfl|exact LeO.arr (by simp)|exact LeO.mE (by first |rfl|simp) (by first |exact Or.inl rfl|exact Or.inr rfl)|exact LeO.cE (by first |rfl|simp)|exact zq.cE (by first |rfl|simp)|refine LeO.map (by first |rfl|simp) ?_ (by first |exact Or.inl rfl|exact Or.inr rfl)|exact LeO.iter (by first |rfl|simp) (Nat.le_of_ble_eq_true rfl)|refine zq.cons ?_ ?_|exact zq.nil|refine And.intro ?_ ?_)):LeE m m' s s':=h
structure Yb {κ:Type} (ks:List KSh) (ek:κ->List T):Prop where
 ok:∀x,Zj ks (ek x)=true
 eq:∀x y,ZX (ek x) (ek y)=true->x=y
 refl:∀x,ZX (ek x) (ek x)=true
section
variable {κ ν:Type} [DecidableEq κ]
def Z1 (k:κ):List (κ×ν)->Option ν
 |[]=>none
 |e::r=>if k=e.1 then some e.2 else Z1 k r
def yn (k:κ) (v:ν):List (κ×ν)->List (κ×ν)
 |[]=>[(k,v)]
 |e::r=>if k=e.1 then (k,v)::r else e::yn k v r
def z6t (k:κ) (z:ν) (l:List (κ×ν)):List (κ×ν):=
 match Z1 k l with
 |some _=>l
 |none=>l++[(k,z)]
theorem WI (k k':κ) (v:ν):∀(l:List (κ×ν)),Z1 k' (yn k v l)=if k'=k then some v else Z1 k' l
 |[]=>by simp [yn,Z1]
 |e::r=>by
  simp only [yn];by_cases h:k=e.1
  ·subst h;simp only [w0v,Z1]
   split<;>simp_all
  ·simp only [h,w0r,Z1,WI k k' v r];by_cases h2:k'=e.1
   ·subst h2;have:¬ e.1=k:=fun h'=>h h'.symm;simp [this]
   ·simp [h2]
variable {ks:List KSh} {ek:κ->List T} {ev:ν->T}
theorem Yb.iff (he:Yb ks ek) (x y:κ):ZX (ek x) (ek y)=decide (x=y):=by
 by_cases h:x=y
 ·subst h;simp [he.refl]
 ·cases hk:ZX (ek x) (ek y) with
  |false=>simp [h]
  |true=>exact absurd (he.eq x y hk) h
theorem z56 (he:Yb ks ek) (k:κ):∀(l:List (κ×ν)),z3O (ek k) (mE ek ev l)=(Z1 k l).map fun v=> .t (ev v)
 |[]=>rfl
 |e::r=>by
  have:=z56 he k r;simp only [mE] at this;simp only [mE,w0o,z3O,he.iff,Z1,w0n,this]
  split<;>rfl
theorem z99 (he:Yb ks ek) (k:κ) (v:ν):∀(l:List (κ×ν)),z3Q (ek k) (.t (ev v)) (mE ek ev l)=mE ek ev (yn k v l)
 |[]=>rfl
 |e::r=>by
  have:=z99 he k v r;simp only [mE] at this;simp only [mE,w0o,z3Q,he.iff,yn,w0n,this]
  split<;>rfl
theorem wJ (he:Yb ks ek) (l:List (κ×ν)):yp ks (mE ek ev l)=true:=by
 simp [yp,mE,he.ok]
theorem z3k (he:Yb ks ek) (k:κ):∀(l:List (κ×ν)),yd (ek k) (mE ek ev l)=l.findIdx? (fun e=>decide (k=e.1))
 |[]=>rfl
 |e::r=>by
  have:=z3k he k r;simp only [mE] at this;simp only [mE,w0o,yd,he.iff,this,w27]
theorem q9 (k:κ):∀(l:List (κ×ν)),(l.findIdx? (fun e=>decide (k=e.1))=none/\Z1 k l=none)∨∃i v,l.findIdx? (fun e=>decide (k=e.1))=some i/\Z1 k l=some v/\l[i]?=some (k,v)/\∀w,l.modify i (fun e=>(e.1,w))=yn k w l
 |[]=> .inl ⟨rfl,rfl⟩
 |e::r=>by
  by_cases h:k=e.1
  ·refine .inr ⟨0,e.2,by simp [w27,h],by simp [Z1,h],by simp [h],fun w=>by simp [yn,h]⟩
  ·rcases q9 k r with ⟨h1,h2⟩|⟨i,v,h1,h2,h3,h4⟩
   ·exact .inl ⟨by simp [w27,h,h1],by simp [Z1,h,h2]⟩
   ·refine .inr ⟨i+1,v,by simp [w27,h,h1],by simp [Z1,h,h2],by simpa using h3,fun w=>?_⟩
    have:=h4 w;simp [yn,h,this]
theorem zby (k:κ) (z w:ν):∀(l:List (κ×ν)),yn k w (z6t k z l)=yn k w l:=by
 have key:∀(l:List (κ×ν)),Z1 k l=none->yn k w (l++[(k,z)])=yn k w l:=by
  intro l
  induction l with
  |nil=>intro _;simp [yn]
  |cons e r ih=>
   intro h;simp only [Z1] at h;split at h
   ·cases h
   ·rename_i h1;simp [yn,h1,ih h]
 intro l;unfold z6t;split
 ·rfl
 ·rename_i h;exact key l h
end
theorem V.z9r {ν:Type} (ρ:Nat->Nat) (ev:ν->T):∀(l:List ν),V.w7 ρ (cE ev l)=cE ev l
 |[]=>rfl
 |x::r=>by have:=V.z9r ρ ev r;simp only [cE] at this;simp [cE,V.w7,V.ren,this]
theorem z5.zE {ν:Type} (ρ:Nat->Nat) (ev:ν->T) (l:List ν):(z5.cells (cE ev l)).ren ρ= .cells (cE ev l):=by simp [z5.ren,V.z9r]
theorem z5.zD {κ ν:Type} (ρ:Nat->Nat) (kag:Bool) (ek:κ->List T) (ev:ν->T) (l:List (κ×ν)) (sx:Option (Nat×List Nat)):(z5.map kag (mE ek ev l) sx).ren ρ= .map kag (mE ek ev l) sx:=by
 simp [z5.ren,mE,V.ren,Function.comp_def]
def z25 {ρ:Type}:List (Nat×z5)->List (Nat×z5)->(List (Nat×z5)->ρ)->ρ
 |s,[],K=>K s
 |s,(k,o)::r,K=>z4i s k o fun s'=>z25 s' r K
theorem z3u {ρ:Type}:∀(r s:List (Nat×z5)) (K:List (Nat×z5)->ρ),z25 s r K=K (Zr s r)
 |[],s,K=>rfl
 |(k,o)::r,s,K=>by simp only [z25,z0J,z3u r,Zr]
def Yo {ρ:Type} (b:Nat) (st:St) (d:Option Nat) (o:Out) (K:Nat->St->ρ):ρ:=
 YG (b+o.n) fun b'=>o.v.force fun v'=>setEnv st d v' fun e=>z25 st.s.sto o.ob fun sto=>match st with|⟨_,⟨_,nx⟩⟩=>K b' ⟨e,⟨sto,nx⟩⟩
theorem y3 {ρ:Type} (b:Nat) (st:St) (d:Option Nat) (o:Out) (K:Nat->St->ρ):Yo b st d o K=K (b+o.n) (st.app d o):=by
 obtain ⟨env,⟨sto,nx⟩⟩:=st;simp only [Yo,w6,V.force_eq,Zn,z3u]
 cases d<;>rfl
section
variable {P:Program} {n m:Nat} {R:St->Prop}
variable {draw:Bool} {all:List AO} {after:List (List Nat)} {live:List Nat} {k:List It} {b:Nat} {fl:List (Bool×Bool)} {ops:List AO} {st st':St} {d:Option Nat} {b':Nat}
theorem Mid.zdV {op:AOp} {v:V} {ps:List Bool} (hev:zk true st op=some (v,ps)) (hl:Z8 st op=true) (hp:Z9 ps) (hs:zQ st d v some=some st')
  (h':Mid P n m R draw all after live k b ((true,false)::fl) ops st'):Mid P n m R draw all after live k b fl (⟨d,none,op⟩::ops) st:=by
 simp only [zQ,V.force_eq,Zn,St.ZB,w00] at hs
 have e:st'=st.app d {v:=v,rd:=true}:=by rw [←hs];cases d<;>rfl
 rw [e] at h';unfold Mid at h'⊢;simp only [evR,evO,evU,hev,hl]
 exact ⟨hp,by simpa using h'⟩
theorem Mid.zeG {op:AOp} {s:Nat} {want gc:Bool} {v:V} {ps:List Bool} (hg:ZZ want (look st.env s)=some gc) (hev:zk gc st op=some (v,ps)) (hl:Z8 st op=true) (hp:Z9 (ps.map fun p=>!gc||p)) (hs:zQ st d (.gd gc v) some=some st')
  (h':Mid P n m R draw all after live k b ((true,false)::fl) ops st'):Mid P n m R draw all after live k b fl (⟨d,some (s,want),op⟩::ops) st:=by
 rw [wO] at hg;simp only [zQ,V.force_eq,Zn,St.ZB,w00] at hs
 have e:st'=st.app d {v:= .gd gc v,rd:=true}:=by rw [←hs];cases d<;>rfl
 rw [e] at h';unfold Mid at h'⊢;simp only [evR,evO,hg,hev,hl]
 exact ⟨hp,by simpa using h'⟩
theorem z4m {gc:Bool} {v:V} {q:Nat} {p:List Bool} (h:v.un gc=(.mp q,p)):yL v=true:=by
 cases v<;>simp [V.un] at h<;>simp_all [yL]
theorem QN {gc:Bool} {v:V} {q o:Nat} {p:List Bool} (h:v.un gc=(.ptr q o,p)):yL v=true:=by
 cases v<;>simp [V.un] at h<;>simp_all [yL]
section
variable {κ ν:Type} [DecidableEq κ] {ks:List KSh} {kag:Bool} {ek:κ->List T} {ev:ν->T} {l:List (κ×ν)} {sx:Option (Nat×List Nat)} {zv vk:V} {q:Nat} {z:ν} {x y:Ar} {p1 p2:List Bool}
theorem Mid.z9v (k':κ) (hx:rd true st x=(.mp q,[])) (hq:zl st.s.sto q=some (.map kag (mE ek ev l) sx)) (hk:rd true st y=(vk,[])) (hc:qx ks kag vk=some (ek k')) (hz:zv= .t (ev z)) (he:Yb ks ek)
  (hs:zQ st d (.t (ev ((Z1 k' l).getD z))) some=some st')
  (h':Mid P n m R draw all after live k b ((true,false)::fl) ops st'):Mid P n m R draw all after live k b fl (⟨d,none,.nw (.lookup ks kag zv false x y)⟩::ops) st:=by
 subst hz;refine Mid.zdV (v:= .t (ev ((Z1 k' l).getD z))) (ps:=[true,true]) ?_ (z4m hx) ⟨rfl,rfl,trivial⟩ hs h';simp only [zk,Zu,hx,hk,hc,hq,z56 he,wJ he]
 cases Z1 k' l<;>simp [okV]
theorem Mid.zfc {sl:Nat} {want gc:Bool} (k':κ) (hg:ZZ want (look st.env sl)=some gc) (hx:rd gc st x=(.mp q,p1)) (hq:zl st.s.sto q=some (.map kag (mE ek ev l) sx)) (hk:rd gc st y=(vk,p2)) (hc:qx ks kag vk=some (ek k')) (hz:zv= .t (ev z)) (he:Yb ks ek)
  (hp1:Z9 (p1.map fun p=>!gc||p)) (hp2:Z9 (p2.map fun p=>!gc||p)) (hs:zQ st d (.gd gc (.t (ev ((Z1 k' l).getD z)))) some=some st')
  (h':Mid P n m R draw all after live k b ((true,false)::fl) ops st'):Mid P n m R draw all after live k b fl (⟨d,some (sl,want),.nw (.lookup ks kag zv false x y)⟩::ops) st:=by
 subst hz;refine Mid.zeG (v:= .t (ev ((Z1 k' l).getD z))) (ps:=p1++(p2++[true,true])) hg ?_ (z4m hx) (by simp only [List.map_append,wU];exact ⟨hp1,hp2,by simp [Z9]⟩) hs h';simp only [zk,Zu,hx,hk,hc,hq,z56 he,wJ he]
 cases Z1 k' l<;>simp [okV]
theorem Mid.zdO {w:ν} {zz:Ar} (k':κ) (hx:x.u st= .mp q) (hq:zl st.s.sto q=some (.map kag (mE ek ev l) sx)) (hc:qx ks kag (y.u st)=some (ek k')) (hw:zz.u st= .t (ev w)) (he:Yb ks ek)
  (hst:Yo b st d {v:= .top,ob:=[(q,.map kag (mE ek ev (yn k' w l)) none)],rd:=true} (fun b' st'=>some (b',st'))=some (b',st'))
  (h':Mid P n m R draw all after live k b' ((true,true)::fl) ops st'):Mid P n m R draw all after live k b fl (⟨d,none,.nw (.zcg ks kag x y zz)⟩::ops) st:=by
 refine Mid.opX Z ?_;simp only [y3,w00,w04] at hst;obtain ⟨rfl,rfl⟩:=hst;simp only [evX,yg,hx,hc,hq,hw,z99 he];exact ⟨⟨trivial,wJ he l⟩,h'⟩
theorem Mid.zh5 {c:Nat} {bs:List Nat} (k':κ) (hx:x.u st= .mp q) (hq:zl st.s.sto q=some (.map kag (mE ek ev l) (some (c,bs)))) (hlen:bs.length=l.length) (hnd:bs.Nodup) (hlt:∀s,s∈bs->s<c) (hc:qx ks kag (y.u st)=some (ek k')) (hz:zv= .t (ev z)) (he:Yb ks ek)
  (h':∀(s c':Nat) (bs':List Nat),(∀w:ν,∃i,bs'.findIdx? (fun t:Nat=>decide (((t:Nat):Int)=s))=some i/\(z6t k' z l).modify i (fun e=>(e.1,w))=yn k' w l)->
   Mid P n m R draw all after live k b ((true,true)::fl) ops (st.app d {v:= .tup [.t (ev ((Z1 k' l).getD z)),.t (.int .i64 s)],ob:=[(q,.map kag (mE ek ev (z6t k' z l)) (some (c',bs')))],rd:=true})):
  Mid P n m R draw all after live k b fl (⟨d,none,.nw (.zcv ks kag zv x y)⟩::ops) st:=by
 subst hz;refine Mid.opX Z ?_;simp only [evX,yg,hx,hc,hq,z3k he]
 rcases q9 k' l with ⟨e1,e2⟩|⟨i,v,e1,e2,e3,e4⟩
 ·rw [e1];refine ⟨⟨trivial,wJ he l⟩,?_⟩
  have hk:z6t k' z l=l++[(k',z)]:=by simp [z6t,e2]
  have:=h' c (c+1) (bs++[c]) (fun w=>⟨l.length,?_,?_⟩)
  ·simpa [hk,mE,e2] using this
  ·rw [List.findIdx?_append]
   have:bs.findIdx? (fun t:Nat=>decide (((t:Nat):Int)=c))=none:=by
    rw [List.findIdx?_eq_none_iff];intro s hs;have:=hlt s hs;simp;omega
   simp [this,hlen]
  ·rw [hk];have hk2:=zby k' z w l;rw [hk] at hk2;rw [←hk2]
   rcases q9 k' (l++[(k',z)]) with ⟨a1,a2⟩|⟨j,v,a1,a2,a3,a4⟩
   ·rw [List.findIdx?_append,e1] at a1;simp at a1
   ·rw [List.findIdx?_append,e1] at a1;simp at a1;rw [a1];exact a4 w
 ·rw [e1]
  have hes:(mE ek ev l)[i]?=some (ek k',.t (ev v)):=by simp [mE,e3]
  have hi:i<bs.length:=by rw [hlen];exact (w02.1 e3).1
  have hbs:bs[i]?=some bs[i]:=by simp [hi]
  simp only [hes,hbs];refine ⟨⟨trivial,wJ he l⟩,?_⟩
  have hk:z6t k' z l=l:=by simp [z6t,e2]
  have:=h' bs[i] c bs (fun w=>⟨i,?_,by rw [hk];exact e4 w⟩)
  ·simpa [hk,e2] using this
  ·rw [w26]
   refine ⟨hi,by simp,fun j hj=>?_⟩
   simp only [w0n,Int.natCast_inj];exact fun e=>absurd ((List.getElem_inj hnd).1 e) (by omega)
theorem Mid.zgY {c s:Nat} {bs:List Nat} {l':List (κ×ν)} {w:ν} {sa zz:Ar} {kd:IntKind} (k':κ) (hx:x.u st= .mp q) (hsv:sa.u st= .t (.int kd s)) (hq:zl st.s.sto q=some (.map kag (mE ek ev l') (some (c,bs)))) (hw:zz.u st= .t (ev w))
  (hf:∀w:ν,∃i,bs.findIdx? (fun t:Nat=>decide (((t:Nat):Int)=s))=some i/\l'.modify i (fun e=>(e.1,w))=yn k' w l)
  (hst:Yo b st d {v:= .top,ob:=[(q,.map kag (mE ek ev (yn k' w l)) (some (c,bs)))],rd:=true} (fun b' st'=>some (b',st'))=some (b',st'))
  (h':Mid P n m R draw all after live k b' ((true,true)::fl) ops st'):Mid P n m R draw all after live k b fl (⟨d,none,.nw (.zcs x sa zz)⟩::ops) st:=by
 refine Mid.opX Z ?_;simp only [y3,w00,w04] at hst;obtain ⟨rfl,rfl⟩:=hst;obtain ⟨i,h1,h2⟩:=hf w;simp only [evX,yg,hx,hsv,hq,h1,hw]
 have:(mE ek ev l').modify i (fun e=>(e.1,.t (ev w)))=mE ek ev (yn k' w l):=by
  rw [←h2];simp only [mE];apply w1v;intro j;simp only [List.getElem?_modify,w0f];by_cases e:i=j
  ·subst e;cases l'[i]?<;>simp
  ·cases l'[j]?<;>simp [e]
 rw [this];exact h'
end
theorem Mid.z8z {κ ν:Type} (ek:κ->List T) (ev:ν->T) {kag vag:Bool} (hst:Yo b st d {v:= .mp b,ob:=[(b,.map kag (mE ek ev []) (some (0,[])))],n:=1} (fun b' st'=>some (b',st'))=some (b',st'))
  (h':Mid P n m R draw all after live k b' ((false,true)::fl) ops st'):Mid P n m R draw all after live k b fl (⟨d,none,.z3r kag vag⟩::ops) st:=by
 refine Mid.opX Z ?_;simp only [y3,w00,w04] at hst;obtain ⟨rfl,rfl⟩:=hst;simp only [evX];exact h'
theorem Mid.ldE {ν:Type} {ev:ν->T} {l:List ν} {e:ν} {x:Ar} {q o nn:Nat} (hx:rd true st x=(.ptr q o,[])) (hq:zl st.s.sto q=some (.cells (cE ev l))) (he:l[o]?=some e) (hs:zQ st d (.t (ev e)) some=some st')
  (h':Mid P n m R draw all after live k b ((true,false)::fl) ops st'):Mid P n m R draw all after live k b fl (⟨d,none,.ld false nn x⟩::ops) st:=
 Mid.zdV (v:= .t (ev e)) (ps:=[]) (by simp only [zk,hx,hq];simp [cE,he]) (QN hx) trivial hs h'
theorem Mid.stE {ν:Type} {ev:ν->T} {l:List ν} {w:ν} {x v:Ar} {q o:Nat} (hx:x.u st= .ptr q o) (hq:zl st.s.sto q=some (.cells (cE ev l))) (ho:o<l.length) (hv:v.u st= .t (ev w))
  (hst:Yo b st d {v:= .top,ob:=[(q,.cells (cE ev (l.set o w)))],rd:=true} (fun b' st'=>some (b',st'))=some (b',st'))
  (h':Mid P n m R draw all after live k b' ((true,true)::fl) ops st'):Mid P n m R draw all after live k b fl (⟨d,none,.st 1 x v⟩::ops) st:=by
 refine Mid.opX Z ?_;simp only [y3,w00,w04] at hst;obtain ⟨rfl,rfl⟩:=hst;simp only [evX,hx,hq,hv,V.parts]
 refine ⟨⟨by simp [cE];omega,by simp [V.Zq]⟩,?_⟩
 have:setAt (cE ev l) o [V.t (ev w)]=cE ev (l.set o w):=by simp [setAt,cE,List.map_set]
 rw [this];exact h'
theorem Mid.iaS {x i:Ar} {sz q off len:Nat} {kd:IntKind} {z:Nat} (hx:rd true st x=(.slc q off len sz,[])) (hi:rd true st i=(.t (.int kd z),[])) (hz:z<len) (hs:zQ st d (.ptr q (off+z*sz)) some=some st')
  (h':Mid P n m R draw all after live k b ((false,false)::fl) ops st'):Mid P n m R draw all after live k b fl (⟨d,none,.ia sz x i⟩::ops) st:=
 Mid.val (v:= .ptr q (off+z*sz)) (ps:=[true,true]) (by simp only [zk,hx,hi];simp [hz]) (zb3 hx (by simp) rfl) ⟨rfl,rfl,trivial⟩ hs h'
theorem Mid.zeB {x i:Ar} {sz q off len:Nat} {kd:IntKind} {z:Nat} (hx:rd true st x=(.ptr q off,[])) (hi:rd true st i=(.t (.int kd z),[])) (hz:z<len) (hs:zQ st d (.ptr q (off+z*sz)) some=some st')
  (h':Mid P n m R draw all after live k b ((false,false)::fl) ops st'):Mid P n m R draw all after live k b fl (⟨d,none,.z9X len sz x i⟩::ops) st:=
 Mid.val (v:= .ptr q (off+z*sz)) (ps:=[true,true]) (by simp only [zk,hx,hi];simp [hz]) rfl ⟨rfl,rfl,trivial⟩ hs h'
theorem zbj {ν:Type} (ev:ν->T) (zs:List ν) (i:Nat):(List.replicate i (cE ev zs)).flatten=cE ev (List.replicate i zs).flatten:=by
 induction i with
 |zero=>rfl
 |succ i ih=>simp only [List.replicate_succ,w1j,ih];simp [cE]
theorem Mid.zbu {ν:Type} {ev:ν->T} (zs:List ν) {sz by_:Nat} {z:List V} {x:Ar} {kd:IntKind} {i:Nat} (hx:x.u st= .t (.int kd i)) (h1:(i:Int)*by_<=281474976710656) (h2:(i:Int)<=9223372036854775807) (hz:z=cE ev zs) (hl:Nat.beq zs.length sz=true)
  (hst:Yo b st d {v:= .slc b 0 i sz,ob:=[(b,.cells (cE ev (List.replicate i zs).flatten))],n:=1} (fun b' st'=>some (b',st'))=some (b',st'))
  (h':Mid P n m R draw all after live k b' ((false,true)::fl) ops st'):Mid P n m R draw all after live k b fl (⟨d,none,.z2v sz by_ z x⟩::ops) st:=by
 subst hz;have hl':=w0s hl;refine Mid.z2v hx (by omega) h1 h2 (by simp [cE,hl']) ?_ h';rw [←hst];simp only [qD,y3,Int.toNat_natCast,zbj]
theorem Mid.zg2 {x y:Ar} {i jn:Nat} {j:Int} (hx:rd true st x=(.t (.int .i64 i),[])) (hy:rd true st y=(.t (.int .i64 j),[])) (hj:YG j.toNat some=some jn) (hjn:j=(jn:Int)) (h0:0<jn) (h2:i<=9223372036854775807) (hs:zQ st d (.t (.int .i64 ((i/jn:Nat):Int))) some=some st')
  (h':Mid P n m R draw all after live k b ((false,false)::fl) ops st'):Mid P n m R draw all after live k b fl (⟨d,none,.bin .quo x y⟩::ops) st:=by
 have hle:i/jn<=i:=Nat.div_le_self _ _
 refine Mid.val (v:= .t (.int .i64 ((i/jn:Nat):Int))) (ps:=[decide (j≠0)]) ?_ Z ⟨by subst hjn;simp;omega,trivial⟩ hs h'
 subst hjn;simp only [zk,hx,hy,z0i]
 have:((i:Int).tdiv (jn:Int))=((i/jn:Nat):Int):=by rw [Int.tdiv_eq_ediv_of_nonneg (by omega)];rfl
 rw [this]
 have hw:IntKind.i64.wrap ((i/jn:Nat):Int)=((i/jn:Nat):Int):=by
  generalize i/jn=q at hle;exact wrap64 (by omega) (by omega)
 rw [hw];simp
theorem Mid.zgC {x y:Ar} {i jn:Nat} {j:Int} (hx:rd true st x=(.t (.int .i64 i),[])) (hy:rd true st y=(.t (.int .i64 j),[])) (hj:YG j.toNat some=some jn) (hjn:j=(jn:Int)) (h0:0<jn) (hs:zQ st d (.t (.int .i64 ((i%jn:Nat):Int))) some=some st')
  (h':Mid P n m R draw all after live k b ((false,false)::fl) ops st'):Mid P n m R draw all after live k b fl (⟨d,none,.bin .rem x y⟩::ops) st:=by
 refine Mid.val (v:= .t (.int .i64 ((i%jn:Nat):Int))) (ps:=[decide (j≠0)]) ?_ Z ⟨by subst hjn;simp;omega,trivial⟩ hs h'
 subst hjn;simp only [zk,hx,hy,z0i]
 have:((i:Int).tmod (jn:Int))=((i%jn:Nat):Int):=by rw [Int.tmod_eq_emod_of_nonneg (by omega)];rfl
 simp [this]
theorem Sat.z8R {c:zV} {Q:YJ->St->Prop} {q:Nat} {kag:Bool} {es:List (List T×V)} (hq:zl st.s.sto q=some (.map kag es none))
  (h:∀(cl:Nat) (bs:List Nat),bs.length=es.length->bs.Nodup->(∀s,s∈bs->s<cl)->Sat P n m c {env:=st.env,s:={sto:=Yn st.s.sto q (.map kag es (some (cl,bs))),nxt:=st.s.nxt}} Q):Sat P n m c st Q:=by
 intro code h1 h2 h3 C Λ a h4 h5 h6 h7 h8;obtain ⟨hl,bl,ents,clock,e1,e2,e3⟩:=h7.s.sto q _ hq
 have hnd:(ents.toList.map (·.born)).Nodup:=by
  rw [List.nodup_iff_pairwise_ne,List.pairwise_iff_getElem];intro i j hi hj hij he;simp only [w1g,w1m] at hi hj
  have h1:ents[i]?=some ents[i]:=by simp [hi]
  have h2:ents[j]?=some ents[j]:=by simp [hj]
  simp only [List.getElem_map,Array.getElem_toList] at he;have:=e3.apart i j _ _ h1 h2 he;omega
 have:=h clock (ents.toList.map (·.born)) (by simp [e3.size]) hnd (fun s hs=>by
  simp only [w1a] at hs;obtain ⟨e,he,rfl⟩:=hs;obtain ⟨i,hi,hx⟩:=List.mem_iff_getElem.1 he
  have hi':i<ents.size:=by simpa using hi
  exact e3.born i e (by simp [hi',←hx]))
 refine this code h1 h2 h3 C Λ a h4 h5 h6 ⟨h7.kp,h7.size,h7.defers,h7.env,⟨fun k o hk=>?_,h7.s.inj,h7.s.new,h7.s.bnd,h7.s.frz,h7.s.wF,h7.s.wh,h7.s.z22⟩⟩ h8;simp only [Zf] at hk;by_cases e:q=k
 ·subst e;simp at hk;subst hk
  exact ⟨hl,bl,ents,clock,e1,e2,⟨e3.size,e3.at_,e3.born,e3.apart,fun c bs h=>by simp at h;exact h⟩⟩
 ·simp only [e,w0r] at hk;exact h7.s.sto k o hk
theorem Run.z8R {kk:List It} {c:zV} {q:Nat} {kag:Bool} {es:List (List T×V)} (hk:yf 200 k= .c c::kk) (hq:zl st.s.sto q=some (.map kag es none))
  (h:∀(cl:Nat) (bs:List Nat),bs.length=es.length->bs.Nodup->(∀s,s∈bs->s<cl)->Run P n m R (.c c::kk) {env:=st.env,s:={sto:=Yn st.s.sto q (.map kag es (some (cl,bs))),nxt:=st.s.nxt}}):Run P n m R k st:=by
 refine Run.adv 200 hk ?_;unfold Run at h⊢;simp only [ZY] at h⊢;exact Sat.z8R hq h
theorem z6N {ν:Type} (ev:ν->T):∀(l:List ν),(cE ev l).mapM V.zF=some (l.map ev)
 |[]=>rfl
 |x::r=>by have:=z6N ev r;simp only [cE] at this;simp [cE,V.zF,this]
theorem z4.chg {s:S} {out:Out} {rs:List qy} {r:V} (hr:z1S st rs=some r) (hn:Nat.ble (s.nxt+out.n) st.s.nxt=true) (h:LeR (s.nxt+out.n) st.s r out.v) (hs:LeS (s.nxt+out.n) (s.nxt+out.n) st.s.sto (Zr s.sto out.ob)):z4 s out rs .ret st:=
 ⟨r,hr,w0x hn,h,.le hs⟩
def wi (r:List Nat) (b j:Nat):Nat:=match r[j]? with|some k=>k|none=>b+(j - r.length)
def zey (r:List Nat) (b n k:Nat):Option Nat:=
 match r.findIdx? (fun x=>Nat.beq x k) with
 |some j=>some j
 |none=>if b<=k/\k<b+n then some (r.length+(k - b)) else none
def Q0:List Nat->Bool
 |[]=>true
 |x::r=>!(r.any (Nat.beq x))&&Q0 r
theorem z4U:∀{r:List Nat},Q0 r=true->r.Nodup
 |[],_=>List.nodup_nil
 |x::r,h=>by
  simp only [Q0,w0a,w22] at h;refine w1c.2 ⟨fun hm=>?_,z4U h.2⟩
  have:r.any (Nat.beq x)=true:=w2d.2 ⟨x,hm,by simp⟩
  rw [this] at h;cases h.1
theorem zbs {r:List Nat} {b n:Nat} (h1:Q0 r=true) (h2:r.all (fun k=>Nat.blt k b)=true):Rn (wi r b) (zey r b n) r.length b n:=by
 have hnd:=z4U h1
 have hlt:∀k,k∈r->k<b:=by
  intro k hk;have:=w0m.1 h2 k hk;simpa [Nat.blt_eq] using this
 have beq:∀x k,Nat.beq x k=decide (x=k):=by
  intro x k;by_cases e:x=k
  ·subst e;simp
  ·cases hb:Nat.beq x k with
   |false=>simp [e]
   |true=>exact absurd (w0s hb) e
 refine ⟨fun k j h=>?_,fun j hj=>?_,fun j hj=>?_,fun j hj hj'=>?_⟩
 ·unfold zey at h;split at h
  ·rename_i i hi;simp at h;subst h;rw [w26] at hi;obtain ⟨hi,h3,_⟩:=hi
   refine ⟨?_,by omega⟩
   simp [wi,hi];exact w0s h3
  ·split at h
   ·rename_i hh;simp at h;subst h
    refine ⟨?_,by omega⟩
    simp [wi];omega
   ·cases h
 ·unfold wi;by_cases hl:j<r.length
  ·simp only [w09 hl];unfold zey
   have:r.findIdx? (fun x=>Nat.beq x r[j])=some j:=by
    rw [w26]
    refine ⟨hl,by simp,fun i hi=>?_⟩
    rw [beq];simp only [w0n];exact fun e=>absurd ((List.getElem_inj hnd).1 e) (by omega)
   rw [this]
  ·rw [w12 (by omega)];simp only;unfold zey
   have:r.findIdx? (fun x=>Nat.beq x (b+(j - r.length)))=none:=by
    rw [List.findIdx?_eq_none_iff];intro x hx;have:=hlt x hx;rw [beq];simp;omega
   rw [this];simp only;rw [w0c (by omega)];congr 1;omega
 ·simp only [wi,w09 hj];exact hlt _ (List.getElem_mem _)
 ·simp only [wi,w12 (by omega:r.length<=j)]
def za0 (ρ:Nat->Nat) (sto s1:List (Nat×z5)):Nat->Prop
 |0=>True
 |j+1=>zl sto (ρ j)=(zl s1 j).map (z5.ren ρ)/\za0 ρ sto s1 j
theorem z2a {ρ:Nat->Nat} {sto s1:List (Nat×z5)}:∀{m:Nat},za0 ρ sto s1 m->∀j,j<m->zl sto (ρ j)=(zl s1 j).map (z5.ren ρ)
 |0,_,j,hj=>by omega
 |m+1,h,j,hj=>by
  by_cases e:j=m
  ·subst e;exact h.1
  ·exact z2a h.2 j (by omega)
def zcb (s1:List (Nat×z5)) (m n:Nat):List (Nat×z5)->Bool
 |[]=>true
 |(k,_)::r=>Nat.blt k (m+n)&&(s1.any (fun e=>Nat.beq e.1 k)||Nat.ble m k)&&zcb s1 m n r
theorem zck {s:List (Nat×z5)} {k:Nat} (h:s.any (fun e=>Nat.beq e.1 k)=true):zl s k≠none:=by
 induction s with
 |nil=>simp at h
 |cons e r ih=>
  obtain ⟨j,o⟩:=e;simp only [w14,w2j] at h;simp only [zl];split
  ·simp
  ·rename_i hne
   rcases h with h|h
   ·exact absurd (w0s h) hne
   ·exact ih h
theorem z2e {s1:List (Nat×z5)} {m n:Nat}:∀{ob:List (Nat×z5)},zcb s1 m n ob=true->∀k o,(k,o)∈ob->k<m+n/\(zl s1 k≠none∨m<=k)
 |[],_,k,o,h=>by cases h
 |(j,x)::r,h,k,o,hk=>by
  simp only [zcb,w0a,w2j] at h
  rcases w17.1 hk with e|hk
  ·cases e
   refine ⟨by simpa [Nat.blt_eq] using h.1.1,?_⟩
   rcases h.1.2 with h|h
   ·exact .inl (zck h)
   ·exact .inr (w0x h)
  ·exact z2e h.2 k o hk
def wY (ρ:Nat->Nat):List (Nat×z5)->List (Nat×z5)
 |[]=>[]
 |(k,o)::r=>(ρ k,o.ren ρ)::wY ρ r
theorem z3c (ρ:Nat->Nat):∀(l:List (Nat×z5)),wY ρ l=l.map fun e=>(ρ e.1,e.2.ren ρ)
 |[]=>rfl
 |(k,o)::r=>by simp [wY,z3c ρ r]
theorem Mid.Zt {f:FuncId} {args:List Ar} {vs vs':List V} {s1:List (Nat×z5)} {m1:Nat} {out:Out} {v':V} {ob':List (Nat×z5)} {cc:Bool} (r:List Nat) (h:z6 P f vs ⟨s1,m1⟩ out) (hr:(Q0 r&&(r.all (fun k=>Nat.blt k b))&&Nat.beq r.length m1)=true)
  (hv:z1x st args some=some vs') (hvs:V.w7 (wi r b) vs=vs') (hb:V.bds m1 vs=true) (hs1:zP m1 s1=true) (hsub:za0 (wi r b) st.s.sto s1 m1) (hob:zcb s1 m1 out.n out.ob=true)
  (hv':out.v.ren (wi r b)=v') (hob':wY (wi r b) out.ob=ob') (hcc:z02 (!ob'.isEmpty||decide (0<out.n)) some=some cc)
  (hst:Yo b st d {v:=v',ob:=ob',n:=out.n,rd:=true} (fun b' st'=>some (b',st'))=some (b',st'))
  (h':Mid P n m R draw all after live k b' ((true,cc)::fl) ops st'):Mid P n m R draw all after live k b fl (⟨d,none,.call f args⟩::ops) st:=by
 simp only [w0a] at hr;obtain ⟨⟨hr1,hr2⟩,hr3⟩:=hr;have hm:r.length=m1:=w0s hr3;subst hm;rw [qC] at hv;simp at hv;refine Mid.opX Z ?_;simp only [evX];refine QQ.le (Q4.pure _) ?_;rw [hv,←hvs]
 have hat:FnL P f (V.w7 (wi r b) vs) b st.s.sto {v:=v',ob:=ob',n:=out.n,rd:=true}:=by
  intro s' hk;have hrn:=zbs (n:=out.n) hr1 hr2;have:=z6.ren hrn h hb hs1 (fun j hj=>(hk _ (hrn.low j hj)).trans (z2a hsub j hj)) (z2e hob);rw [hv',←z3c,hob'] at this;exact this
 simp only [Ws,w00] at hcc;simp only [y3,w00,w04] at hst;obtain ⟨rfl,rfl⟩:=hst
 refine ⟨{v:=v',ob:=ob',n:=out.n,rd:=true},by simp only [w0v];exact hat,?_⟩
 simp only [hcc];exact h'
theorem Mid.yM {f:FuncId} {args:List Ar} {vs vs':List V} {s1:List (Nat×z5)} {m1:Nat} {x:V} (r:List Nat) (h:z6 P f vs ⟨s1,m1⟩ {v:=x,rd:=true}) (hr:(Q0 r&&(r.all (fun k=>Nat.blt k b))&&Nat.beq r.length m1)=true)
  (hv:z1x st args some=some vs') (hvs:V.w7 (wi r b) vs=vs') (hb:V.bds m1 vs=true) (hs1:zP m1 s1=true) (hsub:za0 (wi r b) st.s.sto s1 m1)
  (hst:zQ st d (x.ren (wi r b)) some=some st')
  (h':Mid P n m R draw all after live k b ((true,false)::fl) ops st'):Mid P n m R draw all after live k b fl (⟨d,none,.call f args⟩::ops) st:=by
 refine Mid.Zt r h hr hv hvs hb hs1 hsub Z Z Z Z (b':=b) (st':=st.app d {v:=x.ren (wi r b),rd:=true}) (by simp only [y3];rfl) ?_;simp only [zQ,V.force_eq,Zn,St.ZB,w00] at hst
 have e:st'=st.app d {v:=x.ren (wi r b),rd:=true}:=by rw [←hst];cases d<;>rfl
 rw [e] at h';exact h'
end
end Go.GB
namespace Go.GB.C26
open Go.GB
structure Pr (P:Program):Prop where
 mixed:P.follows .mixedOrders=true
 i32:z9 P 32=some (n32,c32.bare,r32)
 i33:z9 P 33=some (n33,c33.bare,r33)
 i44:z9 P 44=some (n44,c44.bare,r44)
 i52:z9 P 52=some (n52,c52.bare,r52)
 i26:z9 P 26=some (n26,c26.bare,r26)
 i28:z9 P 28=some (n28,c28.bare,r28)
 i56:z9 P 56=some (n56,c56.bare,r56)
 i80:z9 P 80=some (n80,c80.bare,r80)
 i58:z9 P 58=some (n58,c58.bare,r58)
 i57:z9 P 57=some (n57,c57.bare,r57)
 i69:z9 P 69=some (n69,c69.bare,r69)
 i59:z9 P 59=some (n59,c59.bare,r59)
 i70:z9 P 70=some (n70,c70.bare,r70)
 i47:z9 P 47=some (n47,c47.bare,r47)
 i48:z9 P 48=some (n48,c48.bare,r48)
 i49:z9 P 49=some (n49,c49.bare,r49)
 i79:z9 P 79=some (n79,c79.bare,r79)
 i81:z9 P 81=some (n81,c81.bare,r81)
 i82:z9 P 82=some (n82,c82.bare,r82)
 i83:z9 P 83=some (n83,c83.bare,r83)
 i85:z9 P 85=some (n85,c85.bare,r85)
 i104:z9 P 104=some (n104,c104.bare,r104)
 i105:z9 P 105=some (n105,c105.bare,r105)
 i84:z9 P 84=some (n84,c84.bare,r84)
 i72:z9 P 72=some (n72,c72.bare,r72)
 i106:z9 P 106=some (n106,c106.bare,r106)
 i107:z9 P 107=some (n107,c107.bare,r107)
 i108:z9 P 108=some (n108,c108.bare,r108)
 i109:z9 P 109=some (n109,c109.bare,r109)
variable {P:Program}
abbrev Str:=List UInt8
def sE (s:Str):List T:=[.str s]
def iE (n:Int):T:= .int .i64 n
structure zo where
 ty:Str
 field:Str
 graph:Int
 ext:Bool
 req:List Str
 Zk:List Str
def zo.enc (j:zo):List T:=[.str j.ty,.str j.field,.int .i64 j.graph,.bool j.ext,.lst (j.req.map sE),.lst (j.Zk.map sE)]
structure zA where
 ty:Str
 graph:Int
 fields:List Str
def zA.enc (k:zA):List T:=[.str k.ty,.int .i64 k.graph,.lst (k.fields.map sE)]
structure ze where
 graph:Int
 depth:Int
 Zk:List Str
def ze.enc (x:ze):List T:=[.int .i64 x.graph,.int .i64 x.depth,.lst (x.Zk.map sE)]
structure zH where
 z3:List Str
 doc:T
 keys:List zA
 zr:List zo
theorem qL:Yb [.str] sE:=⟨fun _=>rfl,fun x y h=>by simpa [sE,ZX,T.eqb] using h,fun x=>by simp [sE,ZX,T.eqb]⟩
def zT (a b:Int):Int:=if (a==0||(b !=0&&decide (b<a)))=true then b else a
theorem wM (H:Pr P) (a b:Int):z6 P 79 [.t (.int .i64 a),.t (.int .i64 b)] ⟨[],0⟩ {v:= .t (.int .i64 (zT a b))}:=by
 refine z6.run H.i79 H.mixed Z Z ?_;refine fR Z ?_;refine Run.cond Z Z (fun h=>?_) (fun h=>?_)
 ·refine fR Z ?_;refine Run.fin Z (z4.go ?_);exact .t (by simp only [zT,h,w0v])
 ·refine fR Z ?_;refine Run.fin Z (z4.go ?_);exact .t (by simp only [zT,h];simp)
def Zi (s:Str):List Str->Int->Int
 |[],_=>-1
 |x::r,i=>if s=x then i else Zi s r (i+1)
theorem z2m (H:Pr P) (l:List Str) (hl:l.length<=9223372036854775807) (s:Str):z6 P 109 [.t (.lst (l.map sE)),.t (.str s)] ⟨[],0⟩ {v:= .t (.int .i64 (Zi s l 0))}:=by
 refine z6.run H.i109 H.mixed Z Z ?_;refine fR Z ?_;refine lM Z Z Z ?_;refine fM Z ?_;refine zu l (fun i (_:Unit)=>{env:=[(0,.t (.lst (l.map sE))),(1,.t (.str s)),(7,.t (.int .i64 l.length)),(8,.t (.int .i64 i))],s:=⟨[],0⟩}) (fun r i _=>Zi s l 0=Zi s r i) 0 () Z Z Z Z Z ?_ ?_
 ·intro _ hinv;refine fR Z ?_;refine Run.zf Z Z (by simp) ?_;refine fR Z ?_;refine Run.fin Z (z4.go ?_);exact .t (by simp [hinv,Zi])
 ·intro i x r _ h1 hi hd hinv ih;refine fR Z ?_;refine Run.zj Z Z (by simp;omega) ?_;refine fR Z ?_;refine Mid.za Z Z Z h1 Z Z ?_;refine fM Z ?_;refine Run.cond Z Z (fun h=>?_) (fun h=>?_)
  ·refine fR Z ?_;refine Run.fin Z (z4.go ?_)
   have:s=x:=by simpa using h
   exact .t (by rw [hinv];simp [Zi,this])
  ·refine fR Z ?_;refine aL Z Z Z Z Z ?_;refine fM Z ?_
   have:¬ s=x:=by simpa using h
   exact zh 0 Z (ih () (by rw [hinv];simp [Zi,this])) Z Z Z
theorem WB (s:Str):∀(l:List Str) (i:Int),0<=i->(decide (Zi s l i≥0))=decide (s∈l)
 |[],i,_=>by simp [Zi]
 |x::r,i,hi=>by
  simp only [Zi];by_cases h:s=x
  ·subst h;simp [hi]
  ·simp only [h,w0r,WB s r (i+1) (by omega)];simp [h]
theorem qN (H:Pr P) (l:List Str) (hl:l.length<=9223372036854775807) (s:Str):z6 P 85 [.t (.lst (l.map sE)),.t (.str s)] ⟨[],0⟩ {v:= .t (.bool (decide (s∈l)))}:=by
 refine z6.run H.i85 H.mixed Z Z ?_;refine fR Z ?_;refine Mid.call (z2m H l hl s) Z Z Z Z ?_;refine fM Z ?_;refine Run.fin Z (z4.go ?_);exact .t (by rw [←WB s l 0 (by omega)])
def z31 (s:zH) (sp:List ze) (js:List zo) (ks:List zA) (nb:Nat):List V:=
 [.t (.lst (s.z3.map sE)),.t s.doc,.t (.lst (s.keys.map zA.enc)),.t (.lst (s.zr.map zo.enc)),.t (.lst (sp.map ze.enc)),.t (.lst (js.map zo.enc)),.t (.lst (ks.map zA.enc)),.slc 2 0 nb 8,.mp 1]
def z0U (s:zH) (sp:List ze) (js:List zo) (ks:List zA) (nb:Nat) (F:List (Str×Int)) (A:List Int):List (Nat×z5):=
 [(0,.cells (z31 s sp js ks nb)),(1,.map false (mE sE iE F) none),(2,.cells (cE iE A))]
theorem zK {s:zH} {sp:List ze} {js:List zo} {ks:List zA} {nb:Nat} {F:List (Str×Int)} {A:List Int}:zP 3 (z0U s sp js ks nb F A)=true:=by
 simp [z0U,zP,z31,z5.z6x,z5.z7b];simp [z5.bd,V.bds,V.bd]
section
variable {s:zH} {sp:List ze} {js:List zo} {ks:List zA} {nb:Nat} {F:List (Str×Int)} {A:List Int}
theorem z6P (H:Pr P) (g:Nat) (hg:g<8*nb) (hb:nb<1000):z6 P 80 [.ptr 0 0,.t (.int .i64 g)] ⟨z0U s sp js ks nb F A,3⟩ {v:= .ptr 2 g,rd:=true}:=by
 refine z6.run H.i80 H.mixed Z Z ?_;refine fR Z ?_;refine Mid.zg2 Z Z Z Z (by omega) (by omega) Z ?_;refine fM Z ?_;refine Mid.zgC Z Z Z Z (by omega) Z ?_;refine Mid.iaS Z Z (by omega) Z ?_;refine Mid.zeB Z Z (by omega) Z ?_;refine fM Z ?_;refine Run.fin Z (z4.Zy Z (ex:=[]) Z Z zK (.le (.eq (congrArg (V.ptr 2) (by omega:0+g/8*8+g%8*1=g)) (by rfl))))
end
end Go.GB.C26
namespace Go.GB.C26
open Go.GB
variable {P:Program}
def zo.ok (nb:Nat) (j:zo):Prop:=(0<=j.graph/\j.graph<8*nb)/\j.req.length<=100000/\j.Zk.length<=100000
def zA.ok (k:zA):Prop:=k.fields.length<=100000
def ze.ok (x:ze):Prop:=x.Zk.length<=9223372036854775807
structure NOk (s:zH) (sp:List ze) (js:List zo) (ks:List zA) (nb:Nat) (A:List Int):Prop where
 hnb:nb<1000
 gr:s.z3.length<=8*nb
 z5j:A.length=8*nb
 spL:sp.length<=100000
 jsL:js.length<=100000
 ksL:ks.length<=100000
 spO:∀x∈sp,x.ok
 jsO:∀j∈js,j.ok nb
 ksO:∀k∈ks,k.ok
def tyN:Str:=[95,95,116,121,112,101,110,97,109,101]
def z1D (A:List Int):Nat->Nat->Int->Int
 |_,0,b=>b
 |i,c+1,b=>z1D A (i+1) c (zT b (A.getD i 0))
def zZ (n:Nat) (F:List (Str×Int)) (A:List Int) (f:Str):Int:=
 if f=tyN then z1D A 0 n ((Z1 f F).getD 0) else (Z1 f F).getD 0
def W1 (n:Nat) (F:List (Str×Int)) (A:List Int):List Str->Int->Int
 |[],m=>m
 |f::r,m=>if zZ n F A f=0 then 0 else W1 n F A r (if zZ n F A f>m then zZ n F A f else m)
def y9 (n:Nat) (F:List (Str×Int)) (A:List Int) (g:Int):List zA->Int->Int
 |[],b=>b
 |k::r,b=>y9 n F A g r (if k.graph=g then zT b (W1 n F A k.fields 0) else b)
section
variable {s:zH} {sp:List ze} {js:List zo} {ks:List zA} {nb:Nat} {F:List (Str×Int)} {A:List Int}
theorem z7p (H:Pr P) (hN:NOk s sp js ks nb A) (f:Str):z6 P 57 [.ptr 0 0,.t (.str f)] ⟨z0U s sp js ks nb F A,3⟩ {v:= .t (.int .i64 (zZ s.z3.length F A f)),rd:=true}:=by
 have h1:=hN.hnb;have h2:=hN.gr;have h3:=hN.z5j;refine z6.run H.i57 H.mixed Z Z ?_;refine fR Z ?_;refine Mid.z9v (f) Z Z Z Z Z (qL) Z ?_;refine fM Z ?_;refine Run.cond Z Z (fun hf=>?_) (fun hf=>?_)
 ·refine fR Z ?_;refine lM Z Z Z ?_;refine fM Z ?_;refine zu s.z3 (fun i (b:Int)=>{env:=[(0,.ptr 0 0),(5,.t (.int .i64 b)),(20,.t (.int .i64 s.z3.length)),(21,.t (.int .i64 i))],s:=⟨z0U s sp js ks nb F A,3⟩}) (fun r i b=>zZ s.z3.length F A f=z1D A i r.length b) 3 ((Z1 f F).getD 0) Z (by simp [zZ,(by simpa [tyN] using hf:f=tyN)]) Z Z Z ?_ ?_
  ·intro b hinv;refine fR Z ?_;refine Run.zf Z Z (by simp) ?_;refine fR Z ?_;refine Run.fin Z (z4.Zy Z Z Z (by first |exact rfl|exact zK|exact zM) (.t ((by rw [hinv];rfl))))
  ·intro i x r b h1 hi hd hinv ih;refine fR Z ?_;refine Run.zj Z Z (by simp;omega) ?_;refine fR Z ?_;refine Mid.Wd (z6P H i (by omega) hN.hnb) Z Z (by first |exact rfl|exact zK|exact zM) Z ?_;refine p0 Z ?_;refine Mid.ldE Z Z ((w09 (by omega):A[i]?=some A[i])) Z ?_;skip;refine Mid.call (wM H b A[i]) Z Z Z Z ?_;refine fM Z ?_;refine aL Z Z Z Z Z ?_;refine fM Z ?_;exact zh 3 Z (ih (zT b A[i]) (by rw [hinv];simp [z1D,w0e,show i<A.length by omega])) Z Z Z
 ·refine fR Z ?_
  have hne:¬ f=tyN:=by
   intro h;rw [h] at hf;revert hf;decide
  refine Run.fin Z (z4.Zy Z Z Z (by first |exact rfl|exact zK|exact zM) (.t ((by simp [zZ,hne,iE]))))
theorem zb8 (H:Pr P) (hN:NOk s sp js ks nb A) (l:List Str) (hl:l.length<=100000):z6 P 105 [.ptr 0 0,.t (.lst (l.map sE))] ⟨z0U s sp js ks nb F A,3⟩ {v:= .t (.int .i64 (W1 s.z3.length F A l 0)),rd:=true}:=by
 refine z6.run H.i105 H.mixed Z Z ?_;refine fR Z ?_;refine lM Z Z Z ?_;refine fM Z ?_;refine zu l (fun i (b:Int)=>{env:=[(0,.ptr 0 0),(5,.t (.int .i64 b)),(9,.t (.lst (l.map sE))),(10,.t (.int .i64 l.length)),(11,.t (.int .i64 i))],s:=⟨z0U s sp js ks nb F A,3⟩}) (fun r i b=>W1 s.z3.length F A l 0=W1 s.z3.length F A r b) 3 0 Z Z Z Z Z ?_ ?_
 ·intro b hinv;refine fR Z ?_;refine Run.zf Z Z (by simp) ?_;refine fR Z ?_;refine Run.fin Z (z4.Zy Z Z Z (by first |exact rfl|exact zK|exact zM) (.t ((by rw [hinv];rfl))))
 ·intro i x r b h1 hi hd hinv ih;refine fR Z ?_;refine Run.zj Z Z (by simp;omega) ?_;refine fR Z ?_;refine Mid.za Z Z Z h1 Z Z ?_;refine fM Z ?_;refine Mid.Wd (z7p H hN x) Z Z (by first |exact rfl|exact zK|exact zM) Z ?_;refine fM Z ?_;refine Run.cond Z Z (fun h0=>?_) (fun h0=>?_)
  ·refine fR Z ?_
   have h0':zZ s.z3.length F A x=0:=by simpa using h0
   refine Run.fin Z (z4.Zy Z Z Z (by first |exact rfl|exact zK|exact zM) (.t ((by rw [hinv];simp [W1,h0']))))
  ·refine fR Z ?_;refine aL Z Z Z Z Z ?_;refine fM Z ?_
   have h0':¬ zZ s.z3.length F A x=0:=by simpa using h0
   exact zh 3 Z (ih (if zZ s.z3.length F A x>b then zZ s.z3.length F A x else b) (by rw [hinv];simp only [W1,h0',w0r])) Z Z Z
theorem z3D (H:Pr P) (hN:NOk s sp js ks nb A) (g:Int):z6 P 104 [.ptr 0 0,.t (.int .i64 g)] ⟨z0U s sp js ks nb F A,3⟩ {v:= .t (.int .i64 (y9 s.z3.length F A g ks 0)),rd:=true}:=by
 have h2:=hN.ksL;refine z6.run H.i104 H.mixed Z Z ?_;refine fR Z ?_;refine lM Z Z Z ?_;refine fM Z ?_;refine zu ks (fun i (b:Int)=>{env:=[(0,.ptr 0 0),(1,.t (.int .i64 g)),(5,.t (.int .i64 b)),(11,.t (.lst (ks.map zA.enc))),(12,.t (.int .i64 ks.length)),(13,.t (.int .i64 i))],s:=⟨z0U s sp js ks nb F A,3⟩}) (fun r i b=>y9 s.z3.length F A g ks 0=y9 s.z3.length F A g r b) 3 0 Z Z Z Z Z ?_ ?_
 ·intro b hinv;refine fR Z ?_;refine Run.zf Z Z (by simp) ?_;refine fR Z ?_;refine Run.fin Z (z4.Zy Z Z Z (by first |exact rfl|exact zK|exact zM) (.t ((by rw [hinv];rfl))))
 ·intro i x r b h1 hi hd hinv ih;refine fR Z ?_;refine Run.zj Z Z (by simp;omega) ?_;refine fR Z ?_;refine Mid.za Z Z Z h1 Z Z ?_;refine fM Z ?_;refine Run.cond Z Z (fun hg=>?_) (fun hg=>?_)
  ·refine fR Z ?_
   have hg':x.graph=g:=by simpa using hg
   refine Mid.yM [0,1,2] (zb8 (F:=F) H hN x.fields (hN.ksO x (zMG h1))) Z Z Z Z zK (by repeat' (first |exact trivial|exact rfl|refine And.intro ?_ ?_|exact (congrArg some (z5.zD _ _ _ _ _ _)).symm|exact (congrArg some (z5.zE _ _ _)).symm)) Z ?_
   skip;refine Mid.call (wM H b (W1 s.z3.length F A x.fields 0)) Z Z Z Z ?_;refine fM Z ?_;refine aL Z Z Z Z Z ?_;refine fM Z ?_;exact zh 3 Z (ih (zT b (W1 s.z3.length F A x.fields 0)) (by rw [hinv];simp only [y9,hg',w0v])) Z Z Z
  ·refine fR Z ?_;refine aL Z Z Z Z Z ?_;refine fM Z ?_
   have hg':¬ x.graph=g:=by simpa using hg
   exact zh 3 Z (ih b (by rw [hinv];simp only [y9,hg',w0r])) Z Z Z
end
end Go.GB.C26
namespace Go.GB.C26
open Go.GB
variable {P:Program}
def z0R (j:zo):List ze->Int->Int
 |[],b=>b
 |x::r,b=>z0R j r (if (x.graph==j.graph&&decide (j.field∈x.Zk))=true then zT b x.depth else b)
def up (k m:Int):Int:=IntKind.i64.wrap ((if m>k then m else k)+1)
def Zh (n:Nat) (sp:List ze) (ks:List zA) (F:List (Str×Int)) (A:List Int) (j:zo):Int:=
 if j.ext=true then z0R j sp 0
 else if j.req.length=0 then A.getD j.graph.toNat 0
 else if (y9 n F A j.graph ks 0==0||W1 n F A j.req 0==0)=true then 0
 else up (y9 n F A j.graph ks 0) (W1 n F A j.req 0)
section
variable {s:zH} {sp:List ze} {js:List zo} {ks:List zA} {nb:Nat} {F:List (Str×Int)} {A:List Int}
theorem z94 (H:Pr P) (hN:NOk s sp js ks nb A) (j:zo) (hj:j.ok nb):z6 P 69 [.ptr 0 0,.agg [.t (.str j.ty),.t (.str j.field),.t (.int .i64 j.graph),.t (.bool j.ext),.t (.lst (j.req.map sE)),.t (.lst (j.Zk.map sE))]] ⟨z0U s sp js ks nb F A,3⟩ {v:= .t (.int .i64 (Zh s.z3.length sp ks F A j)),rd:=true}:=by
 have h2:=hN.spL;have h3:=hN.z5j;have h4:=hN.hnb;obtain ⟨⟨hg0,hg1⟩,hq,hp⟩:=hj;refine z6.run H.i69 H.mixed Z Z ?_;refine fR Z ?_;refine Run.cond Z Z (fun he=>?_) (fun he=>?_)
 ·refine fR Z ?_;refine lM Z Z Z ?_;refine fM Z ?_;refine zu sp (fun i (b:Int)=>{env:=[(3,.ptr 3 0),(5,.t (.int .i64 b)),(15,.t (.lst (sp.map ze.enc))),(16,.t (.int .i64 sp.length)),(17,.t (.int .i64 i))],s:=⟨z0U s sp js ks nb F A++[(3,.cells [.t (.str j.ty),.t (.str j.field),.t (.int .i64 j.graph),.t (.bool j.ext),.t (.lst (j.req.map sE)),.t (.lst (j.Zk.map sE))])],4⟩}) (fun r i b=>Zh s.z3.length sp ks F A j=z0R j r b) 4 0 Z (by simp [Zh,he]) Z Z Z ?_ ?_
  ·intro b hinv;refine fR Z ?_;refine Run.zf Z Z (by simp) ?_;refine fR Z ?_;refine Run.fin Z (z4.Zy Z Z Z (by first |exact rfl|exact zK|exact zM) (.t ((by rw [hinv];rfl))))
  ·intro i x r b h1 hi hd hinv ih;refine fR Z ?_;refine Run.zj Z Z (by simp;omega) ?_;refine fR Z ?_;refine Mid.za Z Z Z h1 Z Z ?_;refine fM Z ?_;refine caG Z Z (fun hg=>⟨_,rfl,qN H x.Zk (hN.spO x (zMG h1)) j.field,rfl⟩) Z Z ?_;refine fM Z ?_;refine Run.cond Z Z (fun hc=>?_) (fun hc=>?_)
   ·refine fR Z ?_;refine Mid.call (wM H b x.depth) Z Z Z Z ?_;refine fM Z ?_;refine aL Z Z Z Z Z ?_;refine fM Z ?_;exact zh 4 Z (ih (zT b x.depth) (by rw [hinv];simp only [z0R,hc,w0v])) Z Z Z
   ·refine fR Z ?_;refine aL Z Z Z Z Z ?_;refine fM Z ?_;exact zh 4 Z (ih b (by rw [hinv];simp only [z0R,hc];simp)) Z Z Z
 ·refine fR Z ?_;refine lM Z Z Z ?_;refine fM Z ?_;refine Run.cond Z Z (fun hr=>?_) (fun hr=>?_)
  ·refine fR Z ?_;obtain ⟨g,hg⟩:=Int.eq_ofNat_of_zero_le hg0;rw [hg]
   refine Mid.yM [0,1,2] (z6P (s:=s) (sp:=sp) (js:=js) (ks:=ks) (F:=F) (A:=A) H g (by omega) hN.hnb) Z Z Z Z zK (by repeat' (first |exact trivial|exact rfl|refine And.intro ?_ ?_|exact (congrArg some (z5.zD _ _ _ _ _ _)).symm|exact (congrArg some (z5.zE _ _ _)).symm)) Z ?_
   refine p0 Z ?_;refine Mid.ldE Z Z ((w09 (by omega):A[g]?=some A[g])) Z ?_;refine fM Z ?_
   have hr':j.req.length=0:=by simpa using hr
   refine Run.fin Z (z4.Zy Z Z Z (by first |exact rfl|exact zK|exact zM) (.t ((by simp [Zh,he,hr',hg,iE,w0e,show g<A.length by omega]))))
  ·refine fR Z ?_
   have hr':¬ j.req.length=0:=by simpa using hr
   refine Mid.yM [0,1,2] (z3D (F:=F) H hN j.graph) Z Z Z Z zK (by repeat' (first |exact trivial|exact rfl|refine And.intro ?_ ?_|exact (congrArg some (z5.zD _ _ _ _ _ _)).symm|exact (congrArg some (z5.zE _ _ _)).symm)) Z ?_
   refine fM Z ?_
   refine Mid.yM [0,1,2] (zb8 (F:=F) H hN j.req hq) Z Z Z Z zK (by repeat' (first |exact trivial|exact rfl|refine And.intro ?_ ?_|exact (congrArg some (z5.zD _ _ _ _ _ _)).symm|exact (congrArg some (z5.zE _ _ _)).symm)) Z ?_
   refine fM Z ?_;refine Run.cond Z Z (fun hz=>?_) (fun hz=>?_)
   ·refine fR Z ?_;refine Run.fin Z (z4.Zy Z Z Z (by first |exact rfl|exact zK|exact zM) (.t ((by simp only [Zh,he,hr',hz];simp))))
   ·refine fR Z ?_;refine p0 Z ?_;refine fM Z ?_;refine Run.fin Z (z4.Zy Z Z Z (by first |exact rfl|exact zK|exact zM) (.t ((by simp only [Zh,he,hr',hz,up];simp))))
end
end Go.GB.C26
namespace Go.GB.C26
open Go.GB
variable {P:Program}
def gR (n:Nat) (F:List (Str×Int)) (ks:List zA):Nat->Nat->List Int->Bool->List Int×Bool
 |_,0,A,ch=>(A,ch)
 |i,c+1,A,ch=>
  if y9 n F A i ks 0>0 then
   if zT (A.getD i 0) (IntKind.i64.wrap (y9 n F A i ks 0+1))≠A.getD i 0 then gR n F ks (i+1) c (A.set i (zT (A.getD i 0) (IntKind.i64.wrap (y9 n F A i ks 0+1)))) true
   else gR n F ks (i+1) c A ch
  else gR n F ks (i+1) c A ch
def jR (n:Nat) (sp:List ze) (ks:List zA) (A:List Int):List zo->List (Str×Int)->Bool->List (Str×Int)×Bool
 |[],F,ch=>(F,ch)
 |j::r,F,ch=>
  if zT ((Z1 j.field F).getD 0) (Zh n sp ks F A j)≠(Z1 j.field F).getD 0 then jR n sp ks A r (yn j.field (zT ((Z1 j.field F).getD 0) (Zh n sp ks F A j)) F) true
  else jR n sp ks A r F ch
def ZM (n:Nat) (sp:List ze) (js:List zo) (ks:List zA) (F:List (Str×Int)) (A:List Int):List (Str×Int)×List Int×Bool:=
 ((jR n sp ks (gR n F ks 0 n A false).1 js F (gR n F ks 0 n A false).2).1,(gR n F ks 0 n A false).1,(jR n sp ks (gR n F ks 0 n A false).1 js F (gR n F ks 0 n A false).2).2)
section
variable {s:zH} {sp:List ze} {js:List zo} {ks:List zA} {nb:Nat} {F:List (Str×Int)} {A:List Int}
theorem NOk.set (hN:NOk s sp js ks nb A) (i:Nat) (x:Int):NOk s sp js ks nb (A.set i x):=
 {hN with z5j:=by rw [List.length_set];exact hN.z5j}
theorem z9c (hN:NOk s sp js ks nb A):∀(c i:Nat) (A:List Int) (ch:Bool),NOk s sp js ks nb A->NOk s sp js ks nb (gR s.z3.length F ks i c A ch).1
 |0,i,A,ch,h=>h
 |c+1,i,A,ch,h=>by
  simp only [gR];split
  ·split
   ·exact z9c hN c _ _ _ (h.set _ _)
   ·exact z9c hN c _ _ _ h
  ·exact z9c hN c _ _ _ h
theorem zbV (H:Pr P) (hN:NOk s sp js ks nb A):z6 P 81 [.ptr 0 0] ⟨z0U s sp js ks nb F A,3⟩
  {v:= .t (.bool (ZM s.z3.length sp js ks F A).2.2),ob:=[(1,.map false (mE sE iE (ZM s.z3.length sp js ks F A).1) none),(2,.cells (cE iE (ZM s.z3.length sp js ks F A).2.1))],rd:=true}:=by
 have h2:=hN.hnb;have h3:=hN.gr;have h4:=hN.jsL;refine z6.run H.i81 H.mixed Z Z ?_;refine fR Z ?_;refine lM Z Z Z ?_;refine fM Z ?_;refine zu s.z3 (fun i (b:List Int×Bool)=>{env:=[(0,.ptr 0 0),(3,.t (.bool b.2)),(15,.t (.int .i64 s.z3.length)),(16,.t (.int .i64 i))],s:=⟨z0U s sp js ks nb F b.1,3⟩}) (fun r i b=>NOk s sp js ks nb b.1/\gR s.z3.length F ks 0 s.z3.length A false=gR s.z3.length F ks i r.length b.1 b.2) 3 (A,false) Z ⟨hN,rfl⟩ Z Z Z ?_ ?_
 ·rintro ⟨A',ch⟩ ⟨hN',hinv⟩;refine fR Z ?_;refine Run.zf Z Z (by simp) ?_;refine fR Z ?_;refine lM Z Z Z ?_;refine fM Z ?_;refine zu js (fun i (b:List (Str×Int)×Bool)=>{env:=[(0,.ptr 0 0),(3,.t (.bool b.2)),(48,.t (.lst (js.map zo.enc))),(49,.t (.int .i64 js.length)),(50,.t (.int .i64 i))],s:=⟨z0U s sp js ks nb b.1 A',3⟩}) (fun r i b=>jR s.z3.length sp ks A' js F ch=jR s.z3.length sp ks A' r b.1 b.2) 3 (F,ch) Z Z Z Z Z ?_ ?_
  ·rintro ⟨F',ch'⟩ hinv';refine fR Z ?_;refine Run.zf Z Z (by simp) ?_;refine fR Z ?_
   have e1:gR s.z3.length F ks 0 s.z3.length A false=(A',ch):=by rw [hinv];rfl
   have e2:ZM s.z3.length sp js ks F A=(F',A',ch'):=by
    have:jR s.z3.length sp ks A' js F ch=(F',ch'):=by rw [hinv'];rfl
    simp only [ZM,e1,this]
   rw [e2];refine Run.fin Z (z4.chg Z Z (.t Z) ?_);exact leSA
  ·rintro i x r ⟨F',ch'⟩ h1 hi hd hinv' ih;refine fR Z ?_;refine Run.zj Z Z (by simp;omega) ?_;refine fR Z ?_;refine Mid.za Z Z Z h1 Z Z ?_;refine fM Z ?_;refine Mid.z9v (x.field) Z Z Z Z Z (qL) Z ?_;refine fM Z ?_
   refine Mid.yM [0,1,2] (z94 (F:=F') H hN' x (hN.jsO x (zMG h1))) Z Z Z Z zK (by repeat' (first |exact trivial|exact rfl|refine And.intro ?_ ?_|exact (congrArg some (z5.zD _ _ _ _ _ _)).symm|exact (congrArg some (z5.zE _ _ _)).symm)) Z ?_
   skip;refine Mid.call (wM H ((Z1 x.field F').getD 0) (Zh s.z3.length sp ks F' A' x)) Z Z Z Z ?_;refine fM Z ?_;refine Mid.z9v (x.field) Z Z Z Z Z (qL) Z ?_;refine fM Z ?_;refine Run.cond Z Z (fun hc=>?_) (fun hc=>?_)
   ·refine Run.z8R (q:=1) Z Z (fun cl bs hl hn hlt=>?_);refine fR Z ?_;refine Mid.zh5 (x.field) Z Z (by simpa [mE] using hl) hn hlt Z Z (qL) (fun zs zc zb hf=>?_);refine fM Z ?_;refine Mid.zgY _ Z Z Z Z hf Z ?_;refine fM Z ?_;refine aL Z Z Z Z Z ?_;refine fM Z ?_
    have hc':zT ((Z1 x.field F').getD 0) (Zh s.z3.length sp ks F' A' x)≠(Z1 x.field F').getD 0:=by simpa [iE] using hc
    exact zh 3 Z (ih (yn x.field (zT ((Z1 x.field F').getD 0) (Zh s.z3.length sp ks F' A' x)) F',true) (by rw [hinv'];simp only [jR,hc',w0v];simp [hc'])) Z Z Z
   ·refine fR Z ?_;refine aL Z Z Z Z Z ?_;refine fM Z ?_
    have hc':zT ((Z1 x.field F').getD 0) (Zh s.z3.length sp ks F' A' x)=(Z1 x.field F').getD 0:=by simpa [iE] using hc
    exact zh 3 Z (ih (F',ch') (by rw [hinv'];simp [jR,hc'])) Z Z Z
 ·rintro i x r ⟨A',ch⟩ h1 hi hd ⟨hN',hinv⟩ ih;refine fR Z ?_;refine Run.zj Z Z (by simp;omega) ?_;refine fR Z ?_;refine Mid.Wd (z3D (F:=F) H hN' i) Z Z (by first |exact rfl|exact zK|exact zM) Z ?_;refine fM Z ?_
  have hiA:i<A'.length:=by
   have:=hN'.z5j;simp only at this;omega
  have hgd:A'[i]?=some (A'.getD i 0):=by rw [w0e,w09 hiA];rfl
  refine Run.cond Z Z (fun hk=>?_) (fun hk=>?_)
  ·have hk':y9 s.z3.length F A' i ks 0>0:=by simpa using hk
   refine fR Z ?_;refine Mid.Wd (z6P H i (by omega) hN.hnb) Z Z (by first |exact rfl|exact zK|exact zM) Z ?_;refine p0 Z ?_;refine Mid.ldE Z Z (hgd) Z ?_;refine fM Z ?_;refine p0 Z ?_;refine Mid.call (wM H (A'.getD i 0) (IntKind.i64.wrap (y9 s.z3.length F A' i ks 0+1))) Z Z Z Z ?_;refine fM Z ?_;refine Mid.Wd (z6P H i (by omega) hN.hnb) Z Z (by first |exact rfl|exact zK|exact zM) Z ?_;refine p0 Z ?_;refine Mid.ldE Z Z (hgd) Z ?_;refine fM Z ?_;refine Run.cond Z Z (fun hc=>?_) (fun hc=>?_)
   ·refine fR Z ?_;refine Mid.Wd (z6P H i (by omega) hN.hnb) Z Z (by first |exact rfl|exact zK|exact zM) Z ?_;refine p0 Z ?_;refine p0 Z ?_;refine Mid.stE Z Z (hiA) Z Z ?_;refine fM Z ?_;refine aL Z Z Z Z Z ?_;refine fM Z ?_
    have hc':zT (A'.getD i 0) (IntKind.i64.wrap (y9 s.z3.length F A' i ks 0+1))≠A'.getD i 0:=by simpa [iE] using hc
    exact zh 3 Z (ih (A'.set i (zT (A'.getD i 0) (IntKind.i64.wrap (y9 s.z3.length F A' i ks 0+1))),true) ⟨hN'.set _ _,by rw [hinv];simp only [w0b,gR,hk',w0v];rw [w0c hc']⟩) rfl rfl rfl
   ·refine fR Z ?_;refine aL Z Z Z Z Z ?_;refine fM Z ?_
    have hc':zT (A'.getD i 0) (IntKind.i64.wrap (y9 s.z3.length F A' i ks 0+1))=A'.getD i 0:=by simpa [iE] using hc
    exact zh 3 Z (ih (A',ch) ⟨hN',by rw [hinv];simp only [w0b,gR,hk',w0v];rw [w0d (fun h=>h hc')]⟩) rfl rfl rfl
  ·refine fR Z ?_;refine aL Z Z Z Z Z ?_;refine fM Z ?_
   have hk':¬ y9 s.z3.length F A' i ks 0>0:=by simpa using hk
   exact zh 3 Z (ih (A',ch) ⟨hN',by rw [hinv];simp [gR,hk']⟩) rfl rfl rfl
end
end Go.GB.C26
namespace Go.GB.C26
open Go.GB
variable {P:Program}
theorem zbx (H:Pr P) {a0 a1 a2 a3:T} {sp:List ze} {F:List (Str×Int)} {A:List Int} {nb:Nat} (g:Nat) (hg:g<8*nb) (hb:nb<1000):
  z6 P 80 [.ptr 0 0,.t (.int .i64 g)] ⟨[(0,.cells [.t a0,.t a1,.t a2,.t a3,.own 3 3 (sp.map ze.enc),.zJ,.zJ,.slc 2 0 nb 8,.mp 1]),(1,.map false (mE sE iE F) none),(2,.cells (cE iE A)),(3,.arr sp.length)],4⟩ {v:= .ptr 2 g,rd:=true}:=by
 refine z6.run H.i80 H.mixed Z Z ?_;refine fR Z ?_;refine Mid.zg2 Z Z Z Z (by omega) (by omega) Z ?_;refine fM Z ?_;refine Mid.zgC Z Z Z Z (by omega) Z ?_;refine Mid.iaS Z Z (by omega) Z ?_;refine Mid.zeB Z Z (by omega) Z ?_;refine fM Z ?_;refine Run.fin Z (z4.Zy Z (ex:=[]) Z Z (by simp [zP,z5.z6x,z5.z7b];simp [z5.bd,V.bds,V.bd]) (.le (.eq (congrArg (V.ptr 2) (by omega:0+g/8*8+g%8*1=g)) (by rfl))))
def inb (n:Nat) (x:ze):Bool:=decide (x.graph≥0)&&decide (x.graph<n)&&decide (x.depth≥1)&&decide (x.depth<=1099511627776)
def yG (n:Nat):List ze->List ze->List Int->List ze×List Int
 |[],sp,A=>(sp,A)
 |x::r,sp,A=>if inb n x=true then yG n r (sp++[x]) (A.set x.graph.toNat (zT (A.getD x.graph.toNat 0) x.depth)) else yG n r sp A
def lvE (p:Str×Int):List T:=[.str p.1,.int .i64 p.2,.int .i64 0]
def bE (b:Bool):T:= .bool b
theorem zbp:Yb [.str,.int .i64,.int .i64] lvE:=
 ⟨fun _=>rfl,fun x y h=>by simp [lvE,ZX,T.eqb] at h;exact Prod.ext h.1 h.2,fun x=>by simp [lvE,ZX,T.eqb]⟩
def inj (n:Nat) (name:Str) (seen:List ((Str×Int)×Bool)) (j:zo):Bool:=(j.ty==name)&&decide (j.graph≥0)&&decide (j.graph<n)&&!((Z1 (j.field,j.graph) seen).getD false)
def wz (n:Nat) (name:Str):List zo->List zo->List ((Str×Int)×Bool)->List zo
 |[],js,_=>js
 |j::r,js,seen=>if inj n name seen j=true then wz n name r (js++[j]) (yn (j.field,j.graph) true seen) else wz n name r js seen
def ink (n:Nat) (name:Str) (k:zA):Bool:=(k.ty==name)&&decide (k.graph≥0)&&decide (k.graph<n)
def Y9 (n:Nat) (name:Str):List zA->List zA->List zA
 |[],ks=>ks
 |k::r,ks=>if ink n name k=true then Y9 n name r (ks++[k]) else Y9 n name r ks
def z1v (n:Nat) (sp:List ze) (js:List zo) (ks:List zA):Nat->List (Str×Int)->List Int->List (Str×Int)×List Int
 |0,F,A=>(F,A)
 |f+1,F,A=>if (ZM n sp js ks F A).2.2=true then z1v n sp js ks f (ZM n sp js ks F A).1 (ZM n sp js ks F A).2.1 else ((ZM n sp js ks F A).1,(ZM n sp js ks F A).2.1)
def stops (n:Nat) (sp:List ze) (js:List zo) (ks:List zA):Nat->List (Str×Int)->List Int->Prop
 |0,_,_=>False
 |f+1,F,A=>(ZM n sp js ks F A).2.2=true->stops n sp js ks f (ZM n sp js ks F A).1 (ZM n sp js ks F A).2.1
theorem zcM (H:Pr P) (s:zH) (name:Str) (here sp:List ze) (js:List zo) (ks:List zA) (A0 A1:List Int) (F1:List (Str×Int)) (fuel:Nat) (h1:s.z3.length<=2000) (h2:here.length<=100000) (h3:s.zr.length<=100000) (h4:s.keys.length<=100000)
  (e1:yG s.z3.length here [] (List.replicate (s.z3.length/8+1) (List.replicate 8 0)).flatten=(sp,A0)) (e2:wz s.z3.length name s.zr [] []=js) (e3:Y9 s.z3.length name s.keys []=ks)
  (hN:NOk s sp js ks (s.z3.length/8+1) A0) (hst:stops s.z3.length sp js ks fuel [] A0) (e4:z1v s.z3.length sp js ks fuel [] A0=(F1,A1)):
  z6 P 56 [.agg [.t (.lst (s.z3.map sE)),.t s.doc,.t (.lst (s.keys.map zA.enc)),.t (.lst (s.zr.map zo.enc))],.t (.str name),.t (.lst (here.map ze.enc))] ⟨[],0⟩ {v:= .ptr 3 0,ob:=[(1,.map false (mE sE iE F1) none),(2,.cells (cE iE A1)),(3,.cells (z31 s sp js ks (s.z3.length/8+1)))],n:=4}:=by
 refine z6.run H.i56 H.mixed Z Z ?_;refine fR Z ?_;refine Mid.z8z sE iE Z ?_;refine fM Z ?_;refine lM Z Z Z ?_;refine Mid.zg2 Z Z Z Z (by omega) (by omega) Z ?_;refine aL Z Z Z Z Z ?_;refine Mid.zbu (List.replicate 8 0) Z (by omega) (by omega) Z Z Z ?_;refine fM Z ?_;refine lM Z Z Z ?_;refine fM Z ?_
 refine zu here (fun i (b:List ze×List Int)=>{env:=[(1,.t (.str name)),(3,.ptr 0 0),(7,.ptr 3 0),(26,.t (.lst (here.map ze.enc))),(27,.t (.int .i64 here.length)),(28,.t (.int .i64 i))],s:=⟨[(0,.cells [.t (.lst (s.z3.map sE)),.t s.doc,.t (.lst (s.keys.map zA.enc)),.t (.lst (s.zr.map zo.enc))]),(1,.map false (mE sE iE []) none),(2,.cells (cE iE b.2)),(3,.cells [.t (.lst (s.z3.map sE)),.t s.doc,.t (.lst (s.keys.map zA.enc)),.t (.lst (s.zr.map zo.enc)),.own 4 3 (b.1.map ze.enc),.zJ,.zJ,.slc 2 0 (s.z3.length/8+1) 8,.mp 1]),(4,.arr b.1.length)],5⟩}) (fun r i b=>b.1.length<=i/\b.2.length=8*(s.z3.length/8+1)/\yG s.z3.length r b.1 b.2=(sp,A0)) 4 ([],(List.replicate (s.z3.length/8+1) (List.replicate 8 0)).flatten) Z ⟨by simp,by simp;omega,e1⟩ rfl rfl rfl ?_ ?_
 ·rintro ⟨sp',A'⟩ ⟨_,_,hinv⟩;simp only [yG] at hinv;cases hinv;refine fR Z ?_;refine Run.zf Z Z (by simp) ?_;refine fR Z ?_;refine Mid.z8z lvE bE Z ?_;refine fM Z ?_;refine lM Z Z Z ?_;refine fM Z ?_
  refine zu s.zr (fun i (b:List zo×List ((Str×Int)×Bool))=>{env:=[(1,.t (.str name)),(3,.ptr 0 0),(7,.ptr 3 0),(10,.mp 5),(80,.t (.lst (s.zr.map zo.enc))),(81,.t (.int .i64 s.zr.length)),(82,.t (.int .i64 i))],s:=⟨[(0,.cells [.t (.lst (s.z3.map sE)),.t s.doc,.t (.lst (s.keys.map zA.enc)),.t (.lst (s.zr.map zo.enc))]),(1,.map false (mE sE iE []) none),(2,.cells (cE iE A0)),(3,.cells [.t (.lst (s.z3.map sE)),.t s.doc,.t (.lst (s.keys.map zA.enc)),.t (.lst (s.zr.map zo.enc)),.t (.lst (sp.map ze.enc)),.own 6 6 (b.1.map zo.enc),.zJ,.slc 2 0 (s.z3.length/8+1) 8,.mp 1]),(5,.map true (mE lvE bE b.2) none),(6,.arr b.1.length)],7⟩}) (fun r i b=>b.1.length<=i/\wz s.z3.length name r b.1 b.2=js) 6 ([],[]) Z ⟨by simp,e2⟩ rfl rfl rfl ?_ ?_
  ·rintro ⟨js',seen⟩ ⟨_,hinv⟩;simp only [wz] at hinv;subst hinv;refine fR Z ?_;refine Run.zf Z Z (by simp) ?_;refine fR Z ?_;refine lM Z Z Z ?_;refine fM Z ?_
   refine zu s.keys (fun i (b:List zA)=>{env:=[(1,.t (.str name)),(3,.ptr 0 0),(7,.ptr 3 0),(128,.t (.lst (s.keys.map zA.enc))),(129,.t (.int .i64 s.keys.length)),(130,.t (.int .i64 i))],s:=⟨[(0,.cells [.t (.lst (s.z3.map sE)),.t s.doc,.t (.lst (s.keys.map zA.enc)),.t (.lst (s.zr.map zo.enc))]),(1,.map false (mE sE iE []) none),(2,.cells (cE iE A0)),(3,.cells [.t (.lst (s.z3.map sE)),.t s.doc,.t (.lst (s.keys.map zA.enc)),.t (.lst (s.zr.map zo.enc)),.t (.lst (sp.map ze.enc)),.t (.lst (js'.map zo.enc)),.own 5 3 (b.map zA.enc),.slc 2 0 (s.z3.length/8+1) 8,.mp 1]),(5,.arr b.length)],6⟩}) (fun r i b=>b.length<=i/\Y9 s.z3.length name r b=ks) 5 [] Z ⟨by simp,e3⟩ rfl rfl rfl ?_ ?_
   ·rintro ks' ⟨_,hinv⟩;simp only [Y9] at hinv;subst hinv;refine fR Z ?_;refine Run.zf Z Z (by simp) ?_;skip
    refine z13 (β:=Nat×List (Str×Int)×List Int) (fun b=>{env:=[(7,.ptr 3 0)],s:=⟨[(1,.map false (mE sE iE b.2.1) none),(2,.cells (cE iE b.2.2)),(3,.cells (z31 s sp js' ks' (s.z3.length/8+1)))],4⟩})
     (fun b=>NOk s sp js' ks' (s.z3.length/8+1) b.2.2/\stops s.z3.length sp js' ks' b.1 b.2.1 b.2.2/\z1v s.z3.length sp js' ks' b.1 b.2.1 b.2.2=(F1,A1)) (fun b=>b.1) 4 (fuel,[],A0) rfl ⟨hN,hst,e4⟩ rfl rfl rfl ?_ (he:=leEA) (hs:=leSA)
    rintro ⟨f,F',A'⟩ ⟨hN',hs',hi'⟩ ih
    cases f with
    |zero=>exact hs'.elim
    |succ f=>
     simp only [stops] at hs';simp only [z1v] at hi';refine fR Z ?_
     refine Mid.Zt [3,1,2] (zbV (F:=F') H hN') Z Z Z Z zK (by repeat' (first |exact trivial|exact rfl|refine And.intro ?_ ?_|exact (congrArg some (z5.zD _ _ _ _ _ _)).symm|exact (congrArg some (z5.zE _ _ _)).symm)) Z Z (ob':=[(1,.map false (mE sE iE (ZM s.z3.length sp js' ks' F' A').1) none),(2,.cells (cE iE (ZM s.z3.length sp js' ks' F' A').2.1))]) ((by simp only [wY,z5.zD,z5.zE];rfl)) Z Z ?_
     refine fM Z ?_;refine Run.cond Z Z (fun hc=>?_) (fun hc=>?_)
     ·skip;rw [w0c hc] at hi';have hN2:NOk s sp js' ks' (s.z3.length/8+1) (ZM s.z3.length sp js' ks' F' A').2.1:=z9c hN' _ _ _ _ hN';exact zh 4 Z (ih (f,(ZM s.z3.length sp js' ks' F' A').1,(ZM s.z3.length sp js' ks' F' A').2.1) (by simp) ⟨hN2,hs' hc,hi'⟩) Z Z Z
     ·refine fR Z ?_;rw [w0d (by rw [hc];simp)] at hi';cases hi';refine Run.fin Z (z4.chg Z Z ?_ ?_)
      ·exact .le (.same Z)
      ·exact leSA
   ·rintro i x r ks' hi1 hi hd ⟨hl,hinv⟩ ih;refine fR Z ?_;refine Run.zj Z Z (by simp;omega) ?_;refine fR Z ?_;refine Mid.za Z Z Z hi1 Z Z ?_;refine fM Z ?_;refine lMG Z Z Z Z ?_;refine fM Z ?_;refine Run.cond Z Z (fun hc=>?_) (fun hc=>?_)
    ·have hc2:ink s.z3.length name x=true:=hc;refine fR Z ?_;refine apM zA.enc ks' [x] Z Z Z Z Z ?_;refine fM Z ?_;refine aL Z Z Z Z Z ?_;refine fM Z ?_;exact zh 6 Z (ih (ks'++[x]) ⟨by simp;omega,by rw [←hinv];simp only [Y9,hc2,w0v]⟩) rfl rfl rfl
    ·refine fR Z ?_;refine aL Z Z Z Z Z ?_;refine fM Z ?_;have hc2:ink s.z3.length name x=false:=hc;exact zh 6 Z (ih ks' ⟨by omega,by rw [←hinv];simp [Y9,hc2]⟩) rfl rfl rfl
  ·rintro i x r ⟨js',seen⟩ hi1 hi hd ⟨hl,hinv⟩ ih;have hl':js'.length<=i:=hl;refine fR Z ?_;refine Run.zj Z Z (by simp;omega) ?_;refine fR Z ?_;refine Mid.za Z Z Z hi1 Z Z ?_;refine fM Z ?_;refine lMG Z Z Z Z ?_;refine fM Z ?_
   refine Mid.zfc ((x.field,x.graph)) Z Z Z Z Z Z (zbp) (by (repeat' (first |exact trivial|exact w0j _|exact yY _|exact yX _|exact grd3 _ _|exact yZ _ _|refine And.intro ?_ ?_|exact rfl|(simp;done)|(simp<;>omega)));done) (by (repeat' (first |exact trivial|exact w0j _|exact yY _|exact yX _|exact grd3 _ _|exact yZ _ _|refine And.intro ?_ ?_|exact rfl|(simp;done)|(simp<;>omega)));done) Z ?_
   refine fM Z ?_;refine Run.cond Z Z (fun hc=>?_) (fun hc=>?_)
   ·have hc2:inj s.z3.length name seen x=true:=hc;refine fR Z ?_;refine Mid.zdO ((x.field,x.graph)) Z Z Z Z (zbp) Z ?_;refine fM Z ?_;refine apM zo.enc js' [x] Z Z Z Z Z ?_;refine fM Z ?_;refine aL Z Z Z Z Z ?_;refine fM Z ?_;exact zh 7 Z (ih (js'++[x],yn (x.field,x.graph) true seen) ⟨by simp;omega,by rw [←hinv];simp only [wz,hc2,w0v]⟩) rfl rfl rfl
   ·refine fR Z ?_;refine aL Z Z Z Z Z ?_;refine fM Z ?_;have hc2:inj s.z3.length name seen x=false:=hc;exact zh 7 Z (ih (js',seen) ⟨by simp only;omega,by rw [←hinv];simp [wz,hc2]⟩) rfl rfl rfl
 ·rintro i ⟨gr,dp,pv⟩ r ⟨sp',A'⟩ hi1 hi hd ⟨hl,hA,hinv⟩ ih;have hl':sp'.length<=i:=hl;have hA':A'.length=8*(s.z3.length/8+1):=hA;refine fR Z ?_;refine Run.zj Z Z (by simp;omega) ?_;refine fR Z ?_;refine Mid.za Z Z Z hi1 Z Z ?_;refine fM Z ?_;refine lMG Z Z Z Z ?_;refine fM Z ?_;refine Run.cond Z Z (fun hc=>?_) (fun hc=>?_)
  ·have hc2:inb s.z3.length ⟨gr,dp,pv⟩=true:=hc
   have hg:0<=gr/\gr<s.z3.length:=by
    simp [inb] at hc2;omega
   obtain ⟨g,rfl⟩:=Int.eq_ofNat_of_zero_le hg.1
   have hiA:g<A'.length:=by omega
   have hgd:A'[g]?=some (A'.getD g 0):=by rw [w0e,w09 hiA];rfl
   refine fR Z ?_;refine apM ze.enc sp' [⟨(g:Int),dp,pv⟩] Z Z Z Z Z ?_;refine fM Z ?_
   refine Mid.yM [3,1,2,4] (zbx (a0:= .lst (s.z3.map sE)) (a1:=s.doc) (a2:= .lst (s.keys.map zA.enc)) (a3:= .lst (s.zr.map zo.enc)) (sp:=sp'++[⟨(g:Int),dp,pv⟩]) (F:=[]) (A:=A') (nb:=s.z3.length/8+1) H g (by omega) (by omega)) Z Z Z Z (by simp [zP,z5.z6x,z5.z7b];simp [z5.bd,V.bds,V.bd]) (by repeat' (first |exact trivial|exact rfl|refine And.intro ?_ ?_|exact (congrArg some (z5.zD _ _ _ _ _ _)).symm|exact (congrArg some (z5.zE _ _ _)).symm)) Z ?_
   refine fM Z ?_
   refine Mid.yM [3,1,2,4] (zbx (a0:= .lst (s.z3.map sE)) (a1:=s.doc) (a2:= .lst (s.keys.map zA.enc)) (a3:= .lst (s.zr.map zo.enc)) (sp:=sp'++[⟨(g:Int),dp,pv⟩]) (F:=[]) (A:=A') (nb:=s.z3.length/8+1) H g (by omega) (by omega)) Z Z Z Z (by simp [zP,z5.z6x,z5.z7b];simp [z5.bd,V.bds,V.bd]) (by repeat' (first |exact trivial|exact rfl|refine And.intro ?_ ?_|exact (congrArg some (z5.zD _ _ _ _ _ _)).symm|exact (congrArg some (z5.zE _ _ _)).symm)) Z ?_
   refine p0 Z ?_;refine Mid.ldE Z Z (hgd) Z ?_;refine fM Z ?_;refine Mid.call (wM H (A'.getD g 0) dp) Z Z Z Z ?_;refine p0 Z ?_;refine Mid.stE Z Z (hiA) Z Z ?_;refine fM Z ?_;refine aL Z Z Z Z Z ?_;refine fM Z ?_
   exact zh 5 Z (ih (sp'++[⟨(g:Int),dp,pv⟩],A'.set g (zT (A'.getD g 0) dp)) ⟨by simp;omega,by simpa using hA',by rw [←hinv];simp only [yG,hc2,w0v];rfl⟩) rfl rfl rfl
  ·refine fR Z ?_;refine aL Z Z Z Z Z ?_;refine fM Z ?_;have hc2:inb s.z3.length ⟨gr,dp,pv⟩=false:=hc;exact zh 5 Z (ih (sp',A') ⟨by simp only;omega,hA,by rw [←hinv];simp [yG,hc2]⟩) rfl rfl rfl
end Go.GB.C26
