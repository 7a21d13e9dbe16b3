/-
  YtpakhiccblfcmaaGreatP4: lemmas of this proof (part 4). No conditions.
-/
import Derived.Test.YtpakhiccblfcmaaGreatP3
set_option linter.all false
set_option maxRecDepth 100000
set_option maxHeartbeats 16000000
namespace Go.GB
section
variable {P:Program}
mutual
def V.ren (ρ:Nat->Nat):V->V
 | .t x=> .t x
 | .zI=> .zI
 | .top=> .top
 | .own k sz xs=> .own (ρ k) sz xs
 | .slc k o l s=> .slc (ρ k) o l s
 | .ptr k o=> .ptr (ρ k) o
 | .mp k=> .mp (ρ k)
 | .fn f cs=> .fn f (cs.map fun c=>(ρ c.1,c.2))
 | .agg cs=> .agg (V.YU ρ cs)
 | .tup cs=> .tup (V.YU ρ cs)
 | .gd c x=> .gd c (x.ren ρ)
 | .ub c d=> .ub c d
 | .fpt k i o=> .fpt (ρ k) i o
 | .gpt k v o=> .gpt (ρ k) v o
 | .gsl k v o l s=> .gsl (ρ k) v o l s
 | .fow k i s xs=> .fow (ρ k) i s xs
def V.YU (ρ:Nat->Nat):List V->List V
 |[]=>[]
 |x::r=>x.ren ρ::V.YU ρ r
end
theorem V.y7 (ρ:Nat->Nat):∀(cs:List V),V.YU ρ cs=cs.map (V.ren ρ)
 |[]=>rfl
 |x::r=>by simp [V.YU,V.y7 ρ r]
def z6.ren (ρ:Nat->Nat):z6->z6
 | .cells cs=> .cells (V.YU ρ cs)
 | .map kag es st=> .map kag (es.map fun e=>(e.1,e.2.ren ρ)) st
 | .arr n=> .arr n
 | .iter q s seen c=> .iter (ρ q) s seen c
 | .gro v cs=> .gro v (V.YU ρ cs)
 | .yu os=> .yu (os.map (V.YU ρ))
 | .y9 ns=> .y9 ns
 | .Wl a I=> .Wl a I
structure Rn (ρ:Nat->Nat) (σ:Nat->Option Nat) (m1 m n:Nat):Prop where
 inv:∀k j,σ k=some j->ρ j=k/\j<m1+n
 at_:∀j,j<m1+n->σ (ρ j)=some j
 low:∀j,j<m1->ρ j<m
 new:∀j,m1<=j->j<m1+n->ρ j=m+(j - m1)
def L.view (Λ:L) (ρ:Nat->Nat) (σ:Nat->Option Nat) (m1:Nat):L where
 lab:=fun b=>match Λ.lab b with
  | .obj k=>match σ k with|some j=> .obj j|none=> .fix (some 0)
  | .arr k fr=>match σ k with|some j=> .arr j fr|none=> .fix (some fr)
  | .fob k i=>match σ k with|some j=> .fob j i|none=> .fix (some 0)
  | .far k i fr=>match σ k with|some j=> .far j i fr|none=> .fix (some fr)
  |x=>x
 fro:=fun j=>if j<m1 then Λ.fro (ρ j) else 0
 nxt:=m1
 w:=Λ.w
 frf:=fun j i=>if j<m1 then Λ.frf (ρ j) i else 0
def L.hid (Λ:L) (σ:Nat->Option Nat) (b:Nat):Bool:=
 match Λ.lab b with
 | .obj k=>(σ k).isNone
 | .arr k _=>(σ k).isNone
 | .fob k _=>(σ k).isNone
 | .far k _ _=>(σ k).isNone
 |_=>false
def Lab.ren (ρ:Nat->Nat):Lab->Lab
 | .obj k=> .obj (ρ k)
 | .arr k fr=> .arr (ρ k) fr
 | .fob k i=> .fob (ρ k) i
 | .far k i fr=> .far (ρ k) i fr
 |x=>x
def L.zY (Λ:L) (ρ:Nat->Nat) (σ:Nat->Option Nat) (Λ':L):L where
 lab:=fun b=>if Λ.hid σ b then Λ.lab b else (Λ'.lab b).ren ρ
 fro:=fun k=>match σ k with|some j=>Λ'.fro j|none=>Λ.fro k
 nxt:=Λ.nxt
 w:=Λ'.w
 frf:=fun k i=>match σ k with|some j=>Λ'.frf j i|none=>Λ.frf k i
variable {ρ:Nat->Nat} {σ:Nat->Option Nat} {m1 m n:Nat}
theorem zc2 {Λ:L} {b:Nat} (h:Λ.hid σ b=true):∃fr,(Λ.view ρ σ m1).lab b= .fix (some fr)/\((∃k,Λ.lab b= .obj k/\σ k=none/\fr=0)∨(∃k,Λ.lab b= .arr k fr/\σ k=none)∨(∃k i,Λ.lab b= .fob k i/\σ k=none/\fr=0)∨∃k i,Λ.lab b= .far k i fr/\σ k=none):=by
 unfold L.hid at h;simp only [L.view]
 cases hl:Λ.lab b with
 |fix fr=>rw [hl] at h;simp at h
 |obj k=>rw [hl] at h;simp at h;exact ⟨0,by simp [h],.inl ⟨k,rfl,h,rfl⟩⟩
 |arr k fr=>rw [hl] at h;simp at h;exact ⟨fr,by simp [h],.inr (.inl ⟨k,rfl,h⟩)⟩
 |fob k i=>rw [hl] at h;simp at h;exact ⟨0,by simp [h],.inr (.inr (.inl ⟨k,i,rfl,h,rfl⟩))⟩
 |far k i fr=>rw [hl] at h;simp at h;exact ⟨fr,by simp [h],.inr (.inr (.inr ⟨k,i,rfl,h⟩))⟩
theorem Yb {Λ:L} {b k j:Nat} (h:Λ.lab b= .obj k) (hk:σ k=some j):(Λ.view ρ σ m1).lab b= .obj j:=by simp [L.view,h,hk]
theorem z0b {Λ:L} {b k j fr:Nat} (h:Λ.lab b= .arr k fr) (hk:σ k=some j):(Λ.view ρ σ m1).lab b= .arr j fr:=by simp [L.view,h,hk]
theorem z0h {Λ:L} {b k j i:Nat} (h:Λ.lab b= .fob k i) (hk:σ k=some j):(Λ.view ρ σ m1).lab b= .fob j i:=by simp [L.view,h,hk]
theorem z0g {Λ:L} {b k j i fr:Nat} (h:Λ.lab b= .far k i fr) (hk:σ k=some j):(Λ.view ρ σ m1).lab b= .far j i fr:=by simp [L.view,h,hk]
theorem z2t {Λ:L} {b:Nat} {fr:Option Nat} (h:Λ.lab b= .fix fr):(Λ.view ρ σ m1).lab b= .fix fr:=by simp [L.view,h]
theorem Wv {Λ:L} {b j:Nat} (h:(Λ.view ρ σ m1).lab b= .obj j):∃k,Λ.lab b= .obj k/\σ k=some j:=by
 simp only [L.view] at h
 cases hl:Λ.lab b with
 |fix fr=>simp [hl] at h
 |obj k=>simp only [hl] at h;split at h<;>simp_all
 |arr k fr=>simp only [hl] at h;split at h<;>simp_all
 |fob k i=>simp only [hl] at h;split at h<;>simp_all
 |far k i fr=>simp only [hl] at h;split at h<;>simp_all
theorem z5j {Λ:L} {b j fr:Nat} (h:(Λ.view ρ σ m1).lab b= .arr j fr):∃k,Λ.lab b= .arr k fr/\σ k=some j:=by
 simp only [L.view] at h
 cases hl:Λ.lab b with
 |fix fr=>simp [hl] at h
 |obj k=>simp only [hl] at h;split at h<;>simp_all
 |arr k fr=>simp only [hl] at h;split at h<;>simp_all
 |fob k i=>simp only [hl] at h;split at h<;>simp_all
 |far k i fr=>simp only [hl] at h;split at h<;>simp_all
theorem yF {Λ:L} {b j i:Nat} (h:(Λ.view ρ σ m1).lab b= .fob j i):∃k,Λ.lab b= .fob k i/\σ k=some j:=by
 simp only [L.view] at h
 cases hl:Λ.lab b with
 |fix fr=>simp [hl] at h
 |obj k=>simp only [hl] at h;split at h<;>simp_all
 |arr k fr=>simp only [hl] at h;split at h<;>simp_all
 |fob k i=>simp only [hl] at h;split at h<;>simp_all
 |far k i fr=>simp only [hl] at h;split at h<;>simp_all
theorem z4Q {Λ:L} {b j i fr:Nat} (h:(Λ.view ρ σ m1).lab b= .far j i fr):∃k,Λ.lab b= .far k i fr/\σ k=some j:=by
 simp only [L.view] at h
 cases hl:Λ.lab b with
 |fix fr=>simp [hl] at h
 |obj k=>simp only [hl] at h;split at h<;>simp_all
 |arr k fr=>simp only [hl] at h;split at h<;>simp_all
 |fob k i=>simp only [hl] at h;split at h<;>simp_all
 |far k i fr=>simp only [hl] at h;split at h<;>simp_all
theorem zda {Λ:L} {b o:Nat} (h:Rd Λ.lab b o):Rd (Λ.view ρ σ m1).lab b o:=by
 unfold Rd at*
 cases hl:Λ.lab b with
 |fix fr=>rw [z2t hl];rw [hl] at h;exact h
 |obj k=>rw [hl] at h;exact h.elim
 |arr k fr=>
  rw [hl] at h
  cases hk:σ k with
  |some j=>rw [z0b hl hk];exact h
  |none=>simp only [L.view,hl,hk];exact h
 |fob k i=>rw [hl] at h;exact h.elim
 |far k i fr=>
  rw [hl] at h
  cases hk:σ k with
  |some j=>rw [z0g hl hk];exact h
  |none=>simp only [L.view,hl,hk];exact h
theorem zP.view {Λ:L} {v:Value} {x:T} (h:zP Λ.lab Λ.w v x):zP (Λ.view ρ σ m1).lab (Λ.view ρ σ m1).w v x:=h.yo fun _ _ _ _ hr=>⟨zda hr,rfl⟩
theorem z2n (hn:Rn ρ σ m1 m n) {Λ:L} {b k j:Nat} (h:qc Λ.lab k b) (hk:σ k=some j):qc (Λ.view ρ σ m1).lab j b:=by
 obtain ⟨i,e1,e2⟩:=h;refine ⟨i,z0h e1 hk,fun b' i' h'=>?_⟩;obtain ⟨k',a1,a2⟩:=yF h';have h1:=(hn.inv _ _ a2).1;have h2:=(hn.inv _ _ hk).1;rw [←h1,h2] at a1;exact e2 b' i' a1
theorem zu.view (hn:Rn ρ σ m1 m n) {Λ:L} {v:Value} {y:V} (h:zu Λ v y):∀{x:V},x.ren ρ=y->x.bd m1=true->zu (Λ.view ρ σ m1) v x:=by
 induction h with
 |t h=>intro x hx hb;cases x<;>simp [V.ren] at hx;subst hx;exact .t h.view
 |zI=>intro x hx hb;cases x<;>simp [V.ren] at hx;exact .zI
 |@own v k sz xs h hsz hl hm ho=>
  intro x hx hb;cases x<;>simp [V.ren] at hx
  rename_i j sz' xs';obtain ⟨e1,rfl,rfl⟩:=hx
  have hj:j<m1:=by simpa [V.bd] using hb
  have hf:(Λ.view ρ σ m1).fro j=Λ.fro k:=by simp [L.view,hj,e1]
  have hs:σ k=some j:=by rw [←e1];exact hn.at_ j (by omega)
  refine .own h.view hsz hj (by rw [hf];exact hm) fun he=>?_
  rcases ho (by rw [←hf];exact he) with ho|⟨b,cap,arr,e,hv,hb',hh,hc,hn'⟩
  ·exact .inl ho
  ·exact .inr ⟨b,cap,arr,e,hv,z0b hb' hs,hh,hc,hn'⟩
 |@slc b k off len cap sz hl hc h=>
  intro x hx hb;cases x<;>simp [V.ren] at hx
  rename_i j _ _ _;obtain ⟨e1,rfl,rfl,rfl⟩:=hx
  have hj:j<m1:=by simpa [V.bd] using hb
  exact .slc hj hc (Yb h (by rw [←e1];exact hn.at_ j (by omega)))
 |@agg vs cs hs hv ih=>
  intro x hx hb;cases x<;>simp [V.ren] at hx
  rename_i ds;rw [V.y7] at hx;subst hx;refine .agg (by simpa using hs) fun j v c h1 h2=>ih j v (c.ren ρ) h1 (by simp [h2]) Z (V.ZH (by simpa [V.bd] using hb) j c h2)
 |@tup vs cs hs hv ih=>
  intro x hx hb;cases x<;>simp [V.ren] at hx
  rename_i ds;rw [V.y7] at hx;subst hx;refine .tup (by simpa using hs) fun j v c h1 h2=>ih j v (c.ren ρ) h1 (by simp [h2]) Z (V.ZH (by simpa [V.bd] using hb) j c h2)
 |@ptr b k off hl h=>
  intro x hx hb;cases x<;>simp [V.ren] at hx
  rename_i j _;obtain ⟨e1,rfl⟩:=hx
  have hj:j<m1:=by simpa [V.bd] using hb
  exact .ptr hj (Yb h (by rw [←e1];exact hn.at_ j (by omega)))
 |@mp b k hl h=>
  intro x hx hb;cases x<;>simp [V.ren] at hx
  rename_i j
  have hj:j<m1:=by simpa [V.bd] using hb
  exact .mp hj (Yb h (by rw [←hx];exact hn.at_ j (by omega)))
 |@fn f vs cs hs h=>
  intro x hx hb;cases x<;>simp [V.ren] at hx
  obtain ⟨rfl,rfl⟩:=hx;rename_i ds;refine .fn (by simpa using hs) fun j v c h1 h2=>?_;obtain ⟨b,e1,e2,e3⟩:=h j v (ρ c.1,c.2) h1 (by simp only [List.getElem?_map,h2,Option.map_some])
  have hk:c.1<m1:=by
   simp only [V.bd,List.all_eq_true,decide_eq_true_eq] at hb;exact hb c (zMG h2)
  exact ⟨b,e1,Yb e2 (hn.at_ c.1 (by omega)),hk⟩
 |gd _ h' ih=>
  intro x hx hb;cases x<;>simp [V.ren] at hx
  obtain ⟨rfl,e⟩:=hx;exact .gd (fun hc=>ih hc e (by simpa [V.bd] using hb)) h'
 |top=>intro x hx hb;cases x<;>simp [V.ren] at hx;exact .top
 |ub h h'=>intro x hx hb;cases x<;>simp only [V.ren,V.ub.injEq,reduceCtorEq] at hx;obtain ⟨rfl,rfl⟩:=hx;exact .ub h h'
 |@fpt b k i off hl h=>
  intro x hx hb;cases x<;>simp [V.ren] at hx
  rename_i j _ _;obtain ⟨e1,rfl,rfl⟩:=hx
  have hj:j<m1:=by simpa [V.bd] using hb
  exact .fpt hj (z0h h (by rw [←e1];exact hn.at_ j (by omega)))
 |@gpt v k ver off hv hl hm h=>
  intro x hx hb;cases x<;>simp [V.ren] at hx
  rename_i j _ _;obtain ⟨e1,rfl,rfl⟩:=hx
  have hj:j<m1:=by simpa [V.bd] using hb
  have hf:(Λ.view ρ σ m1).frf j 0=Λ.frf k 0:=by simp [L.view,hj,e1]
  have hs:σ k=some j:=by rw [←e1];exact hn.at_ j (by omega)
  refine .gpt hv hj (by rw [hf];exact hm) fun he=>?_;obtain ⟨b,e1,e2⟩:=h (by rw [←hf];exact he);exact ⟨b,e1,z2n hn e2 hs⟩
 |@gsl v k ver off len sz hv hl hm h=>
  intro x hx hb;cases x<;>simp [V.ren] at hx
  rename_i j _ _ _ _;obtain ⟨e1,rfl,rfl,rfl,rfl⟩:=hx
  have hj:j<m1:=by simpa [V.bd] using hb
  have hf:(Λ.view ρ σ m1).frf j 0=Λ.frf k 0:=by simp [L.view,hj,e1]
  have hs:σ k=some j:=by rw [←e1];exact hn.at_ j (by omega)
  refine .gsl hv hj (by rw [hf];exact hm) fun he=>?_
  rcases h (by rw [←hf];exact he) with h|⟨b,cap,N,hv,hc,e2,hN,he'⟩
  ·exact .inl h
  ·exact .inr ⟨b,cap,N,hv,hc,z2n hn e2 hs,hN,he'⟩
 |@fow v k i sz xs h hsz hl hm ho=>
  intro x hx hb;cases x<;>simp [V.ren] at hx
  rename_i j _ _ _;obtain ⟨e1,rfl,rfl,rfl⟩:=hx
  have hj:j<m1:=by simpa [V.bd] using hb
  have hf:∀i,(Λ.view ρ σ m1).frf j i=Λ.frf k i:=by intro i;simp [L.view,hj,e1]
  have hs:σ k=some j:=by rw [←e1];exact hn.at_ j (by omega)
  refine .fow h.view hsz hj (by rw [hf];exact hm) fun he=>?_
  rcases ho (by rw [←hf];exact he) with ho|⟨b,cap,arr,e,hv,hb',hh,hc,hn'⟩
  ·exact .inl ho
  ·exact .inr ⟨b,cap,arr,e,hv,z0g hb' hs,hh,hc,hn'⟩
theorem qm (hn:Rn ρ σ m1 m n):∀(ob:List (Nat×z6)) (s s1:List (Nat×z6)),(∀j,j<m1+n->zi s (ρ j)=(zi s1 j).map (z6.ren ρ))->(∀j o,(j,o)∈ob->j<m1+n)->
  (∀j,j<m1+n->zi (Zq s (ob.map fun e=>(ρ e.1,e.2.ren ρ))) (ρ j)=(zi (Zq s1 ob) j).map (z6.ren ρ))/\(∀k,σ k=none->zi (Zq s (ob.map fun e=>(ρ e.1,e.2.ren ρ))) k=zi s k)
 |[],s,s1,h,_=>⟨h,fun _ _=>rfl⟩
 |(i,o)::r,s,s1,h,hb=>by
  simp only [List.map_cons,Zq];have hi:i<m1+n:=hb i o (by simp)
  obtain ⟨g1,g2⟩:=qm hn r (Yc s (ρ i) (o.ren ρ)) (Yc s1 i o) (fun j hj=>by
   rw [Zi,Zi];by_cases e:i=j
   ·subst e;simp
   ·have:ρ i≠ρ j:=by
     intro e';have h1:=hn.at_ i hi;have h2:=hn.at_ j hj;rw [e',h2] at h1;simp at h1;exact e h1.symm
    simp only [e,this,if_false];exact h j hj) (fun j o hj=>hb j o (by simp [hj]))
  refine ⟨g1,fun k hk=>?_⟩;rw [g2 k hk,Zi]
  have:ρ i≠k:=by rintro rfl;rw [hn.at_ i hi] at hk;cases hk
  simp [this]
theorem z7.ren {out:Out} (hn:Rn ρ σ m1 m out.n) {f:FuncId} {vs:List V} {sto s1:List (Nat×z6)} (h:z7 P f vs ⟨s1,m1⟩ out) (hb:V.bds m1 vs=true) (hs:zR m1 s1=true)
  (hsub:∀j,j<m1->zi sto (ρ j)=(zi s1 j).map (z6.ren ρ)) (hob:∀k o,(k,o)∈out.ob->k<m1+out.n/\(zi s1 k≠none∨m1<=k)):
  YS P f (V.YU ρ vs) m sto {v:=out.v.ren ρ,ob:=out.ob.map fun e=>(ρ e.1,e.2.ren ρ),n:=out.n,rd:=true}:=by
 refine ⟨h.1,fun k o hk=>?_,fun Λ args hr hle hfree hsz hargs=>?_⟩
 ·simp only [List.mem_map] at hk;obtain ⟨⟨j,o'⟩,hj,e⟩:=hk;simp at e;obtain ⟨rfl,rfl⟩:=e;obtain ⟨h1,h2⟩:=hob j o' hj;by_cases hj1:j<m1
  ·left
   rcases h2 with h2|h2
   ·rw [hsub j hj1];simpa using h2
   ·omega
  ·right;have:=hn.new j (by omega) h1;show m<=ρ j/\ρ j<m+out.n;omega
 simp only at hle hfree
 have hfresh:∀{b k j:Nat},σ k=some j->(Λ.lab b= .obj k∨∃fr,Λ.lab b= .arr k fr)->j<m1:=by
  intro b k j hk hl;obtain ⟨e,hj⟩:=hn.inv k j hk
  rcases Nat.lt_or_ge j m1 with h|h
  ·exact h
  ·have e2:=hn.new j h hj;have:=(hfree k (by omega) (by omega)).2.1
   rcases hl with hl|⟨fr,hl⟩
   ·exact absurd hl (this.obj b)
   ·exact absurd hl (this.arr b fr)
 have hfreshF:∀{b k j:Nat},σ k=some j->((∃i,Λ.lab b= .fob k i)∨∃i fr,Λ.lab b= .far k i fr)->j<m1:=by
  intro b k j hk hl;obtain ⟨e,hj⟩:=hn.inv k j hk
  rcases Nat.lt_or_ge j m1 with h|h
  ·exact h
  ·have e2:=hn.new j h hj;have:=(hfree k (by omega) (by omega)).2.1
   rcases hl with ⟨i,hl⟩|⟨i,fr,hl⟩
   ·exact absurd hl (this.fob b i)
   ·exact absurd hl (this.far b i fr)
 have hr1:Z5 (Λ.view ρ σ m1) ⟨s1,m1⟩:=by
  refine ⟨fun j o hj=>?_,fun b b' j h1 h2=>?_,fun b hb=>?_,fun b j hb=>?_,fun j hj=>?_,fun b b' j i h1 h2=>?_,fun b j hb=>?_,fun j i hj=>?_⟩
  ·obtain ⟨h1,h2⟩:=qh hs j o hj;refine ⟨h1,?_⟩;have hro:=(hr.sto (ρ j) (o.ren ρ) (by rw [hsub j h1,hj];rfl)).2;have hs':=hn.at_ j (by omega)
   cases o with
   |cells cs=>
    obtain ⟨b,arr,e,e1,e2,e3,e4⟩:=hro;rw [V.y7] at e3 e4
    exact ⟨b,arr,e,Yb e1 hs',e2,by simpa using e3,fun i v c a1 a2=>(e4 i v (c.ren ρ) a1 (by simp [a2])).view hn rfl (V.ZH (by simpa [z6.bd] using h2) i c a2)⟩
   |map kag es sx=>
    obtain ⟨b,ents,clock,e1,e2,e3⟩:=hro
    refine ⟨b,ents,clock,Yb e1 hs',e2,⟨by simpa using e3.size,fun i e kv a1 a2=>?_,e3.born,e3.apart,e3.known⟩⟩
    obtain ⟨g1,g2⟩:=e3.at_ i e (kv.1,kv.2.ren ρ) a1 (by simp [a2]);exact ⟨g1.yo fun _ _ h=>h.view,g2.view hn Z (V.ZH (by simpa [z6.bd] using h2) i kv.2 (by simp [a2]))⟩
   |arr n=>
    have hro':Λ.fro (ρ j)=n:=hro;unfold Wx;simp [L.view,h1,hro']
   |iter q s seen c=>
    have hq:q<m1:=by simpa [z6.bd] using h2
    obtain ⟨b,bm,e1,e2,e3,e4⟩:=hro;exact ⟨b,bm,Yb e1 hs',e2,Yb e3 (hn.at_ q (by omega)),hq⟩
   |gro ver cs=>
    obtain ⟨q0,q⟩:=hro;rw [V.y7] at q
    refine ⟨by simpa [L.view,h1] using q0,?_⟩
    rcases q with ⟨e1,e2⟩|⟨b,arr,e,e1,e2,e3,e4⟩
    ·refine .inl ⟨by simpa using e1,fun b i hb=>?_⟩
     obtain ⟨k,a1,a2⟩:=yF hb;have:=(hn.inv _ _ a2).1;subst this;exact e2 b i a1
    ·exact .inr ⟨b,arr,e,z2n hn e1 hs',e2,by simpa using e3,fun i v c a1 a2=>(e4 i v (c.ren ρ) a1 (by simp [a2])).view hn rfl (V.ZH (by simpa [z6.bd] using h2) i c a2)⟩
   |yu os=>
    obtain ⟨q0,q⟩:=hro;refine ⟨fun b i hb=>?_,fun i cs hi=>?_⟩
    ·obtain ⟨k,a1,a2⟩:=yF hb;have:=(hn.inv _ _ a2).1;subst this;simpa using q0 b i a1
    ·obtain ⟨b,arr,e,e1,e2,e3,e4⟩:=q i (V.YU ρ cs) (by simp [hi]);rw [V.y7] at e3 e4
     have hbd:V.bds m1 cs=true:=by
      simp only [z6.bd,List.all_eq_true] at h2;exact h2 cs (zMG hi)
     exact ⟨b,arr,e,z0h e1 hs',e2,by simpa using e3,fun i v c a1 a2=>(e4 i v (c.ren ρ) a1 (by simp [a2])).view hn rfl (V.ZH hbd i c a2)⟩
   |y9 ns=>intro i;have:=hro i;simpa [L.view,h1] using this
   |Wl kag I=>
    obtain ⟨b,ents,clock,e1,e2,e3,e4,e5⟩:=hro;refine ⟨b,ents,clock,Yb e1 hs',e2,e3,e4,fun i e hi=>?_⟩;obtain ⟨cs,v,q1,q2,q3⟩:=e5 i e hi;exact ⟨cs,v,q1.yo fun _ _ h=>h.view,q2.view,q3⟩
  ·obtain ⟨k,a1,a2⟩:=Wv h1;obtain ⟨k',b1,b2⟩:=Wv h2;have:=(hn.inv _ _ a2).1;have:=(hn.inv _ _ b2).1
   subst_vars
   exact hr.inj b b' _ a1 b1
  ·exact z2t (hr.new b hb)
  ·rcases hb with hb|⟨fr,hb⟩
   ·obtain ⟨k,a1,a2⟩:=Wv hb;exact hfresh a2 (.inl a1)
   ·obtain ⟨k,a1,a2⟩:=z5j hb;exact hfresh a2 (.inr ⟨_,a1⟩)
  ·have hj':m1<=j:=hj;simp [L.view];omega
  ·obtain ⟨k,a1,a2⟩:=yF h1;obtain ⟨k',b1,b2⟩:=yF h2;have:=(hn.inv _ _ a2).1;have:=(hn.inv _ _ b2).1
   subst_vars
   exact hr.w9 b b' _ i a1 b1
  ·rcases hb with ⟨i,hb⟩|⟨i,fr,hb⟩
   ·obtain ⟨k,a1,a2⟩:=yF hb;exact hfreshF a2 (.inl ⟨_,a1⟩)
   ·obtain ⟨k,a1,a2⟩:=z4Q hb;exact hfreshF a2 (.inr ⟨_,_,a1⟩)
  ·have hj':m1<=j:=hj;simp [L.view];omega
 refine (h.2 (Λ.view ρ σ m1) args hr1 Z (by rw [hsz,V.y7];simp) fun j v y h1 h2=>(hargs j v (y.ren ρ) h1 (by rw [V.y7];simp [h2])).view hn Z (V.ZH hb j y h2)).mono fun e w' he=>?_;obtain ⟨v,Λ',rfl,rfl,k1,k2,k3,k4⟩:=he;simp only at k2 k3
 have hlt:∀{b:Nat},Λ.hid σ b=true->b<Λ.w.heap.size:=by
  intro b hh
  rcases Nat.lt_or_ge b Λ.w.heap.size with h|h
  ·exact h
  ·unfold L.hid at hh;rw [hr.new b h] at hh;simp at hh
 have hH:∀{b:Nat},Λ.hid σ b=true->(Λ.zY ρ σ Λ').lab b=Λ.lab b:=fun h=>by simp [L.zY,h]
 have hL:∀{b:Nat},Λ.hid σ b=false->(Λ.zY ρ σ Λ').lab b=(Λ'.lab b).ren ρ:=fun h=>by simp [L.zY,h]
 have hheap:∀{b:Nat},Λ.hid σ b=true->∃fr,Λ'.lab b= .fix (some fr)/\Λ'.w.heap[b]?=Λ.w.heap[b]?/\((∃k,Λ.lab b= .obj k/\σ k=none/\fr=0)∨(∃k,Λ.lab b= .arr k fr/\σ k=none)∨(∃k i,Λ.lab b= .fob k i/\σ k=none/\fr=0)∨∃k i,Λ.lab b= .far k i fr/\σ k=none):=by
  intro b hh;obtain ⟨fr,e1,e2⟩:=zc2 (ρ:=ρ) (m1:=m1) hh;obtain ⟨g1,g2⟩:=k1.fr.fix b (hlt hh) _ e1;exact ⟨fr,g1,g2,e2⟩
 have hvis:∀{b k j:Nat},σ k=some j->(Λ.lab b= .obj k∨∃fr,Λ.lab b= .arr k fr)->Λ.hid σ b=false:=by
  intro b k j hk hb;unfold L.hid
  rcases hb with hb|⟨fr,hb⟩<;>rw [hb]<;>simp [hk]
 have hvisF:∀{b k j:Nat},σ k=some j->((∃i,Λ.lab b= .fob k i)∨∃i fr,Λ.lab b= .far k i fr)->Λ.hid σ b=false:=by
  intro b k j hk hb;unfold L.hid
  rcases hb with ⟨i,hb⟩|⟨i,fr,hb⟩<;>rw [hb]<;>simp [hk]
 have hfix:∀{b:Nat} {fr:Option Nat},Λ.lab b= .fix fr->Λ.hid σ b=false:=by
  intro b fr hb;unfold L.hid;rw [hb]
 have rdren:∀{b o:Nat} {l:Nat->Lab},l b=(Λ'.lab b).ren ρ->Rd Λ'.lab b o->Rd l b o:=by
  intro b o l e h;unfold Rd at*;rw [e]
  cases hl:Λ'.lab b<;>rw [hl] at h<;>simp only [Lab.ren]<;>exact h
 have hinvF:∀{b k j i:Nat},σ k=some j->(Λ.zY ρ σ Λ').lab b= .fob k i->Λ'.lab b= .fob j i:=by
  intro b k j i hk hb
  cases hh:Λ.hid σ b with
  |true=>rw [hH hh] at hb;have:=hvisF hk (.inl ⟨i,hb⟩);rw [hh] at this;cases this
  |false=>
   rw [hL hh] at hb
   cases hl:Λ'.lab b<;>rw [hl] at hb<;>simp [Lab.ren] at hb
   rename_i j' i';obtain ⟨e1,rfl⟩:=hb;have hb1:=k3.wh b j' (.inl ⟨_,hl⟩);have hb2:=hn.at_ j' (by omega);rw [e1,hk] at hb2;simp at hb2;subst hb2;rfl
 have hkp:Kp Λ (Λ.zY ρ σ Λ'):=by
  refine ⟨⟨k1.fr.os,k1.fr.tape,k1.fr.output,k1.fr.size,fun b hb fr hl=>?_,fun b hb k fr hl o ho=>?_,fun b hb k i fr hl o ho=>?_⟩,Nat.le_refl _,fun b k _ hl=>?_,fun b k n _ hb hl hf=>?_,fun k hk=>?_,fun b k i _ hl=>?_,fun b k i n _ hb hl hf=>?_,fun k i hk=>?_,fun b k i hk hp hf hl=>?_⟩
  ·obtain ⟨g1,g2⟩:=k1.fr.fix b hb fr (z2t hl)
   exact ⟨by rw [hL (hfix hl),g1];rfl,g2⟩
  ·cases hk:σ k with
   |none=>
    have hh:Λ.hid σ b=true:=by unfold L.hid;rw [hl];simp [hk]
    obtain ⟨fr',g1,g2,g3⟩:=hheap hh
    exact ⟨by unfold Rd;rw [hH hh,hl];exact ho,cell?_heap g2⟩
   |some j=>
    have hh:=hvis hk (.inr ⟨_,hl⟩);obtain ⟨g1,g2⟩:=k1.fr.arr b hb j fr (z0b hl hk) o ho;exact ⟨rdren (hL hh) g1,g2⟩
  ·cases hk:σ k with
   |none=>
    have hh:Λ.hid σ b=true:=by unfold L.hid;rw [hl];simp [hk]
    obtain ⟨fr',g1,g2,g3⟩:=hheap hh
    exact ⟨by unfold Rd;rw [hH hh,hl];exact ho,cell?_heap g2⟩
   |some j=>
    have hh:=hvisF hk (.inr ⟨_,_,hl⟩);obtain ⟨g1,g2⟩:=k1.fr.far b hb j i fr (z0g hl hk) o ho;exact ⟨rdren (hL hh) g1,g2⟩
  ·cases hk:σ k with
   |none=>rw [hH (by unfold L.hid;rw [hl];simp [hk])];exact hl
   |some j=>
    rw [hL (hvis hk (.inl hl)),k1.obj b j (hfresh hk (.inl hl)) (Yb hl hk)];simp only [Lab.ren,(hn.inv k j hk).1]
  ·cases hk:σ k with
   |none=>
    have hh:Λ.hid σ b=true:=by unfold L.hid;rw [hl];simp [hk]
    obtain ⟨fr',g1,g2,g3⟩:=hheap hh
    exact ⟨by rw [hH hh];exact hl,g2⟩
   |some j=>
    have hj:=hfresh hk (.inr ⟨_,hl⟩)
    have e1:(Λ.view ρ σ m1).fro j=Λ.fro k:=by simp [L.view,hj,(hn.inv k j hk).1]
    have e2:(Λ.zY ρ σ Λ').fro k=Λ'.fro j:=by simp [L.zY,hk]
    obtain ⟨g1,g2⟩:=k1.own b j n hj hb (z0b hl hk) (by rw [←e2,hf,e1])
    exact ⟨by rw [hL (hvis hk (.inr ⟨_,hl⟩)),g1];simp only [Lab.ren,(hn.inv k j hk).1],g2⟩
  ·cases hk':σ k with
   |none=>simp [L.zY,hk']
   |some j=>
    obtain ⟨e1,e2⟩:=hn.inv k j hk';simp only [L.zY,hk'];by_cases hj:j<m1
    ·have:=k1.fro j hj;simpa [L.view,hj,e1] using this
    ·have e3:=hn.new j (by omega) e2;rw [(hfree k (by omega) (by omega)).2.1.fro];omega
  ·cases hk:σ k with
   |none=>
    have hh:Λ.hid σ b=true:=by unfold L.hid;rw [hl];simp [hk]
    obtain ⟨fr',g1,g2,g3⟩:=hheap hh
    exact ⟨by rw [hH hh];exact hl,fun N hN=>by unfold Zs at hN⊢;show (match Λ'.w.heap[b]? with|some (.cells arr _ _)=>some arr.size|_=>none)=_;rw [g2];exact hN⟩
   |some j=>
    obtain ⟨g1,g2⟩:=k1.fob b j i (hfreshF hk (.inl ⟨_,hl⟩)) (z0h hl hk)
    exact ⟨by rw [hL (hvisF hk (.inl ⟨_,hl⟩)),g1];simp only [Lab.ren,(hn.inv k j hk).1],g2⟩
  ·cases hk:σ k with
   |none=>
    have hh:Λ.hid σ b=true:=by unfold L.hid;rw [hl];simp [hk]
    obtain ⟨fr',g1,g2,g3⟩:=hheap hh
    exact ⟨by rw [hH hh];exact hl,g2⟩
   |some j=>
    have hj:=hfreshF hk (.inr ⟨_,_,hl⟩)
    have e1:(Λ.view ρ σ m1).frf j i=Λ.frf k i:=by simp [L.view,hj,(hn.inv k j hk).1]
    have e2:(Λ.zY ρ σ Λ').frf k i=Λ'.frf j i:=by simp [L.zY,hk]
    obtain ⟨g1,g2⟩:=k1.far b j i n hj hb (z0g hl hk) (by rw [←e2,hf,e1])
    exact ⟨by rw [hL (hvisF hk (.inr ⟨_,_,hl⟩)),g1];simp only [Lab.ren,(hn.inv k j hk).1],g2⟩
  ·cases hk':σ k with
   |none=>simp [L.zY,hk']
   |some j=>
    obtain ⟨e1,e2⟩:=hn.inv k j hk';simp only [L.zY,hk'];by_cases hj:j<m1
    ·have:=k1.frf j i hj;simpa [L.view,hj,e1] using this
    ·have e3:=hn.new j (by omega) e2;rw [(hfree k (by omega) (by omega)).2.1.frf];omega
  ·cases hk':σ k with
   |none=>
    cases hh:Λ.hid σ b with
    |true=>rw [hH hh] at hl;exact hl
    |false=>
     rw [hL hh] at hl
     cases hl':Λ'.lab b<;>rw [hl'] at hl<;>simp [Lab.ren] at hl
     rename_i j' i';have hb1:=k3.wh b j' (.inl ⟨_,hl'⟩);have hb2:=hn.at_ j' (by omega);rw [hl.1,hk'] at hb2;cases hb2
   |some j=>
    have hb1:=hinvF hk' hl;obtain ⟨e1,e2⟩:=hn.inv k j hk';by_cases hj:j<m1
    ·have e3:(Λ.view ρ σ m1).frf j 0=Λ.frf k 0:=by simp [L.view,hj,e1]
     have e4:(Λ.zY ρ σ Λ').frf k 0=Λ'.frf j 0:=by simp [L.zY,hk']
     obtain ⟨k',a1,a2⟩:=yF (k1.z4z b j i hj (by rw [e3];exact hp) (by rw [←e4,hf,e3]) hb1);have:=(hn.inv _ _ a2).1;rw [←this,e1] at a1;exact a1
    ·have e3:=hn.new j (by omega) e2;have:=(hfree k (by omega) (by omega)).2.1.frf 0;omega
 have hobj:∀{b j:Nat},Λ'.lab b= .obj j->(Λ.zY ρ σ Λ').lab b= .obj (ρ j):=by
  intro b k hb
  cases hh:Λ.hid σ b with
  |true=>obtain ⟨fr,g1,_⟩:=hheap hh;rw [g1] at hb;simp at hb
  |false=>rw [hL hh,hb];rfl
 have harr:∀{b j n:Nat},Λ'.lab b= .arr j n->(Λ.zY ρ σ Λ').lab b= .arr (ρ j) n:=by
  intro b k n hb
  cases hh:Λ.hid σ b with
  |true=>obtain ⟨fr,g1,_⟩:=hheap hh;rw [g1] at hb;simp at hb
  |false=>rw [hL hh,hb];rfl
 have hfob:∀{b j i:Nat},Λ'.lab b= .fob j i->(Λ.zY ρ σ Λ').lab b= .fob (ρ j) i:=by
  intro b k i hb
  cases hh:Λ.hid σ b with
  |true=>obtain ⟨fr,g1,_⟩:=hheap hh;rw [g1] at hb;simp at hb
  |false=>rw [hL hh,hb];rfl
 have hfar:∀{b j i n:Nat},Λ'.lab b= .far j i n->(Λ.zY ρ σ Λ').lab b= .far (ρ j) i n:=by
  intro b k i n hb
  cases hh:Λ.hid σ b with
  |true=>obtain ⟨fr,g1,_⟩:=hheap hh;rw [g1] at hb;simp at hb
  |false=>rw [hL hh,hb];rfl
 have hcur:∀{b j:Nat},j<m1+out.n->qc Λ'.lab j b->qc (Λ.zY ρ σ Λ').lab (ρ j) b:=by
  rintro b j hj ⟨i,e1,e2⟩;exact ⟨i,hfob e1,fun b' i' h'=>e2 b' i' (hinvF (hn.at_ j hj) h')⟩
 have hrep:∀{u:Value} {y:T},zP Λ'.lab Λ'.w u y->zP (Λ.zY ρ σ Λ').lab (Λ.zY ρ σ Λ').w u y:=by
  intro u y hy;refine hy.yo fun b o _ _ hrd=>⟨?_,rfl⟩
  cases hh:Λ.hid σ b with
  |true=>
   obtain ⟨fr,g1,_,g3⟩:=hheap hh;unfold Rd at hrd⊢;rw [g1] at hrd;rw [hH hh]
   rcases g3 with ⟨k,e,_,rfl⟩|⟨k,e,_⟩|⟨k,i,e,_,rfl⟩|⟨k,i,e,_⟩
   ·simp at hrd
   ·rw [e];exact hrd
   ·simp at hrd
   ·rw [e];exact hrd
  |false=>exact rdren (hL hh) hrd
 have hfro:∀{j:Nat},j<m1+out.n->(Λ.zY ρ σ Λ').fro (ρ j)=Λ'.fro j:=by
  intro j hj;simp [L.zY,hn.at_ j hj]
 have hfrf:∀{j i:Nat},j<m1+out.n->(Λ.zY ρ σ Λ').frf (ρ j) i=Λ'.frf j i:=by
  intro j i hj;simp [L.zY,hn.at_ j hj]
 have hρ:∀{j:Nat},j<m1+out.n->ρ j<Λ.nxt:=by
  intro j hj;by_cases h1:j<m1
  ·have:=hn.low j h1;omega
  ·have:=hn.new j (by omega) hj;omega
 have hval:∀{u:Value} {y:V},zu Λ' u y->zu (Λ.zY ρ σ Λ') u (y.ren ρ):=by
  intro u y hy
  induction hy with
  |t h=>exact .t (hrep h)
  |zI=>exact .zI
  |@own v k sz xs h hsz hl hn' ho=>
   rw [k2] at hl;refine .own (hrep h) hsz (hρ hl) (by rw [hfro hl];exact hn') fun he=>?_
   rcases ho (by rw [←hfro hl];exact he) with ho|⟨b,cap,arr,e,hv,hb',hh,hc,hn'⟩
   ·exact .inl ho
   ·exact .inr ⟨b,cap,arr,e,hv,harr hb',hh,hc,hn'⟩
  |slc hl hc h=>exact .slc (hρ (by omega)) hc (hobj h)
  |agg hs _ ih=>
   refine .agg (by rw [V.y7];simpa using hs) fun j v c h1 h2=>?_;rw [V.y7,List.getElem?_map,Option.map_eq_some_iff] at h2;obtain ⟨c',h3,rfl⟩:=h2;exact ih j v c' h1 h3
  |tup hs _ ih=>
   refine .tup (by rw [V.y7];simpa using hs) fun j v c h1 h2=>?_;rw [V.y7,List.getElem?_map,Option.map_eq_some_iff] at h2;obtain ⟨c',h3,rfl⟩:=h2;exact ih j v c' h1 h3
  |ptr hl h=>exact .ptr (hρ (by omega)) (hobj h)
  |mp hl h=>exact .mp (hρ (by omega)) (hobj h)
  |fn hs h=>
   refine .fn (by simpa using hs) fun j v c h1 h2=>?_;rw [List.getElem?_map,Option.map_eq_some_iff] at h2;obtain ⟨c',h3,rfl⟩:=h2;obtain ⟨b,e1,e2,e3⟩:=h j v c' h1 h3;exact ⟨b,e1,hobj e2,hρ (by omega)⟩
  |gd _ h' ih=>exact .gd ih h'
  |top=>exact .top
  |ub h h'=>exact .ub h h'
  |fpt hl h=>exact .fpt (hρ (by omega)) (hfob h)
  |gpt hv hl hm h=>
   rw [k2] at hl;refine .gpt hv (hρ hl) (by rw [hfrf hl];exact hm) fun he=>?_;obtain ⟨b,e1,e2⟩:=h (by rw [←hfrf hl];exact he);exact ⟨b,e1,hcur hl e2⟩
  |gsl hv hl hm h=>
   rw [k2] at hl;refine .gsl hv (hρ hl) (by rw [hfrf hl];exact hm) fun he=>?_
   rcases h (by rw [←hfrf hl];exact he) with h|⟨b,cap,N,hv,hc,e2,hN,he'⟩
   ·exact .inl h
   ·exact .inr ⟨b,cap,N,hv,hc,hcur hl e2,hN,he'⟩
  |fow h hsz hl hm ho=>
   rw [k2] at hl;refine .fow (hrep h) hsz (hρ hl) (by rw [hfrf hl];exact hm) fun he=>?_
   rcases ho (by rw [←hfrf hl];exact he) with ho|⟨b,cap,arr,e,hv,hb',hh,hc,hn'⟩
   ·exact .inl ho
   ·exact .inr ⟨b,cap,arr,e,hv,hfar hb',hh,hc,hn'⟩
 have hname:∀{b k:Nat},Λ.hid σ b=true->((Λ.zY ρ σ Λ').lab b= .obj k∨∃n,(Λ.zY ρ σ Λ').lab b= .arr k n)->σ k=none/\(Λ.lab b= .obj k∨∃n,Λ.lab b= .arr k n):=by
  intro b k hh hb;rw [hH hh] at hb;refine ⟨?_,hb⟩
  unfold L.hid at hh;rcases hb with hb|⟨n,hb⟩<;>rw [hb] at hh<;>simpa using hh
 have hseen:∀{b k:Nat},Λ.hid σ b=false->((Λ.zY ρ σ Λ').lab b= .obj k∨∃n,(Λ.zY ρ σ Λ').lab b= .arr k n)->∃j,ρ j=k/\j<m1+out.n/\(Λ'.lab b= .obj j∨∃n,Λ'.lab b= .arr j n):=by
  intro b k hh hb;rw [hL hh] at hb
  cases hl:Λ'.lab b with
  |fix fr=>rw [hl] at hb;simp [Lab.ren] at hb
  |obj j=>rw [hl] at hb;simp [Lab.ren] at hb;have:=k3.bnd b j (.inl hl);exact ⟨j,hb,by omega,.inl rfl⟩
  |arr j n=>rw [hl] at hb;simp [Lab.ren] at hb;have:=k3.bnd b j (.inr ⟨n,hl⟩);exact ⟨j,hb,by omega,.inr ⟨n,rfl⟩⟩
  |fob j i=>rw [hl] at hb;simp [Lab.ren] at hb
  |far j i n=>rw [hl] at hb;simp [Lab.ren] at hb
 have hseenF:∀{b k:Nat},Λ.hid σ b=false->((∃i,(Λ.zY ρ σ Λ').lab b= .fob k i)∨∃i n,(Λ.zY ρ σ Λ').lab b= .far k i n)->∃j,ρ j=k/\j<m1+out.n:=by
  intro b k hh hb;rw [hL hh] at hb
  cases hl:Λ'.lab b with
  |fix fr=>rw [hl] at hb;simp [Lab.ren] at hb
  |obj j=>rw [hl] at hb;simp [Lab.ren] at hb
  |arr j n=>rw [hl] at hb;simp [Lab.ren] at hb
  |fob j i=>rw [hl] at hb;simp [Lab.ren] at hb;have:=k3.wh b j (.inl ⟨i,hl⟩);exact ⟨j,hb,by omega⟩
  |far j i n=>rw [hl] at hb;simp [Lab.ren] at hb;have:=k3.wh b j (.inr ⟨i,n,hl⟩);exact ⟨j,hb,by omega⟩
 obtain ⟨ag1,ag2⟩:=qm hn out.ob sto s1 (fun j hj=>by
  by_cases h1:j<m1
  ·exact hsub j h1
  ·have e3:=hn.new j (by omega) hj;rw [(hfree (ρ j) (by omega) (by omega)).2.2]
   cases ha:zi s1 j with
   |none=>rfl
   |some o=>have:=(qh hs j o ha).1;omega) (fun j o hj=>(hob j o hj).1)
 refine ⟨v,Λ.zY ρ σ Λ',rfl,rfl,hkp,rfl,?_,hval k4,fun k hk _ hcase=>?_⟩
 ·refine ⟨fun k o ho=>?_,fun b b' k h1 h2=>?_,fun b hb=>?_,fun b k hb=>?_,fun k hk=>?_,fun b b' k i h1 h2=>?_,fun b k hb=>?_,fun k i hk=>?_⟩
  ·cases hk:σ k with
   |none=>
    have ho':zi sto k=some o:=by rw [←ag2 k hk];exact ho
    obtain ⟨g1,g2⟩:=hr.sto k o ho'
    refine ⟨g1,g2.mono hkp g1 (fun b hb=>?_) (by simp [L.zY,hk]) (fun b i hb=>?_) (fun b i hb=>?_) (fun i=>by simp [L.zY,hk])⟩
    ·obtain ⟨fr,q1,q2,_⟩:=hheap (b:=b) (by unfold L.hid;rw [hb];simp [hk]);exact q2
    ·obtain ⟨fr,q1,q2,_⟩:=hheap (b:=b) (by unfold L.hid;rw [hb];simp [hk]);exact q2
    ·cases hh:Λ.hid σ b with
     |true=>rw [hH hh] at hb;exact hb
     |false=>obtain ⟨j,e1,e2⟩:=hseenF hh (.inl ⟨i,hb⟩);rw [←e1,hn.at_ j e2] at hk;cases hk
   |some j=>
    obtain ⟨e1,e2⟩:=hn.inv k j hk;subst e1;have ho':zi (Zq sto (out.ob.map fun e=>(ρ e.1,e.2.ren ρ))) (ρ j)=some o:=ho;rw [ag1 j e2,Option.map_eq_some_iff] at ho';obtain ⟨o1,a1,rfl⟩:=ho';obtain ⟨g1,g2⟩:=k3.sto j o1 a1;refine ⟨hρ e2,?_⟩
    cases o1 with
    |cells cs=>
     obtain ⟨b,arr,e,e1,e2,e3,e4⟩:=g2
     refine ⟨b,arr,e,hobj e1,e2,by rw [V.y7];simpa using e3,fun i v c a1 a2=>?_⟩
     rw [V.y7,List.getElem?_map,Option.map_eq_some_iff] at a2;obtain ⟨c',a3,rfl⟩:=a2;exact hval (e4 i v c' a1 a3)
    |map kag es sx=>
     obtain ⟨b,ents,clock,e1,e2,e3⟩:=g2
     refine ⟨b,ents,clock,hobj e1,e2,⟨by simpa using e3.size,fun i e kv a1 a2=>?_,e3.born,e3.apart,e3.known⟩⟩
     rw [List.getElem?_map,Option.map_eq_some_iff] at a2;obtain ⟨kv',a3,rfl⟩:=a2;obtain ⟨q1,q2⟩:=e3.at_ i e kv' a1 a3;exact ⟨q1.yo fun _ _ h=>hrep h,hval q2⟩
    |arr n'=>
     unfold Wx at*;simp only [z6.ren];rw [hfro e2];exact g2
    |iter q s seen c=>
     obtain ⟨b,bm,a1,a2,a3,a4⟩:=g2;exact ⟨b,bm,hobj a1,a2,hobj a3,hρ (by omega)⟩
    |gro ver cs=>
     obtain ⟨q0,q⟩:=g2
     refine ⟨by rw [hfrf e2];exact q0,?_⟩
     rw [V.y7]
     rcases q with ⟨e3,e4⟩|⟨b,arr,e,e3,e4,e5,e6⟩
     ·exact .inl ⟨by simp [e3],fun b i hb=>e4 b i (hinvF (hn.at_ j e2) hb)⟩
     ·refine .inr ⟨b,arr,e,hcur e2 e3,e4,by simpa using e5,fun i v c a1 a2=>?_⟩
      rw [List.getElem?_map,Option.map_eq_some_iff] at a2;obtain ⟨c',a3,rfl⟩:=a2;exact hval (e6 i v c' a1 a3)
    |yu os=>
     obtain ⟨q0,q⟩:=g2
     refine ⟨fun b i hb=>by simpa using q0 b i (hinvF (hn.at_ j e2) hb),fun i cs hi=>?_⟩
     rw [List.getElem?_map,Option.map_eq_some_iff] at hi;obtain ⟨cs',hi,rfl⟩:=hi;obtain ⟨b,arr,e,e3,e4,e5,e6⟩:=q i cs' hi
     refine ⟨b,arr,e,hfob e3,e4,by rw [V.y7];simpa using e5,fun i v c a1 a2=>?_⟩
     rw [V.y7,List.getElem?_map,Option.map_eq_some_iff] at a2;obtain ⟨c',a3,rfl⟩:=a2;exact hval (e6 i v c' a1 a3)
    |y9 ns=>exact fun i=>(hfrf e2).trans (g2 i)
    |Wl kag I=>
     obtain ⟨b,ents,clock,e3,e4,e5,e6,e7⟩:=g2;refine ⟨b,ents,clock,hobj e3,e4,e5,e6,fun i e hi=>?_⟩;obtain ⟨cs,v,q1,q2,q3⟩:=e7 i e hi;exact ⟨cs,v,q1.yo fun _ _ h=>hrep h,hrep q2,q3⟩
  ·cases hh:Λ.hid σ b with
   |true=>
    obtain ⟨q1,q2⟩:=hname hh (.inl h1)
    cases hh':Λ.hid σ b' with
    |true=>
     rw [hH hh] at h1;rw [hH hh'] at h2;exact hr.inj b b' k h1 h2
    |false=>
     obtain ⟨j,e1,e2,_⟩:=hseen hh' (.inl h2);rw [←e1,hn.at_ j e2] at q1;cases q1
   |false=>
    obtain ⟨j,e1,e2,_⟩:=hseen hh (.inl h1)
    cases hh':Λ.hid σ b' with
    |true=>
     obtain ⟨q1,_⟩:=hname hh' (.inl h2);rw [←e1,hn.at_ j e2] at q1;cases q1
    |false=>
     rw [hL hh] at h1;rw [hL hh'] at h2
     cases hl:Λ'.lab b<;>rw [hl] at h1<;>simp [Lab.ren] at h1
     cases hl':Λ'.lab b'<;>rw [hl'] at h2<;>simp [Lab.ren] at h2
     rename_i j1 j2;have b1:=k3.bnd b j1 (.inl hl);have b2:=k3.bnd b' j2 (.inl hl');have c1:=hn.at_ j1 (by omega);have c2:=hn.at_ j2 (by omega);rw [h1] at c1;rw [h2,c1] at c2;simp at c2;subst c2;exact k3.inj b b' j1 hl hl'
  ·have hge:Λ.w.heap.size<=b:=Nat.le_trans k1.fr.size hb;rw [hL (hfix (hr.new b hge)),k3.new b hb];rfl
  ·show k<Λ.nxt
   cases hh:Λ.hid σ b with
   |true=>exact hr.bnd b k (hname hh hb).2
   |false=>obtain ⟨j,rfl,e2,_⟩:=hseen hh hb;exact hρ e2
  ·have hk':Λ.nxt<=k:=hk
   cases hs:σ k with
   |none=>simp only [L.zY,hs];exact hr.frz k hk'
   |some j=>obtain ⟨rfl,e2⟩:=hn.inv k j hs;have:=hρ e2;omega
  ·cases hk:σ k with
   |some j=>exact k3.w9 b b' j i (hinvF hk h1) (hinvF hk h2)
   |none=>
    have hd:∀{b:Nat},(Λ.zY ρ σ Λ').lab b= .fob k i->Λ.lab b= .fob k i:=by
     intro b hb
     cases hh:Λ.hid σ b with
     |true=>rw [hH hh] at hb;exact hb
     |false=>obtain ⟨j,e1,e2⟩:=hseenF hh (.inl ⟨i,hb⟩);rw [←e1,hn.at_ j e2] at hk;cases hk
    exact hr.w9 b b' k i (hd h1) (hd h2)
  ·show k<Λ.nxt
   cases hh:Λ.hid σ b with
   |true=>rw [hH hh] at hb;exact hr.wh b k hb
   |false=>obtain ⟨j,rfl,e2⟩:=hseenF hh hb;exact hρ e2
  ·have hk':Λ.nxt<=k:=hk
   cases hs:σ k with
   |none=>simp only [L.zY,hs];exact hr.z1A k i hk'
   |some j=>obtain ⟨rfl,e2⟩:=hn.inv k j hs;have:=hρ e2;omega
 ·have hge:m+out.n<=k:=by
   rcases hcase with h|⟨_,h⟩
   ·exact h
   ·cases h
  have hs0:σ k=none:=by
   cases hs:σ k with
   |none=>rfl
   |some j=>
    obtain ⟨rfl,e2⟩:=hn.inv k j hs;by_cases h1:j<m1
    ·have:=hn.low j h1;omega
    ·have:=hn.new j (by omega) e2;omega
  refine ⟨fun b hb=>?_,fun b n hb=>?_,by simp only [L.zY,hs0];exact hk.fro,fun b i hb=>?_,fun b i n hb=>?_,fun i=>by simp only [L.zY,hs0];exact hk.frf i⟩
  ·cases hh:Λ.hid σ b with
   |true=>rw [hH hh] at hb;exact hk.obj b hb
   |false=>obtain ⟨j,e1,e2,_⟩:=hseen hh (.inl hb);rw [←e1,hn.at_ j e2] at hs0;cases hs0
  ·cases hh:Λ.hid σ b with
   |true=>rw [hH hh] at hb;exact hk.arr b n hb
   |false=>obtain ⟨j,e1,e2,_⟩:=hseen hh (.inr ⟨n,hb⟩);rw [←e1,hn.at_ j e2] at hs0;cases hs0
  ·cases hh:Λ.hid σ b with
   |true=>rw [hH hh] at hb;exact hk.fob b i hb
   |false=>obtain ⟨j,e1,e2⟩:=hseenF hh (.inl ⟨i,hb⟩);rw [←e1,hn.at_ j e2] at hs0;cases hs0
  ·cases hh:Λ.hid σ b with
   |true=>rw [hH hh] at hb;exact hk.far b i n hb
   |false=>obtain ⟨j,e1,e2⟩:=hseenF hh (.inr ⟨i,n,hb⟩);rw [←e1,hn.at_ j e2] at hs0;cases hs0
mutual
theorem V.z0x:∀v:V,v.ren id=v
 | .t x=>rfl
 | .zI=>rfl
 | .top=>rfl
 | .own k sz xs=>rfl
 | .slc k o l s=>rfl
 | .ptr k o=>rfl
 | .mp k=>rfl
 | .fn f cs=>by simp [V.ren]
 | .agg cs=>by simp [V.ren,V.Wz cs]
 | .tup cs=>by simp [V.ren,V.Wz cs]
 | .gd c x=>by simp [V.ren,V.z0x x]
 | .ub c d=>rfl
 | .fpt k i o=>rfl
 | .gpt k v o=>rfl
 | .gsl k v o l s=>rfl
 | .fow k i s xs=>rfl
theorem V.Wz:∀cs:List V,V.YU id cs=cs
 |[]=>rfl
 |x::r=>by simp [V.YU,V.z0x x,V.Wz r]
end
theorem z6.z0x:∀o:z6,o.ren id=o
 | .cells cs=>by simp [z6.ren,V.Wz]
 | .map kag es st=>by
  simp only [z6.ren,z6.map.injEq,true_and,and_true]
  exact (List.map_congr_left fun e _=>by rw [V.z0x];rfl).trans (List.map_id _)
 | .arr n=>rfl
 | .iter q s seen c=>rfl
 | .gro v cs=>by simp [z6.ren,V.Wz]
 | .yu os=>by simp [z6.ren,show V.YU id=id from funext V.Wz]
 | .y9 ns=>rfl
 | .Wl a I=>rfl
theorem z7.wide {f:FuncId} {vs:List V} {x:V} {m:Nat} {sto:List (Nat×z6)} (h:z7 P f vs ⟨sto,m⟩ {v:=x,rd:=true}) (hb:V.bds m vs=true) (hs:zR m sto=true):FnL P f vs m sto {v:=x,rd:=true}:=by
 intro s hk
 have hrn:Rn id (fun k=>if k<m then some k else none) m m 0:=by
  refine ⟨fun k j h=>?_,fun j hj=>?_,fun j hj=>hj,fun j h1 h2=>?_⟩
  ·by_cases hkm:k<m
   ·simp only [if_pos hkm,Option.some.injEq] at h;subst h;exact ⟨rfl,by omega⟩
   ·simp only [if_neg hkm] at h;cases h
  ·exact if_pos (by simpa using hj)
  ·omega
 have:=z7.ren (sto:=s) (P:=P) (out:={v:=x,rd:=true}) hrn h hb hs (fun j hj=>by
  rw [id,hk j hj]
  cases zi sto j with
  |none=>rfl
  |some o=>simp [z6.z0x]) (fun k o hk=>by simp at hk)
 rw [V.Wz,V.z0x] at this;exact this
theorem zbE {f:FuncId} {vs:List V} {x:V} {base:Nat} {sto:List (Nat×z6)} {K:Out->Prop} (h:z7 P f vs ⟨sto,base⟩ {v:=x,rd:=true}) (hb:V.bds base vs=true) (hs:zR base sto=true) (hk:K {v:=x,rd:=true}):QP P f vs base sto K:=
 ⟨_,by simp only [if_true];exact h.wide hb hs,hk⟩
end
end Go.GB
namespace Go.GB
def Yu {ρ:Type} (n:Nat) (K:Nat->ρ):ρ:=
 match n with
 |0=>K 0|1=>K 1|2=>K 2|3=>K 3|4=>K 4|5=>K 5|6=>K 6|7=>K 7|8=>K 8|9=>K 9|10=>K 10|11=>K 11|12=>K 12|13=>K 13|14=>K 14|15=>K 15
 |16=>K 16|17=>K 17|18=>K 18|19=>K 19|20=>K 20|21=>K 21|22=>K 22|23=>K 23|24=>K 24|25=>K 25|26=>K 26|27=>K 27|28=>K 28|29=>K 29|30=>K 30|n=>K n
theorem YY {ρ:Type} (n:Nat) (K:Nat->ρ):Yu n K=K n:=by
 unfold Yu;split<;>rfl
inductive It where
 |c (a:zW)
 |blk (id:Nat)
 |lp (a:zW)
section
variable {P:Program} {n m:Nat} {R:St->Prop}
def ZR (P:Program) (n m:Nat) (R:St->Prop):List It->Yz->St->Prop
 |[],.exit _,_=>False
 |[],_,st=>R st
 | .c a::k,.normal,st=>Sat P n m a st (ZR P n m R k)
 | .c _::k,e,st=>ZR P n m R k e st
 | .blk id::k,.exit id',st=>if id'=id then ZR P n m R k .normal st else ZR P n m R k (.exit id') st
 | .blk _::k,e,st=>ZR P n m R k e st
 | .lp a::k,.normal,st=>z3s P n m a st (ZR P n m R k)
 | .lp _::k,e,st=>ZR P n m R k e st
def Run (P:Program) (n m:Nat) (R:St->Prop) (k:List It) (st:St):Prop:=ZR P n m R k .normal st
theorem qY:∀(k:List It) (st:St),ZR P n m R k .ret st=R st
 |[],st=>rfl
 | .c a::k,st=>by simp only [ZR];exact qY k st
 | .blk a::k,st=>by simp only [ZR];exact qY k st
 | .lp a::k,st=>by simp only [ZR];exact qY k st
def z0t (id:Nat):List It->Option (List It)
 |[]=>none
 | .blk i::k=>bif Nat.beq id i then some k else z0t id k
 | .c _::k=>z0t id k
 | .lp _::k=>z0t id k
theorem z03 {id:Nat} {st:St}:∀{k k':List It},z0t id k=some k'->Run P n m R k' st->ZR P n m R k (.exit id) st
 | .c _::k,k',h,hr=>by simp only [ZR];exact z03 (by simpa [z0t] using h) hr
 | .lp _::k,k',h,hr=>by simp only [ZR];exact z03 (by simpa [z0t] using h) hr
 | .blk i::k,k',h,hr=>by
  simp only [z0t] at h;simp only [ZR];by_cases e:id=i
  ·subst e;simp at h;subst h;simp only [if_true];exact hr
  ·have hb:Nat.beq id i=false:=by
    cases hb:Nat.beq id i with
    |false=>rfl
    |true=>exact absurd (Nat.eq_of_beq_eq_true hb) e
   rw [hb] at h;simp only [e,if_false];exact z03 h hr
def yd:Nat->List It->List It
 |0,k=>k
 |f+1,.c (.seq a b)::k=>yd f (.c a:: .c b::k)
 |f+1,.c (.block id a)::k=>yd f (.c a:: .blk id::k)
 |f+1,.c .skip::k=>yd f k
 |f+1,.c (.scope a)::k=>yd f (.c a::k)
 |f+1,.c .lbl::k=>yd f k
 |f+1,.blk _::k=>yd f k
 |_+1,.c .ret::_=>[]
 |f+1,.c (.exit id)::k=>match z0t id k with|some k'=>yd f k'|none=> .c (.exit id)::k
 |_+1,k=>k
theorem Run.adv:∀(f:Nat) {k k':List It} {st:St},yd f k=k'->Run P n m R k' st->Run P n m R k st
 |0,k,k',st,h,hr=>by simp only [Go.GB.yd] at h;subst h;exact hr
 |f+1,[],k',st,h,hr=>by simp only [Go.GB.yd] at h;subst h;exact hr
 |f+1,.lp a::k,k',st,h,hr=>by simp only [Go.GB.yd] at h;subst h;exact hr
 |f+1,.blk id::k,k',st,h,hr=>by
  simp only [Go.GB.yd] at h;have:=Run.adv f h hr;simpa only [Run,ZR] using this
 |f+1,.c a::k,k',st,h,hr=>by
  cases a with
  |seq a b=>
   simp only [Go.GB.yd] at h;have:=Run.adv f h hr;simp only [Run,ZR] at this⊢;refine Sat.seq (this.mono fun e st' he=>?_)
   cases e with
   |normal=>simpa only [ZR,z1q] using he
   |exit id=>simpa only [ZR,z1q] using he
   |ret=>simpa only [ZR,z1q] using he
  |block id a=>
   simp only [Go.GB.yd] at h;have:=Run.adv f h hr;simp only [Run,ZR] at this⊢;refine Sat.block (this.mono fun e st' he=>?_)
   cases e with
   |normal=>simpa only [ZR,z5U] using he
   |exit id=>simpa only [ZR,z5U] using he
   |ret=>simpa only [ZR,z5U] using he
  |skip=>
   simp only [Go.GB.yd] at h;have:=Run.adv f h hr;exact Sat.skip this
  |lbl=>
   simp only [Go.GB.yd] at h;have:=Run.adv f h hr;exact Sat.lbl this
  |scope a=>
   simp only [Go.GB.yd] at h;have:=Run.adv f h hr;exact Sat.scope this
  |ret=>
   simp only [Go.GB.yd] at h;subst h;refine Sat.ret ?_;rw [qY];exact hr
  |exit id=>
   simp only [Go.GB.yd] at h
   cases hp:z0t id k with
   |none=>rw [hp] at h;subst h;exact hr
   |some k2=>
    rw [hp] at h;exact Sat.exit (z03 hp (Run.adv f h hr))
  |region d o a l=>simp only [Go.GB.yd] at h;subst h;exact hr
  |cond z a b=>simp only [Go.GB.yd] at h;subst h;exact hr
  |loop c=>simp only [Go.GB.yd] at h;subst h;exact hr
def Mid (P:Program) (n m:Nat) (R:St->Prop) (draw:Bool) (all:List AO) (after:List (List Nat)) (live:List Nat) (k:List It) (b:Nat) (fl:List (Bool×Bool)) (ops:List AO) (st:St):Prop:=
 evR P b st ops fl.reverse fun b st' fl=>z4j draw all after fl st'.env/\Run P n m R k (z1y live b st')
theorem Run.region {b:Nat} {k k':List It} {draw:Bool} {ops:List AO} {after:List (List Nat)} {live:List Nat} {st:St} (hk:yd 200 k= .c (.region draw ops after live)::k') (hb:Yu st.s.nxt some=some b) (h:Mid P n m R draw ops after live k' b [] ops st):Run P n m R k st:=
 Run.adv 200 hk (Sat.region (by rw [YY] at hb;simp at hb;subst hb;exact h))
theorem Run.cond {k k':List It} {z:Ar} {a b:zW} {st:St} {t:Bool} (hk:yd 200 k= .c (.cond z a b)::k') (hz:z.v st= .t (.bool t)) (h1:t=true->Run P n m R (.c a::k') st) (h2:t=false->Run P n m R (.c b::k') st):Run P n m R k st:=
 Run.adv 200 hk (Sat.ite hz h1 h2)
theorem Run.zm {k k':List It} {z:Ar} {a b:zW} {st:St} {t:Bool} (hk:yd 200 k= .c (.cond z a b)::k') (hz:z.v st= .t (.bool t)) (ht:t=true) (h1:Run P n m R (.c a::k') st):Run P n m R k st:=
 Run.adv 200 hk (Sat.ite hz (fun _=>h1) (fun h=>by rw [ht] at h;cases h))
theorem Run.zj {k k':List It} {z:Ar} {a b:zW} {st:St} {t:Bool} (hk:yd 200 k= .c (.cond z a b)::k') (hz:z.v st= .t (.bool t)) (ht:t=false) (h1:Run P n m R (.c b::k') st):Run P n m R k st:=
 Run.adv 200 hk (Sat.ite hz (fun h=>by rw [ht] at h;cases h) (fun _=>h1))
theorem Run.fin {k:List It} {st:St} (hk:yd 200 k=[]) (h:R st):Run P n m R k st:=Run.adv 200 hk h
theorem Run.loop {k k':List It} {c:zW} {st:St} (hk:yd 200 k= .c (.loop c)::k') (h:Run P n m R (.lp c::k') st):Run P n m R k st:=
 Run.adv 200 hk (Sat.loop h)
theorem Run.wO {k:List It} {c:zW} {st:St} (h:Run P n m R (.c c:: .lp c::k) st):Run P n m R (.lp c::k) st:=by
 simp only [Run,ZR] at h⊢;refine z3s.wO (Sat.mono h fun e st' he=>?_)
 cases e with
 |normal=>simpa only [ZR,z1q] using he
 |exit id=>simpa only [ZR,z1q] using he
 |ret=>simpa only [ZR,z1q] using he
theorem Run.Qj {k k':List It} {c:zW} {st st':St} (j:Nat) (hk:yd 200 k= .lp c::k') (h:Run P n m R (.lp c::k') st') (h1:Nat.ble m j=true) (h2:Nat.ble j st.s.nxt=true) (h3:Nat.ble j st'.s.nxt=true) (he:LeE j st'.s.nxt st.env st'.env) (hs:LeS j st'.s.nxt st.s.sto st'.s.sto):Run P n m R k st:=
 Run.adv 200 hk (z3s.Qj j h (zLB h1) (zLB h2) (zLB h3) he hs)
theorem Run.zfJ {k k':List It} {c:zW} {st st':St} (j:Nat) (hk:yd 200 k= .c c::k') (h:Run P n m R (.c c::k') st') (h1:Nat.ble m j=true) (h2:Nat.ble j st.s.nxt=true) (h3:Nat.ble j st'.s.nxt=true) (he:LeE j st'.s.nxt st.env st'.env) (hs:LeS j st'.s.nxt st.s.sto st'.s.sto):Run P n m R k st:=
 Run.adv 200 hk (Sat.Qj j h (zLB h1) (zLB h2) (zLB h3) he hs)
def V.zaK {ρ:Type} (v:V) (K:V->ρ):ρ:=
 match v with
 | .agg cs=>K (.agg cs)
 | .tup cs=>K (.tup cs)
 | .t x=>K (.t x)
 | .zI=>K .zI
 | .own k sz xs=>K (.own k sz xs)
 | .slc k o l s=>K (.slc k o l s)
 | .ptr k o=>K (.ptr k o)
 | .mp k=>K (.mp k)
 | .fn f cs=>K (.fn f cs)
 | .gd c x=>K (.gd c x)
 | .ub c x=>K (.ub c x)
 | .top=>K .top
 | .fpt k i o=>K (.fpt k i o)
 | .gpt k w o=>K (.gpt k w o)
 | .gsl k w o l s=>K (.gsl k w o l s)
 | .fow k i sz xs=>K (.fow k i sz xs)
theorem V.z5E {ρ:Type} (v:V) (K:V->ρ):v.zaK K=K v:=by
 cases v<;>rfl
def WC {ρ:Type}:List V->(List V->ρ)->ρ
 |[],K=>K []
 |x::r,K=>x.zaK fun x'=>WC r fun r'=>K (x'::r')
theorem Wh {ρ:Type}:∀(l:List V) (K:List V->ρ),WC l K=K l
 |[],K=>rfl
 |x::r,K=>by simp only [WC,V.z5E];exact Wh r _
def V.force {ρ:Type} (v:V) (K:V->ρ):ρ:=
 match v with
 | .agg cs=>WC cs fun cs'=>K (.agg cs')
 | .tup cs=>WC cs fun cs'=>K (.tup cs')
 | .t x=>K (.t x)
 | .zI=>K .zI
 | .own k sz xs=>K (.own k sz xs)
 | .slc k o l s=>K (.slc k o l s)
 | .ptr k o=>K (.ptr k o)
 | .mp k=>K (.mp k)
 | .fn f cs=>K (.fn f cs)
 | .gd c x=>K (.gd c x)
 | .ub c x=>K (.ub c x)
 | .top=>K .top
 | .fpt k i o=>K (.fpt k i o)
 | .gpt k w o=>K (.gpt k w o)
 | .gsl k w o l s=>K (.gsl k w o l s)
 | .fow k i sz xs=>K (.fow k i sz xs)
theorem V.force_eq {ρ:Type} (v:V) (K:V->ρ):v.force K=K v:=by
 cases v<;>simp only [V.force,Wh]
def z5h {ρ:Type}:Nat->List V->(List (Nat×V)->ρ)->ρ
 |_,[],K=>K []
 |i,x::r,K=>x.force fun x'=>Yu (i+1) fun j=>z5h j r fun e=>K ((i,x')::e)
theorem z43 {ρ:Type}:∀(vs:List V) (i:Nat) (K:List (Nat×V)->ρ),z5h i vs K=K (qG i vs)
 |[],i,K=>rfl
 |x::r,i,K=>by simp only [z5h,V.force_eq,YY,z43 r,qG]
theorem z7.run {f:FuncId} {n:Nat} {ac:zW} {rs:List q8} {vs:List V} {s:S} {out:Out} (hi:zd P f=some (n,ac.bare,rs)) (hm:P.follows .mixedOrders=true) (hn:Nat.ble vs.length n=true)
  {e:List (Nat×V)} (he:z5h 0 vs some=some e) (h:Run P n s.nxt (z3 s out rs .ret) [.c ac] {env:=e,s:=s}):z7 P f vs s out:=by
 rw [z43] at he;simp at he;subst he;refine z7.zf4 hi hm (zLB hn) (Sat.mono h fun e st he=>?_)
 cases e with
 |normal=>exact he
 |exit id=>exact he.elim
 |ret=>exact he
def z3C {α ρ:Type}:List (Nat×α)->Nat->α->(List (Nat×α)->ρ)->ρ
 |[],d,v,K=>K [(d,v)]
 |(k,x)::r,d,v,K=>bif Nat.beq k d then K ((k,v)::r) else z3C r d v fun r'=>K ((k,x)::r')
theorem z07 {α ρ:Type}:∀(e:List (Nat×α)) (d:Nat) (v:α) (K:List (Nat×α)->ρ),z3C e d v K=K (Yc e d v)
 |[],d,v,K=>rfl
 |(k,x)::r,d,v,K=>by
  simp only [z3C,Yc];by_cases e:k=d
  ·subst e;simp
  ·have hb:Nat.beq k d=false:=by
    cases hb:Nat.beq k d with
    |false=>rfl
    |true=>exact absurd (Nat.eq_of_beq_eq_true hb) e
   simp only [hb,cond_false,e,if_false];exact z07 r d v _
def z62 {ρ:Type} (live:List Nat):List (Nat×V)->(List (Nat×V)->ρ)->ρ
 |[],K=>K []
 |(t,x)::r,K=>bif live.any (Nat.beq t) then z62 live r fun r'=>K ((t,x)::r') else z62 live r K
theorem any_beq (live:List Nat) (t:Nat):live.any (Nat.beq t)=live.contains t:=by
 induction live with
 |nil=>rfl
 |cons a r ih=>
  simp only [List.any_cons,List.contains_cons,ih];congr 1;by_cases e:t=a
  ·subst e;simp
  ·have hb:Nat.beq t a=false:=by
    cases hb:Nat.beq t a with
    |false=>rfl
    |true=>exact absurd (Nat.eq_of_beq_eq_true hb) e
   simp [hb,e]
theorem Wp {ρ:Type} (live:List Nat):∀(e:List (Nat×V)) (K:List (Nat×V)->ρ),z62 live e K=K (W3 live e)
 |[],K=>rfl
 |(t,x)::r,K=>by
  simp only [z62,W3,any_beq]
  cases h:live.contains t<;>simp [Wp live r]
def setEnv {ρ:Type} (st:St) (d:Option Nat) (v:V) (K:List (Nat×V)->ρ):ρ:=
 match d with
 |some d=>z3C st.env d v K
 |none=>K st.env
theorem Zp {ρ:Type} (st:St) (d:Option Nat) (v:V) (K:List (Nat×V)->ρ):setEnv st d v K=K (match d with|some d=>Yc st.env d v|none=>st.env):=by
 cases d<;>simp only [setEnv,z07]
def QI {ρ:Type} (b:Bool) (K:Bool->ρ):ρ:=match b with|true=>K true|false=>K false
theorem Wg {ρ:Type} (b:Bool) (K:Bool->ρ):QI b K=K b:=by cases b<;>rfl
def St.z4T {ρ:Type} (st:St) (e:List (Nat×V)) (K:St->ρ):ρ:=match st with|⟨_,⟨sto,nx⟩⟩=>K ⟨e,⟨sto,nx⟩⟩
theorem St.Zz {ρ:Type} (st:St) (e:List (Nat×V)) (K:St->ρ):st.z4T e K=K ⟨e,st.s⟩:=rfl
def z8a (gc:Bool) (st:St) (op:AOp):Option (V×List Bool):=
 match op with
 | .pick c (.c (.t (.bool true))) b=>
  match rd gc st c with
  |(.t (.bool cb),p1)=>
   match rd (gc&&!cb) st b with
   |(.t (.bool xb),p3)=>some (.t (.bool (cb||xb)),p1++([]++p3))
   |_=>zh gc st op
  |_=>zh gc st op
 | .pick c a (.c (.t (.bool false)))=>
  match rd gc st c with
  |(.t (.bool cb),p1)=>
   match rd (gc&&cb) st a with
   |(.t (.bool xa),p2)=>some (.t (.bool (cb&&xa)),p1++(p2++[]))
   |_=>zh gc st op
  |_=>zh gc st op
 | .eqb true x y=>
  match rd gc st x with
  |(.t (.bool a),p1)=>
   match rd gc st y with
   |(.t (.bool b),p2)=>some (.t (.bool (!(a==b))),p1++p2)
   |_=>zh gc st op
  |_=>zh gc st op
 | .eqb false x y=>
  match rd gc st x with
  |(.t (.bool a),p1)=>
   match rd gc st y with
   |(.t (.bool b),p2)=>some (.t (.bool (a==b)),p1++p2)
   |_=>zh gc st op
  |_=>zh gc st op
 |op=>zh gc st op
theorem z6E (gc:Bool) (st:St) (op:AOp):z8a gc st op=zh gc st op:=by
 unfold z8a;split
 ·rename_i c b;split
  ·rename_i cb p1 hc;split
   ·rename_i xb p3 hb;simp only [zh,hc,hb];simp only [rd,Ar.v,V.un]
    cases cb<;>rfl
   ·rfl
  ·rfl
 ·rename_i c a _;split
  ·rename_i cb p1 hc;split
   ·rename_i xa p2 ha;simp only [zh,hc,ha];simp only [rd,Ar.v,V.un]
    cases cb<;>rfl
   ·rfl
  ·rfl
 ·split
  ·rename_i h1;split
   ·rename_i h2;simp [zh,h1,h2]
   ·rfl
  ·rfl
 ·split
  ·rename_i h1;split
   ·rename_i h2;simp [zh,h1,h2]
   ·rfl
  ·rfl
 ·rfl
theorem yK (a:Bool):(!a||(!a||a))=true:=by cases a<;>rfl
theorem yJ (a:Bool):(!a||true)=true:=by cases a<;>rfl
theorem yL (a b:Bool):(!a||(!(a&&b)||(a&&b)))=true:=by cases a<;>cases b<;>rfl
def z10 (st:St) (d:Option Nat) (op:AOp):Option (List Bool×St×Bool):=
 match z8a true st op with
 |some (v,ps)=>v.force fun v'=>setEnv st d v' fun e=>QI (Za st op) fun l=>st.z4T e fun st'=>some (ps,st',l)
 |none=>none
theorem zbA {st st':St} {d:Option Nat} {op:AOp} {ps:List Bool} {l:Bool} (h:z10 st d op=some (ps,st',l)):
  ∃v,zh true st op=some (v,ps)/\st'=st.app d {v:=v,rd:=l}/\Za st op=l:=by
 unfold z10 at h;rw [z6E] at h;split at h
 ·rename_i v ps' hv;simp only [V.force_eq,Zp,Wg,St.Zz,Option.some.injEq,Prod.mk.injEq] at h;obtain ⟨rfl,h2,h3⟩:=h;refine ⟨v,hv,?_,h3⟩
  rw [←h2];cases d<;>rfl
 ·cases h
variable {draw:Bool} {all:List AO} {after:List (List Nat)} {live:List Nat} {k:List It} {b:Nat} {fl:List (Bool×Bool)} {ops:List AO} {st st':St} {d:Option Nat}
theorem Mid.pure {op:AOp} {ps:List Bool} {l:Bool} (h:z10 st d op=some (ps,st',l)) (hp:Z7 ps) (h':Mid P n m R draw all after live k b ((l,false)::fl) ops st'):Mid P n m R draw all after live k b fl (⟨d,none,op⟩::ops) st:=by
 obtain ⟨v,h1,rfl,h3⟩:=zbA h;unfold Mid at h'⊢;simp only [evR,evO,evU,h1,h3];refine ⟨hp,?_⟩;simpa using h'
theorem Mid.ze5 {op:AOp} {l:Bool} (h:z10 st d op=some ([],st',l)) (h':Mid P n m R draw all after live k b ((l,false)::fl) ops st'):Mid P n m R draw all after live k b fl (⟨d,none,op⟩::ops) st:=
 Mid.pure h trivial h'
def ZU (want:Bool):V->Option Bool
 | .t (.bool b)=>match want with|true=>some b|false=>some (!b)
 | .gd c (.t (.bool b))=>match want with|true=>some (c&&b)|false=>some (c&&!b)
 | .gd false .top=>some false
 |_=>none
theorem wA (want:Bool) (v:V):ZU want v=z4p want v:=by
 unfold ZU z4p
 cases want<;>split<;>simp_all
def stepG (st:St) (d:Option Nat) (s:Nat) (want:Bool) (op:AOp):Option (List Bool×St×Bool):=
 match ZU want (look st.env s) with
 |none=>none
 |some gc=>
  match z8a gc st op with
  |some (v,ps)=>v.force fun v'=>setEnv st d (.gd gc v') fun e=>QI (Za st op) fun l=>st.z4T e fun st'=>some (ps.map (fun p=>!gc||p),st',l)
  |none=>none
theorem Mid.grd {op:AOp} {s:Nat} {want:Bool} {ps:List Bool} {l:Bool} (h:stepG st d s want op=some (ps,st',l)) (hp:Z7 ps) (h':Mid P n m R draw all after live k b ((l,false)::fl) ops st'):Mid P n m R draw all after live k b fl (⟨d,some (s,want),op⟩::ops) st:=by
 unfold stepG at h;rw [wA] at h;split at h
 ·cases h
 ·rename_i gc hgc;rw [z6E] at h;split at h
  ·rename_i v ps' hv;simp only [V.force_eq,Zp,Wg,St.Zz,Option.some.injEq,Prod.mk.injEq] at h;obtain ⟨rfl,h2,h3⟩:=h;unfold Mid at h'⊢;simp only [evR,evO,hgc,hv,h3];refine ⟨hp,?_⟩
   have:st'=st.app d {v:= .gd gc v,rd:=l}:=by rw [←h2];cases d<;>rfl
   rw [this] at h';simpa using h'
  ·cases h
theorem Mid.opX {op:AOp} (hn:zh true st op=none) (h:evX P b st (fun o=>Mid P n m R draw all after live k (b+o.n) ((o.rd,!o.ob.isEmpty||decide (0<o.n))::fl) ops (st.app d o)) op):Mid P n m R draw all after live k b fl (⟨d,none,op⟩::ops) st:=by
 unfold Mid at h⊢;simp only [evR,evO,evU,hn];exact .inl (by simpa using h)
theorem Mid.opY {op:AOp} {o:Out} (hn:zh true st op=none) (hy:q9 st b op o) (h:Mid P n m R draw all after live k (b+o.n) ((o.rd,!o.ob.isEmpty||decide (0<o.n))::fl) ops (st.app d o)):Mid P n m R draw all after live k b fl (⟨d,none,op⟩::ops) st:=by
 unfold Mid at h⊢;simp only [evR,evO,evU,hn]
 exact .inr ⟨o,hy,by simpa using h⟩
def V.Qm:V->V
 | .own _ _ xs=> .t (.lst xs)
 | .fow _ _ _ xs=> .t (.lst xs)
 | .zI=> .t (.lst [])
 |v=>v
def z6J {ρ:Type}:List V->(List V->ρ)->ρ
 |[],K=>K []
 |x::r,K=>x.Qm.zaK fun x'=>z6J r fun r'=>K (x'::r')
theorem z2d {ρ:Type}:∀(l:List V) (K:List V->ρ),z6J l K=K (l.map V.Qm)
 |[],K=>rfl
 |x::r,K=>by simp only [z6J,V.z5E,z2d r,List.map_cons]
def V.q5:V->V
 | .agg cs=> .agg (cs.map V.Qm)
 |v=>v.Qm
def V.z87 {ρ:Type} (v:V) (K:V->ρ):ρ:=
 match v with
 | .agg cs=>z6J cs fun cs'=>K (.agg cs')
 | .own _ _ xs=>K (.t (.lst xs))
 | .zI=>K (.t (.lst []))
 | .tup cs=>WC cs fun cs'=>K (.tup cs')
 | .t x=>K (.t x)
 | .slc k o l s=>K (.slc k o l s)
 | .ptr k o=>K (.ptr k o)
 | .mp k=>K (.mp k)
 | .fn f cs=>K (.fn f cs)
 | .gd c x=>K (.gd c x)
 | .ub c x=>K (.ub c x)
 | .top=>K .top
 | .fpt k i o=>K (.fpt k i o)
 | .gpt k w o=>K (.gpt k w o)
 | .gsl k w o l s=>K (.gsl k w o l s)
 | .fow _ _ _ xs=>K (.t (.lst xs))
theorem V.z5D {ρ:Type} (v:V) (K:V->ρ):v.z87 K=K v.q5:=by
 cases v<;>simp only [V.z87,V.q5,V.Qm,z2d,Wh]
theorem zu.Qm {Λ:L} {u:Value} {x:V} (h:zu Λ u x):zu Λ u x.Qm:=by
 cases h with
 |own h _ _ _ _=>exact .t h
 |zI=>exact .t .nil
 |t h=>exact .t h
 |slc a b c=>exact .slc a b c
 |agg a b=>exact .agg a b
 |tup a b=>exact .tup a b
 |ptr a b=>exact .ptr a b
 |mp a b=>exact .mp a b
 |fn a b=>exact .fn a b
 |gd a b=>exact .gd a b
 |ub a b=>exact .ub a b
 |top=>exact .top
 |fpt a b=>exact .fpt a b
 |gpt a b c d=>exact .gpt a b c d
 |gsl a b c d=>exact .gsl a b c d
 |fow h _ _ _ _=>exact .t h
theorem zu.q5 {Λ:L} {u:Value} {x:V} (h:zu Λ u x):zu Λ u x.q5:=by
 cases x with
 |agg cs=>
  cases h with
  |agg hs hv=>
   refine .agg (by simpa using hs) fun j v c h1 h2=>?_;rw [List.getElem?_map,Option.map_eq_some_iff] at h2;obtain ⟨c',h3,rfl⟩:=h2;exact (hv j v c' h1 h3).Qm
 |_=>exact h.Qm
def qD (vs vs':List V):Prop:=vs.length=vs'.length/\∀(Λ:L) (j:Nat) (u:Value) (x y:V),vs[j]?=some x->vs'[j]?=some y->zu Λ u x->zu Λ u y
theorem qD.pure (vs:List V):qD vs (vs.map V.q5):=by
 refine ⟨by simp,fun Λ j u x y h1 h2 h=>?_⟩
 rw [List.getElem?_map,h1] at h2;simp at h2;subst h2;exact h.q5
theorem qD.rfl {vs:List V}:qD vs vs:=⟨Eq.refl _,fun Λ j u x y h1 h2 h=>by rw [h1] at h2;simp at h2;subst h2;exact h⟩
theorem qD.app {a b c d:List V} (h:qD a b) (k:qD c d):qD (a++c) (b++d):=by
 refine ⟨by simp [h.1,k.1],fun Λ j u x y h1 h2 hr=>?_⟩
 by_cases hj:j<a.length
 ·rw [List.getElem?_append_left hj] at h1;rw [List.getElem?_append_left (by rw [←h.1];exact hj)] at h2;exact h.2 Λ j u x y h1 h2 hr
 ·rw [List.getElem?_append_right (by omega)] at h1;rw [List.getElem?_append_right (by rw [←h.1];omega),←h.1] at h2;exact k.2 Λ _ u x y h1 h2 hr
theorem YS.le {f:FuncId} {vs vs':List V} {base:Nat} {sto:List (Nat×z6)} {out:Out} (hl:qD vs vs') (h:YS P f vs' base sto out):YS P f vs base sto out:=
 ⟨h.1,h.2.1,fun Λ args h1 h2 h3 h4 h5=>h.2.2 Λ args h1 h2 h3 (h4.trans hl.1) fun j v x hj hx=>by
  have hlt:j<vs.length:=by rw [hl.1];exact (List.getElem?_eq_some_iff.1 hx).1
  have hv:=List.getElem?_eq_getElem hlt
  exact hl.2 Λ j v _ x hv hx (h5 j v _ hj hv)⟩
theorem QP.le {f:FuncId} {vs vs':List V} {base:Nat} {sto:List (Nat×z6)} {K:Out->Prop} (hl:qD vs vs') (h:QP P f vs' base sto K):QP P f vs base sto K:=by
 obtain ⟨out,h1,h2⟩:=h;refine ⟨out,?_,h2⟩;split
 ·rename_i e;rw [e] at h1;exact fun s hs=>YS.le hl (h1 s hs)
 ·rename_i e
  have h1':∀s,YS P f vs' base s out:=by simpa [e] using h1
  exact fun s=>YS.le hl (h1' s)
theorem qi.le {f:FuncId} {vs vs':List V} {base:Nat} {sto:List (Nat×z6)} {K:Out->Prop} (hl:qD vs vs') (h:qi P f vs' base sto K):qi P f vs base sto K:=by
 obtain ⟨out,h1,h2⟩:=h;refine ⟨out,?_,h2⟩;split
 ·rename_i e;rw [e] at h1;exact YS.le hl h1
 ·rename_i e
  have h1':∀s,YS P f vs' base s out:=by simpa [e] using h1
  exact fun s=>YS.le hl (h1' s)
def z1n {α:Type} (st:St):List Ar->(List V->α)->α
 |[],K=>K []
 |x::r,K=>V.z87 (x.u st) fun v=>z1n st r fun vs=>K (v::vs)
theorem qe {α:Type} (st:St):∀(l:List Ar) (K:List V->α),z1n st l K=K ((yw st l).map V.q5)
 |[],K=>rfl
 |x::r,K=>by simp only [z1n,V.z5D,qe st r,yw,List.map_cons]
def zO {α:Type} (st:St) (d:Option Nat) (v:V) (K:St->α):α:=v.force fun v'=>setEnv st d v' fun e=>st.z4T e K
theorem Mid.call {f:FuncId} {args:List Ar} {vs:List V} {x:V} (h:z7 P f vs ⟨[],0⟩ {v:=x}) (hv:z1n st args some=some vs) (hb:V.bds 0 vs=true) (hx:x.bd 0=true) (hs:zO st d x some=some st')
  (h':Mid P n m R draw all after live k b ((false,false)::fl) ops st'):Mid P n m R draw all after live k b fl (⟨d,none,.call f args⟩::ops) st:=by
 rw [qe] at hv;simp at hv;refine Mid.opX Z ?_;simp only [evX];refine QP.le (qD.pure _) ?_;rw [hv];refine zaN h hb hx ?_;simp only [zO,V.force_eq,Zp,St.Zz,Option.some.injEq] at hs
 have:st'=st.app d {v:=x}:=by rw [←hs];cases d<;>rfl
 rw [this] at h';exact h'
theorem Mid.Qs {f:FuncId} {args:List Ar} {vs:List V} {x:V} (h:z7 P f vs ⟨st.s.sto,b⟩ {v:=x,rd:=true}) (hv:z1n st args some=some vs) (hb:V.bds b vs=true) (hsb:zR b st.s.sto=true) (hs:zO st d x some=some st')
  (h':Mid P n m R draw all after live k b ((true,false)::fl) ops st'):Mid P n m R draw all after live k b fl (⟨d,none,.call f args⟩::ops) st:=by
 rw [qe] at hv;simp at hv;refine Mid.opX Z ?_;simp only [evX];refine QP.le (qD.pure _) ?_;rw [hv];refine zbE h hb hsb ?_;simp only [zO,V.force_eq,Zp,St.Zz,Option.some.injEq] at hs
 have:st'=st.app d {v:=x,rd:=true}:=by rw [←hs];cases d<;>rfl
 rw [this] at h';exact h'
theorem Mid.z4D {f:FuncId} {caps:List (Nat×Nat)} {y:Ar} {args:List Ar} {vs:List V} {x:V} (hf:y.u st= .fn f caps) (h:z7 P f (vs++qp caps) ⟨st.s.sto,b⟩ {v:=x,rd:=true}) (hv:z1n st args some=some vs) (hb:V.bds b (vs++qp caps)=true) (hsb:zR b st.s.sto=true) (hs:zO st d x some=some st')
  (h':Mid P n m R draw all after live k b ((true,false)::fl) ops st'):Mid P n m R draw all after live k b fl (⟨d,none,.z18 y args⟩::ops) st:=by
 rw [qe] at hv;simp at hv;refine Mid.opX Z ?_;simp only [evX,hf];refine qi.le ((qD.pure _).app .rfl) ?_;rw [hv];refine z9P h hb hsb ?_;simp only [zO,V.force_eq,Zp,St.Zz,Option.some.injEq] at hs
 have:st'=st.app d {v:=x,rd:=true}:=by rw [←hs];cases d<;>rfl
 rw [this] at h';exact h'
def unK {α:Type} (gc:Bool) (v:V) (K:V->List Bool->α):α:=
 match v with
 | .gd c x=>x.z87 fun x'=>K x' [!gc||c]
 | .agg cs=>z6J cs fun cs'=>K (.agg cs') []
 | .tup cs=>WC cs fun cs'=>K (.tup cs') []
 | .t x=>K (.t x) []
 | .zI=>K (.t (.lst [])) []
 | .own _ _ xs=>K (.t (.lst xs)) []
 | .slc k o l s=>K (.slc k o l s) []
 | .ptr k o=>K (.ptr k o) []
 | .mp k=>K (.mp k) []
 | .fn f cs=>K (.fn f cs) []
 | .ub c d=>K (.ub c d) []
 | .top=>K .top []
 | .fpt k i o=>K (.fpt k i o) []
 | .gpt k w o=>K (.gpt k w o) []
 | .gsl k w o l s=>K (.gsl k w o l s) []
 | .fow _ _ _ xs=>K (.t (.lst xs)) []
theorem zfg {α:Type} (gc:Bool) (v:V) (K:V->List Bool->α):unK gc v K=K (v.un gc).1.q5 (v.un gc).2:=by
 cases v<;>simp only [unK,z2d,Wh,V.z5D,V.un,V.q5,V.Qm]
def z3e {α:Type} (gc:Bool) (st:St):List Ar->(List V->List Bool->α)->α
 |[],K=>K [] []
 |x::r,K=>unK gc (x.v st) fun v p=>z3e gc st r fun vs ps=>K (v::vs) (p++ps)
theorem w8 {a b:List Bool}:Z7 (a++b)↔Z7 a/\Z7 b:=by
 induction a with
 |nil=>simp [Z7]
 |cons x r ih=>simp [Z7,ih,and_assoc]
theorem z5F {st:St}:∀{l:List Ar} {vs:List V} {ps:List Bool},z3e true st l (fun vs ps=>some (vs,ps))=some (vs,ps)->Z7 ps->(yw st l).map V.q5=vs:=by
 have key:∀(l:List Ar) {ρ:Type} (K:List V->List Bool->ρ),∃vs ps,z3e true st l K=K vs ps/\(Z7 ps->(yw st l).map V.q5=vs):=by
  intro l
  induction l with
  |nil=>intro ρ K;exact ⟨[],[],rfl,fun _=>rfl⟩
  |cons x r ih=>
   intro ρ K;simp only [z3e,zfg];obtain ⟨vs,ps,h1,h2⟩:=ih fun vs ps=>K (((x.v st).un true).1.q5::vs) (((x.v st).un true).2++ps);refine ⟨_,_,h1,fun hp=>?_⟩;rw [w8] at hp;simp only [yw,List.map_cons,h2 hp.2,Ar.u];congr 1;congr 1
   cases hv:x.v st<;>simp only [V.un,V.ug] at*
   rename_i c y;have:=hp.1;rw [hv] at this;simp [V.un,Z7] at this;simp [this]
 intro l vs ps h hp;obtain ⟨vs',ps',h1,h2⟩:=key l fun vs ps=>some (vs,ps);rw [h1] at h;simp at h;obtain ⟨rfl,rfl⟩:=h;exact h2 hp
theorem Mid.qo {f:FuncId} {s:Nat} {want gc:Bool} {args:List Ar} {vs:List V} {ps:List Bool} {x:V} (hg:ZU want (look st.env s)=some gc) (hv:z3e gc st args (fun vs ps=>some (vs,ps))=some (vs,ps)) (hp:Z7 (ps.map fun p=>!gc||p)) (h:gc=true->∃vs',vs=vs'/\z7 P f vs' ⟨[],0⟩ {v:=x}/\V.bds 0 vs'=true) (hx:x.bd 0=true) (hs:zO st d (.gd gc x) some=some st')
  (h':Mid P n m R draw all after live k b ((false,false)::fl) ops st'):Mid P n m R draw all after live k b fl (⟨d,some (s,want),.call f args⟩::ops) st:=by
 rw [wA] at hg;simp only [zO,V.force_eq,Zp,St.Zz,Option.some.injEq] at hs
 have:st'=st.app d {v:= .gd gc x}:=by rw [←hs];cases d<;>rfl
 rw [this] at h';unfold Mid at h'⊢;simp only [evR,evO,hg,zh];refine .inl ⟨{v:=x},?_,⟨rfl,rfl⟩,?_⟩
 ·intro hgc;simp only [Bool.false_eq_true,if_false];intro s;obtain ⟨vs',e1,e2,e3⟩:=h hgc;subst hgc
  have hpp:Z7 ps:=by
   have:∀l:List Bool,Z7 (l.map fun p=>!true||p)->Z7 l:=by
    intro l
    induction l with
    |nil=>exact fun h=>h
    |cons a r ih=>intro h;exact ⟨by simpa using h.1,ih h.2⟩
   exact this ps hp
  refine YS.le (qD.pure _) ?_;rw [z5F hv hpp,e1];exact e2.pure e3 hx
 ·simpa using h'
def z53 {α:Type} (live:List Nat) (b:Nat) (st:St) (K:St->α):α:=match st with|⟨env,⟨sto,_⟩⟩=>z62 live env fun e=>K ⟨e,⟨sto,b⟩⟩
theorem Mid.done (h:z53 live b st some=some st') (hr:z4j draw all after fl.reverse st.env) (h':Run P n m R k st'):Mid P n m R draw all after live k b fl [] st:=by
 obtain ⟨env,⟨sto,nx⟩⟩:=st;simp only [z53,Wp,Option.some.injEq] at h;subst h;exact ⟨hr,h'⟩
theorem Mid.z44 (h:z53 live b st some=some st') (h':Run P n m R k st'):Mid P n m R false all after live k b fl [] st:=
 Mid.done h (fun h=>by cases h) h'
def z6.force {ρ:Type} (o:z6) (K:z6->ρ):ρ:=
 match o with
 | .cells cs=>WC cs fun cs'=>K (.cells cs')
 | .map kag es s=>K (.map kag es s)
 | .arr n=>K (.arr n)
 | .iter q s u c=>K (.iter q s u c)
 | .gro w cs=>WC cs fun cs'=>K (.gro w cs')
 | .yu os=>K (.yu os)
 | .y9 ns=>K (.y9 ns)
 | .Wl a I=>K (.Wl a I)
theorem z6.force_eq {ρ:Type} (o:z6) (K:z6->ρ):o.force K=K o:=by
 cases o<;>simp only [z6.force,Wh]
def z5x {ρ:Type}:List (Nat×z6)->List (Nat×z6)->(List (Nat×z6)->ρ)->ρ
 |s,[],K=>K s
 |s,(k,o)::r,K=>o.force fun o'=>z3C s k o' fun s'=>z5x s' r K
theorem z47 {ρ:Type}:∀(r s:List (Nat×z6)) (K:List (Nat×z6)->ρ),z5x s r K=K (Zq s r)
 |[],s,K=>rfl
 |(k,o)::r,s,K=>by simp only [z5x,z6.force_eq,z07,z47 r,Zq]
def z7T {α ρ:Type}:List α->(List α->ρ)->ρ
 |[],K=>K []
 |x::r,K=>z7T r fun r'=>K (x::r')
theorem z4b {α ρ:Type}:∀(l:List α) (K:List α->ρ),z7T l K=K l
 |[],K=>rfl
 |x::r,K=>z4b r _
def z1J {α ρ:Type}:List (List α)->(List (List α)->ρ)->ρ
 |[],K=>K []
 |x::r,K=>z7T x fun x'=>z1J r fun r'=>K (x'::r')
theorem z2Y {α ρ:Type}:∀(l:List (List α)) (K:List (List α)->ρ),z1J l K=K l
 |[],K=>rfl
 |x::r,K=>by simp only [z1J,z4b];exact z2Y r _
def z0o {ρ:Type} (b:Nat) (st:St) (d:Option Nat) (o:Out) (K:Nat->St->ρ):ρ:=
 Yu (b+o.n) fun b'=>o.v.force fun v'=>setEnv st d v' fun e=>z5x st.s.sto o.ob fun sto=>match st with|⟨_,⟨_,nx⟩⟩=>K b' ⟨e,⟨sto,nx⟩⟩
theorem qU {ρ:Type} (b:Nat) (st:St) (d:Option Nat) (o:Out) (K:Nat->St->ρ):z0o b st d o K=K (b+o.n) (st.app d o):=by
 obtain ⟨env,⟨sto,nx⟩⟩:=st;simp only [z0o,YY,V.force_eq,Zp,z47]
 cases d<;>rfl
def yq (b:Nat) (st:St):AOp->Option Out
 | .st n x v=>
  match x.u st with
  | .ptr k o=>
   match zi st.s.sto k with
   |some (.cells cs)=>
    match (v.u st).parts with
    |some vs=>bif Nat.beq vs.length n&&Nat.ble (o+n) cs.length&&vs.all V.Zm then some {v:= .top,ob:=[(k,.cells (setAt cs o vs))],rd:=true} else none
    |none=>none
   |_=>none
  |_=>none
 | .box n x=>
  match (x.u st).parts with
  |some vs=>bif Nat.beq vs.length n&&vs.all V.Zm then some {v:= .ptr b 0,ob:=[(b,.cells vs)],n:=1} else none
  |none=>none
 | .alloc zs=>some {v:= .ptr b 0,ob:=[(b,.cells zs)],n:=1}
 | .bsl ow sz zs ps=>
  match Zu st sz zs ps with
  |some xs=>z1J xs fun xs=>bif ZF sz xs then (match ow with|true=>(match xs with|[]=>some {v:= .zI}|y::ys=>some {v:= .own b sz (y::ys),ob:=[(b,.arr (y::ys).length)],n:=1})|false=>some {v:= .t (.lst xs)}) else none
  |none=>none
 |_=>none
theorem zbb {P:Program} {b:Nat} {st:St} {op:AOp} {o:Out} {K:Out->Prop} (h:yq b st op=some o) (hk:K o):evX P b st K op:=by
 unfold yq at h;split at h
 ·rename_i nn x v;simp only [evX];split at h
  ·rename_i k oo hx;rw [hx];simp only;split at h
   ·rename_i cs hc;rw [hc];simp only;split at h
    ·rename_i vs hv;rw [hv];simp only
     cases hh:(Nat.beq vs.length nn&&Nat.ble (oo+nn) cs.length&&vs.all V.Zm) with
     |false=>rw [hh] at h;simp at h
     |true=>
      rw [hh] at h;simp at h;subst h;simp only [Bool.and_eq_true] at hh;refine ⟨⟨?_,hh.2⟩,hk⟩;have h1:=Nat.eq_of_beq_eq_true hh.1.1;have h2:=zLB hh.1.2;simp [h1,h2]
    ·cases h
   ·cases h
  ·cases h
 ·rename_i nn x;simp only [evX];split at h
  ·rename_i vs hv;rw [hv];simp only
   cases hh:(Nat.beq vs.length nn&&vs.all V.Zm) with
   |false=>rw [hh] at h;simp at h
   |true=>
    rw [hh] at h;simp at h;subst h;simp only [Bool.and_eq_true] at hh;refine ⟨⟨?_,hh.2⟩,hk⟩;have h1:=Nat.eq_of_beq_eq_true hh.1;simp [h1]
  ·cases h
 ·simp at h;subst h;exact hk
 ·rename_i ow sz zs ps;simp only [evX];split at h
  ·rename_i xs hv;rw [hv];simp only [z2Y] at h⊢
   cases hh:ZF sz xs with
   |false=>rw [hh] at h;simp at h
   |true=>
    rw [hh] at h;refine ⟨rfl,?_⟩
    cases ow with
    |false=>simp at h;subst h;exact hk
    |true=>
     left
     cases xs with
     |nil=>simp at h;subst h;exact hk
     |cons y ys=>simp at h;subst h;exact hk
  ·cases h
 ·cases h
def z99 (b:Nat) (st:St) (d:Option Nat) (op:AOp):Option (Nat×St×Bool×Bool):=
 match yq b st op with
 |some o=>QI o.rd fun r=>QI (!o.ob.isEmpty||decide (0<o.n)) fun c=>z0o b st d o fun b' st'=>some (b',st',r,c)
 |none=>none
theorem z7z {st:St} {op:AOp} {b:Nat} {o:Out} (h:yq b st op=some o):zh true st op=none:=by
 cases op<;>first |rfl|(simp [yq] at h)
variable {b':Nat}
theorem Mid.eff {op:AOp} {r c:Bool} (h:z99 b st d op=some (b',st',r,c)) (h':Mid P n m R draw all after live k b' ((r,c)::fl) ops st'):Mid P n m R draw all after live k b fl (⟨d,none,op⟩::ops) st:=by
 unfold z99 at h;split at h
 ·rename_i o ho;simp only [Wg,qU,Option.some.injEq,Prod.mk.injEq] at h;obtain ⟨rfl,rfl,rfl,rfl⟩:=h;exact Mid.opX (z7z ho) (zbb ho h')
 ·cases h
theorem Mid.zgt {sz:Nat} {zs xs:List (List T)} {ps:List (Nat×Ar)} {ow:Bool} (hx:Zu st sz zs ps=some xs) (ha:ZF sz xs=true) (hs:zO st d (.t (.lst xs)) some=some st')
  (h':Mid P n m R draw all after live k b ((false,false)::fl) ops st'):Mid P n m R draw all after live k b fl (⟨d,none,.bsl ow sz zs ps⟩::ops) st:=by
 simp only [zO,V.force_eq,Zp,St.Zz,Option.some.injEq] at hs
 have e:st'=st.app d {v:= .t (.lst xs)}:=by rw [←hs];cases d<;>rfl
 refine Mid.opX Z ?_;simp only [evX,hx];refine ⟨ha,?_⟩
 have hk:Mid P n m R draw all after live k (b+0) ((false,!([]:List (Nat×z6)).isEmpty||decide (0<0))::fl) ops (st.app d {v:= .t (.lst xs)}):=by
  rw [e] at h';simpa using h'
 cases ow with
 |true=>exact .inr hk
 |false=>exact hk
theorem Mid.zes {sz by_ j s nn:Nat} {x y:Ar} {xs ys:List (List T)} (hx:x.u st= .own j s xs) (hy:(y.u st).zA=some (.lst ys)) (hn:zi st.s.sto j=some (.arr nn)) (he:nn=xs.length) (hs:Nat.beq s sz=true) (hl:ZF sz ys=true)
  (h1:(xs.length+ys.length)*by_<=140737488355328) (h2:xs.length+ys.length<=9223372036854775807)
  (hst:z0o b st d {v:= .own j sz (xs++ys),ob:=[(j,.arr (xs.length+ys.length))],rd:=true} (fun b' st'=>some (b',st'))=some (b',st'))
  (h':Mid P n m R draw all after live k b' ((true,true)::fl) ops st'):Mid P n m R draw all after live k b fl (⟨d,none,.app sz by_ x y⟩::ops) st:=by
 refine Mid.opX Z ?_;have hs':=Nat.eq_of_beq_eq_true hs;simp only [qU,Option.some.injEq,Prod.mk.injEq] at hst;obtain ⟨rfl,rfl⟩:=hst;simp only [evX,hx,hy,hn];exact ⟨hs',he,hl,h1,h2,h'⟩
theorem Mid.appMap {α:Type} (f:α->List T) (l1 l2:List α) {sz by_ j s nn:Nat} {x y:Ar} (hx:x.u st= .own j s (l1.map f)) (hy:(y.u st).zA=some (.lst (l2.map f))) (hn:zi st.s.sto j=some (.arr nn)) (he:nn=l1.length) (hs:Nat.beq s sz=true) (hl:∀x,(f x).length=sz)
  (h1:(l1.length+l2.length)*by_<=140737488355328) (h2:l1.length+l2.length<=9223372036854775807)
  (hst:z0o b st d {v:= .own j sz ((l1++l2).map f),ob:=[(j,.arr (l1++l2).length)],rd:=true} (fun b' st'=>some (b',st'))=some (b',st'))
  (h':Mid P n m R draw all after live k b' ((true,true)::fl) ops st'):Mid P n m R draw all after live k b fl (⟨d,none,.app sz by_ x y⟩::ops) st:=
 Mid.zes hx hy hn (by simpa using he) hs (by simp [ZF,hl]) (by simpa using h1) (by simpa using h2) (by rw [←hst];simp) h'
theorem Mid.z9S {α:Type} (f:α->List T) (l2:List α) {sz by_:Nat} {x y:Ar} (hx:x.u st= .zI) (hy:(y.u st).zA=some (.lst (l2.map f))) (hl:∀x,(f x).length=sz)
  (h1:l2.length*by_<=140737488355328) (h2:l2.length<=9223372036854775807)
  (hst:z0o b st d {v:= .own b sz (l2.map f),ob:=[(b,.arr l2.length)],n:=1} (fun b' st'=>some (b',st'))=some (b',st'))
  (h':Mid P n m R draw all after live k b' ((false,true)::fl) ops st'):Mid P n m R draw all after live k b fl (⟨d,none,.app sz by_ x y⟩::ops) st:=by
 refine Mid.opX Z ?_;simp only [qU,Option.some.injEq,Prod.mk.injEq] at hst;obtain ⟨rfl,rfl⟩:=hst;simp only [evX,hx,hy]
 exact ⟨by simp [ZF,hl],by simpa using h1,by simpa using h2,by simpa using h'⟩
theorem Mid.z3k {sz by_:Nat} {z:List V} {x:Ar} {kd:IntKind} {i:Int} (hx:x.u st= .t (.int kd i)) (h0:0<=i) (h1:i*by_<=281474976710656) (h2:i<=9223372036854775807) (hz:Nat.beq z.length sz=true)
  (hst:z0o b st d {v:= .slc b 0 i.toNat sz,ob:=[(b,.cells (List.replicate i.toNat z).flatten)],n:=1} (fun b' st'=>some (b',st'))=some (b',st'))
  (h':Mid P n m R draw all after live k b' ((false,true)::fl) ops st'):Mid P n m R draw all after live k b fl (⟨d,none,.z3k sz by_ z x⟩::ops) st:=by
 refine Mid.opX Z ?_;simp only [qU,Option.some.injEq,Prod.mk.injEq] at hst;obtain ⟨rfl,rfl⟩:=hst;simp only [evX,hx];exact ⟨⟨h0,h1,h2,Nat.eq_of_beq_eq_true hz⟩,h'⟩
theorem Y2 {gc:Bool} {x:Ar} {v:V} {p:List Bool} {t:T} (hx:rd gc st x=(v,p)) (hv:v.zA=some t):Y8 (x.v st)=false:=by
 unfold rd at hx;generalize x.v st=u at hx⊢
 cases u<;>simp only [V.un,Prod.mk.injEq] at hx<;>obtain ⟨rfl,_⟩:=hx<;>simp_all [V.zA,Y8]
 rename_i c y _
 cases y<;>simp_all
theorem za8 {gc:Bool} {x:Ar} {v:V} {p:List Bool} (hx:rd gc st x=(v,p)) (hv:∀c y,v≠ .gd c y) (h:Y8 v=false):Y8 (x.v st)=false:=by
 unfold rd at hx;generalize x.v st=u at hx⊢
 cases u<;>simp only [V.un,Prod.mk.injEq] at hx<;>obtain ⟨rfl,_⟩:=hx<;>simp_all [Y8]
 rename_i c y _
 cases y<;>simp_all
theorem Mid.elem {sz:Nat} {x i:Ar} {v:V} {p1 p2:List Bool} {kd:IntKind} {z:Int} {xs:List (List T)} {c:List T} (hx:rd true st x=(v,p1)) (hv:v.zA=some (.lst xs)) (hi:rd true st i=(.t (.int kd z),p2)) (hc:xs[z.toNat]?=some c) (hl:(Nat.beq c.length sz&&!(Nat.beq sz 0))=true) (h0:0<=z) (hp:Z7 (p1++p2))
  (hs:zO st d (.t (.ptr c)) some=some st') (h':Mid P n m R draw all after live k b ((false,false)::fl) ops st'):Mid P n m R draw all after live k b fl (⟨d,none,.ia sz x i⟩::ops) st:=by
 have hl1:c.length=sz/\sz≠0:=by
  simp only [Bool.and_eq_true] at hl;refine ⟨Nat.eq_of_beq_eq_true hl.1,?_⟩;rintro rfl;simp at hl
 have hev:zh true st (.ia sz x i)=some (.t (.ptr c),p1++(p2++[decide (0<=z)])):=by
  simp only [zh,hx,hi]
  cases v<;>simp_all [V.zA]
 simp only [zO,V.force_eq,Zp,St.Zz,Option.some.injEq] at hs
 have e:st'=st.app d {v:= .t (.ptr c)}:=by rw [←hs];cases d<;>rfl
 rw [e] at h';unfold Mid at h'⊢;simp only [evR,evO,evU,hev,Za,Y2 hx hv]
 refine ⟨?_,by simpa using h'⟩
 have hpa:∀(a b:List Bool),Z7 (a++b)↔Z7 a/\Z7 b:=by
  intro a b
  induction a with
  |nil=>simp [Z7]
  |cons x r ih=>simp [Z7,ih,and_assoc]
 rw [hpa] at hp;simp [hpa,hp.1,hp.2,Z7,h0]
theorem Mid.val {op:AOp} {v:V} {ps:List Bool} (hev:zh true st op=some (v,ps)) (hl:Za st op=false) (hp:Z7 ps) (hs:zO st d v some=some st')
  (h':Mid P n m R draw all after live k b ((false,false)::fl) ops st'):Mid P n m R draw all after live k b fl (⟨d,none,op⟩::ops) st:=by
 simp only [zO,V.force_eq,Zp,St.Zz,Option.some.injEq] at hs
 have e:st'=st.app d {v:=v}:=by rw [←hs];cases d<;>rfl
 rw [e] at h';unfold Mid at h'⊢;simp only [evR,evO,evU,hev,hl]
 exact ⟨hp,by simpa using h'⟩
theorem Mid.zgw {x y:Ar} {i jn:Nat} {j:Int} (hx:rd true st x=(.t (.int .i64 i),[])) (hy:rd true st y=(.t (.int .i64 j),[])) (hj:Yu j.toNat some=some jn) (hjn:j=(jn:Int)) (h2:i+jn<=9223372036854775807) (hs:zO st d (.t (.int .i64 ((i+jn:Nat):Int))) some=some st')
  (h':Mid P n m R draw all after live k b ((false,false)::fl) ops st'):Mid P n m R draw all after live k b fl (⟨d,none,.bin .add x y⟩::ops) st:=
 Mid.val (v:= .t (.int .i64 ((i+jn:Nat):Int))) (ps:=[]) (by subst hjn;simp only [zh,hx,hy,z01];simp;exact wrap64 (by omega) (by omega)) rfl trivial hs h'
theorem Mid.zfS {x y:Ar} {i j:Int} (hx:rd true st x=(.t (.int .i64 i),[])) (hy:rd true st y=(.t (.int .i64 j),[])) (h1:-9223372036854775808<=i - j) (h2:i - j<=9223372036854775807) (hs:zO st d (.t (.int .i64 (i - j))) some=some st')
  (h':Mid P n m R draw all after live k b ((false,false)::fl) ops st'):Mid P n m R draw all after live k b fl (⟨d,none,.bin .sub x y⟩::ops) st:=
 Mid.val (v:= .t (.int .i64 (i - j))) (ps:=[]) (by simp only [zh,hx,hy,z01];simp [wrap64 h1 h2]) rfl trivial hs h'
theorem Mid.zeF {α:Type} {f:α->List T} {l:List α} {x:Ar} {v:V} (hx:rd true st x=(v,[])) (hv:v.zA=some (.lst (l.map f))) (hs:zO st d (.t (.int .i64 l.length)) some=some st')
  (h':Mid P n m R draw all after live k b ((false,false)::fl) ops st'):Mid P n m R draw all after live k b fl (⟨d,none,.len x⟩::ops) st:=by
 refine Mid.val (v:= .t (.int .i64 l.length)) (ps:=[]) ?_ (Y2 hx hv) trivial hs h';simp only [zh,hx]
 cases v<;>simp_all [V.zA]
theorem Mid.zg {α:Type} {f:α->List T} {l:List α} {e:α} {sz j:Nat} {x i:Ar} {v:V} {kd:IntKind} (hx:rd true st x=(v,[])) (hv:v.zA=some (.lst (l.map f))) (hi:rd true st i=(.t (.int kd j),[])) (hc:l[j]?=some e) (hl:(Nat.beq (f e).length sz&&!(Nat.beq sz 0))=true)
  (hs:zO st d (.t (.ptr (f e))) some=some st') (h':Mid P n m R draw all after live k b ((false,false)::fl) ops st'):Mid P n m R draw all after live k b fl (⟨d,none,.ia sz x i⟩::ops) st:=
 Mid.elem hx hv hi (by simp [hc]) hl (by simp) trivial hs h'
theorem Mid.byte {x i:Ar} {kd:IntKind} {j:Nat} {s:List UInt8} {c:UInt8} (hx:rd true st x=(.t (.str s),[])) (hi:rd true st i=(.t (.int kd j),[])) (hc:s[j]?=some c)
  (hs:zO st d (.t (.int .u8 c.toNat)) some=some st') (h':Mid P n m R draw all after live k b ((false,false)::fl) ops st'):Mid P n m R draw all after live k b fl (⟨d,none,.ixs x i⟩::ops) st:=
 Mid.val (v:= .t (.int .u8 c.toNat)) (ps:=[true]) (by simp only [zh,hx,hi];simp [hc]) rfl ⟨rfl,trivial⟩ hs h'
theorem Mid.z82 {op:AOp} {s:Nat} {want gc:Bool} {v:V} {ps:List Bool} (hg:ZU want (look st.env s)=some gc) (hev:zh gc st op=some (v,ps)) (hl:Za st op=false) (hp:Z7 (ps.map fun p=>!gc||p)) (hs:zO st d (.gd gc v) some=some st')
  (h':Mid P n m R draw all after live k b ((false,false)::fl) ops st'):Mid P n m R draw all after live k b fl (⟨d,some (s,want),op⟩::ops) st:=by
 rw [wA] at hg;simp only [zO,V.force_eq,Zp,St.Zz,Option.some.injEq] at hs
 have e:st'=st.app d {v:= .gd gc v}:=by rw [←hs];cases d<;>rfl
 rw [e] at h';unfold Mid at h'⊢;simp only [evR,evO,hg,hev,hl]
 exact ⟨hp,by simpa using h'⟩
theorem Mid.zfK {s:Nat} {want gc:Bool} {x i:Ar} {kd:IntKind} {j:Nat} {str:List UInt8} {c:UInt8} {p1 p2:List Bool} (hg:ZU want (look st.env s)=some gc) (hx:rd gc st x=(.t (.str str),p1)) (hi:rd gc st i=(.t (.int kd j),p2)) (hc:str[j]?=some c)
  (hp1:Z7 (p1.map fun p=>!gc||p)) (hp2:Z7 (p2.map fun p=>!gc||p))
  (hs:zO st d (.gd gc (.t (.int .u8 c.toNat))) some=some st') (h':Mid P n m R draw all after live k b ((false,false)::fl) ops st'):Mid P n m R draw all after live k b fl (⟨d,some (s,want),.ixs x i⟩::ops) st:=
 Mid.z82 (v:= .t (.int .u8 c.toNat)) (ps:=p1++(p2++[true])) hg (by simp only [zh,hx,hi];simp [hc]) rfl (by simp only [List.map_append,w8];exact ⟨hp1,hp2,by simp [Z7]⟩) hs h'
theorem Mid.zcM {α:Type} {f:α->List T} {l:List α} {s:Nat} {want gc:Bool} {x:Ar} {v:V} {p1:List Bool} (hg:ZU want (look st.env s)=some gc) (hx:rd gc st x=(v,p1)) (hv:v.zA=some (.lst (l.map f))) (hp1:Z7 (p1.map fun p=>!gc||p)) (hs:zO st d (.gd gc (.t (.int .i64 l.length))) some=some st')
  (h':Mid P n m R draw all after live k b ((false,false)::fl) ops st'):Mid P n m R draw all after live k b fl (⟨d,some (s,want),.len x⟩::ops) st:=by
 refine Mid.z82 (v:= .t (.int .i64 l.length)) (ps:=p1) hg ?_ (Y2 hx hv) hp1 hs h';simp only [zh,hx]
 cases v<;>simp_all [V.zA]
theorem Mid.z5X {α:Type} {f:α->List T} {l:List α} {e:α} {sz j:Nat} {s:Nat} {want gc:Bool} {x i:Ar} {v:V} {kd:IntKind} {p1 p2:List Bool} (hg:ZU want (look st.env s)=some gc) (hx:rd gc st x=(v,p1)) (hv:v.zA=some (.lst (l.map f))) (hi:rd gc st i=(.t (.int kd j),p2)) (hc:l[j]?=some e) (hl:(Nat.beq (f e).length sz&&!(Nat.beq sz 0))=true)
  (hp1:Z7 (p1.map fun p=>!gc||p)) (hp2:Z7 (p2.map fun p=>!gc||p)) (hs:zO st d (.gd gc (.t (.ptr (f e)))) some=some st') (h':Mid P n m R draw all after live k b ((false,false)::fl) ops st'):Mid P n m R draw all after live k b fl (⟨d,some (s,want),.ia sz x i⟩::ops) st:=by
 have hl1:(f e).length=sz/\sz≠0:=by
  simp only [Bool.and_eq_true] at hl;refine ⟨Nat.eq_of_beq_eq_true hl.1,?_⟩;rintro rfl;simp at hl
 refine Mid.z82 (v:= .t (.ptr (f e))) (ps:=p1++(p2++[true])) hg ?_ (Y2 hx hv) (by simp only [List.map_append,w8];exact ⟨hp1,hp2,by simp [Z7]⟩) hs h';simp only [zh,hx,hi]
 cases v<;>simp_all [V.zA]
theorem Mid.zgp {x y:Ar} {i j:Nat} (hx:rd true st x=(.t (.int .i64 i),[])) (hy:rd true st y=(.t (.int .i64 j),[])) (h2:i+j<=9223372036854775807) (hs:zO st d (.t (.int .i64 ((i+j:Nat):Int))) some=some st')
  (h':Mid P n m R draw all after live k b ((false,false)::fl) ops st'):Mid P n m R draw all after live k b fl (⟨d,none,.bin .add x y⟩::ops) st:=
 Mid.val (v:= .t (.int .i64 ((i+j:Nat):Int))) (ps:=[]) (by simp only [zh,hx,hy,z01];simp;exact wrap64 (by omega) (by omega)) rfl trivial hs h'
theorem Mid.zfQ {s:Nat} {want gc:Bool} {x y:Ar} {i jn:Nat} {j:Int} {p1 p2:List Bool} (hg:ZU want (look st.env s)=some gc) (hx:rd gc st x=(.t (.int .i64 i),p1)) (hy:rd gc st y=(.t (.int .i64 j),p2)) (hj:Yu j.toNat some=some jn) (hjn:j=(jn:Int)) (h2:i+jn<=9223372036854775807)
  (hp1:Z7 (p1.map fun p=>!gc||p)) (hp2:Z7 (p2.map fun p=>!gc||p)) (hs:zO st d (.gd gc (.t (.int .i64 ((i+jn:Nat):Int)))) some=some st')
  (h':Mid P n m R draw all after live k b ((false,false)::fl) ops st'):Mid P n m R draw all after live k b fl (⟨d,some (s,want),.bin .add x y⟩::ops) st:=
 Mid.z82 (v:= .t (.int .i64 ((i+jn:Nat):Int))) (ps:=p1++(p2++[])) hg (by subst hjn;simp only [zh,hx,hy,z01];simp;exact wrap64 (by omega) (by omega)) rfl (by simp only [List.map_append,w8];exact ⟨hp1,hp2,trivial⟩) hs h'
theorem Mid.zeP {s:Nat} {want gc:Bool} {x y:Ar} {i j:Int} {p1 p2:List Bool} (hg:ZU want (look st.env s)=some gc) (hx:rd gc st x=(.t (.int .i64 i),p1)) (hy:rd gc st y=(.t (.int .i64 j),p2)) (h1:-9223372036854775808<=i - j) (h2:i - j<=9223372036854775807)
  (hp1:Z7 (p1.map fun p=>!gc||p)) (hp2:Z7 (p2.map fun p=>!gc||p)) (hs:zO st d (.gd gc (.t (.int .i64 (i - j)))) some=some st')
  (h':Mid P n m R draw all after live k b ((false,false)::fl) ops st'):Mid P n m R draw all after live k b fl (⟨d,some (s,want),.bin .sub x y⟩::ops) st:=
 Mid.z82 (v:= .t (.int .i64 (i - j))) (ps:=p1++(p2++[])) hg (by simp only [zh,hx,hy,z01];simp [wrap64 h1 h2]) rfl (by simp only [List.map_append,w8];exact ⟨hp1,hp2,trivial⟩) hs h'
theorem Mid.zg2 {α:Type} {f:α->List T} {l:List α} {sz:Nat} {x hi:Ar} {v:V} {kd:IntKind} {j:Nat} (hx:rd true st x=(v,[])) (hv:v.zA=some (.lst (l.map f))) (hh:rd true st hi=(.t (.int kd j),[])) (hj:j<=l.length) (hsz:∀x,(f x).length=sz) (hs:zO st d (.t (.lst ((l.take j).map f))) some=some st')
  (h':Mid P n m R draw all after live k b ((false,false)::fl) ops st'):Mid P n m R draw all after live k b fl (⟨d,none,.sll sz x none (some hi)⟩::ops) st:=
 Mid.val (v:= .t (.lst ((l.take j).map f))) (ps:=[true,true,true,true]) (by simp only [zh,hx,hv,bnd,hh];simp [hj,ZF,hsz]) (Y2 hx hv) ⟨rfl,rfl,rfl,rfl,trivial⟩ hs h'
theorem Mid.zdJ {α:Type} {f:α->List T} {l:List α} {sz:Nat} {x lo:Ar} {v:V} {kd:IntKind} {j:Nat} (hx:rd true st x=(v,[])) (hv:v.zA=some (.lst (l.map f))) (hh:rd true st lo=(.t (.int kd j),[])) (hj:j<=l.length) (hsz:∀x,(f x).length=sz) (hs:zO st d (.t (.lst ((l.drop j).map f))) some=some st')
  (h':Mid P n m R draw all after live k b ((false,false)::fl) ops st'):Mid P n m R draw all after live k b fl (⟨d,none,.sll sz x (some lo) none⟩::ops) st:=
 Mid.val (v:= .t (.lst ((l.drop j).map f))) (ps:=[true,true,true,true]) (by simp only [zh,hx,hv,bnd,hh];simp [hj,ZF,hsz,List.take_of_length_le]) (Y2 hx hv) ⟨rfl,rfl,rfl,rfl,trivial⟩ hs h'
theorem Mid.W7 {op:AOp} {s:Nat} {want gc:Bool} {l:Bool} (hg:ZU want (look st.env s)=some gc) (hf:gc=false) (hn:zh gc st op=none) (hl:Za st op=l) (hs:zO st d (.gd false .top) some=some st')
  (h':Mid P n m R draw all after live k b ((l,false)::fl) ops st'):Mid P n m R draw all after live k b fl (⟨d,some (s,want),op⟩::ops) st:=by
 rw [wA] at hg;subst hl;simp only [zO,V.force_eq,Zp,St.Zz,Option.some.injEq] at hs
 have e:st'=st.app d {v:= .gd false .top,rd:=Za st op}:=by rw [←hs];cases d<;>rfl
 rw [e] at h';unfold Mid at h'⊢;simp only [evR,evO,hg,hn]
 refine z7D (fun h=>by rw [hf] at h;cases h) (fun _=>?_)
 simpa using h'
theorem z12 {α:Type} {k:Nat} {o:α}:∀{a b:List (Nat×α)},zi a k=some o->zi (a++b) k=some o
 |[],b,h=>by simp [zi] at h
 |(j,x)::r,b,h=>by
  simp only [List.cons_append,zi] at h⊢;split
  ·rename_i e;simpa [e] using h
  ·rename_i e;simp only [e,if_false] at h;exact z12 h
theorem z3.yA {s:S} {st:St} {rs:List q8} {x r:V} {rd:Bool} {ex:List (Nat×z6)} (hr:z1d st rs=some r) (he:st.s.sto=s.sto++ex) (hn:Nat.ble s.nxt st.s.nxt=true) (hs:zR s.nxt s.sto=true) (h:LeR s.nxt st.s r x):z3 s {v:=x,rd:=rd} rs .ret st:=by
 refine ⟨r,hr,zLB hn,h,.same fun k o hk=>⟨?_,qh hs k o hk⟩⟩;rw [he];exact z12 hk
theorem Run.list {α β:Type} {k k':List It} {c:zW} {st:St} (l:List α) (stf:Nat->β->St) (Inv:List α->Nat->β->Prop) (j:Nat) (b0:β) (hk:yd 200 k= .c (.loop c)::k') (h0:Inv l 0 b0)
  (h1:Nat.ble m j=true) (h2:Nat.ble j st.s.nxt=true) (h3:Nat.ble j (stf 0 b0).s.nxt=true) (he:LeE j (stf 0 b0).s.nxt st.env (stf 0 b0).env) (hs:LeS j (stf 0 b0).s.nxt st.s.sto (stf 0 b0).s.sto)
  (hend:∀b,Inv [] l.length b->Run P n m R (.c c:: .lp c::k') (stf l.length b))
  (hstep:∀(i:Nat) (x:α) (r:List α) (b:β),l[i]?=some x->i<l.length->l.drop (i+1)=r->Inv (x::r) i b->(∀b',Inv r (i+1) b'->Run P n m R (.lp c::k') (stf (i+1) b'))->Run P n m R (.c c:: .lp c::k') (stf i b)):
  Run P n m R k st:=by
 refine Run.loop hk (Run.Qj j Z ?_ h1 h2 h3 he hs)
 have key:∀(r:List α) (i:Nat) (b:β),l.drop i=r->i<=l.length->Inv r i b->Run P n m R (.lp c::k') (stf i b):=by
  intro r
  induction r with
  |nil=>
   intro i b hd hi hb;have:=zaw hd
   have e:i=l.length:=by omega
   subst e;exact Run.wO (hend b hb)
  |cons x r ih=>
   intro i b hd hi hb;obtain ⟨e1,e2,e3⟩:=Qe hd;exact Run.wO (hstep i x r b e1 e3 e2 hb fun b' hb'=>ih (i+1) b' e2 (by omega) hb')
 exact key l 0 b0 Z (Nat.zero_le _) h0
theorem Run.zgb {β:Type} {k k':List It} {c:zW} {st:St} (stf:β->St) (Inv:β->Prop) (μ:β->Nat) (j:Nat) (b0:β) (hk:yd 200 k= .c (.loop c)::k') (h0:Inv b0)
  (h1:Nat.ble m j=true) (h2:Nat.ble j st.s.nxt=true) (h3:Nat.ble j (stf b0).s.nxt=true) (he:LeE j (stf b0).s.nxt st.env (stf b0).env) (hs:LeS j (stf b0).s.nxt st.s.sto (stf b0).s.sto)
  (hstep:∀(b:β),Inv b->(∀b',μ b'<μ b->Inv b'->Run P n m R (.lp c::k') (stf b'))->Run P n m R (.c c:: .lp c::k') (stf b)):Run P n m R k st:=by
 refine Run.loop hk (Run.Qj j Z ?_ h1 h2 h3 he hs)
 have key:∀(f:Nat) (b:β),μ b<f->Inv b->Run P n m R (.lp c::k') (stf b):=by
  intro f
  induction f with
  |zero=>intro b h;omega
  |succ f ih=>intro b h hb;exact Run.wO (hstep b hb fun b' hlt hb'=>ih b' (by omega) hb')
 exact key (μ b0+1) b0 (by omega) h0
theorem Qz {α:Type} {f:α->List T} {sz:Nat} (h:∀x,(f x).length=sz) (l:List α):ZF sz (l.map f)=true:=by
 simp [ZF,h]
inductive Cfg where
 |run (k:List It) (st:St)
 |mid (draw:Bool) (all:List AO) (after:List (List Nat)) (live:List Nat) (k:List It) (b:Nat) (fl:List (Bool×Bool)) (ops:List AO) (st:St)
def Go (P:Program) (n m:Nat) (R:St->Prop):Cfg->Prop
 | .run k st=>Run P n m R k st
 | .mid draw all after live k b fl ops st=>Mid P n m R draw all after live k b fl ops st
def AOp.zfr:AOp->Bool
 | .ia _ _ _=>true
 | .z9c _ _ _ _=>true
 | .ixs _ _=>true
 | .ixa _ _ _ _ _=>true
 | .len _=>true
 | .bin .add _ _=>true
 | .bin .sub _ _=>true
 | .bin .mul _ _=>true
 | .bin .quo _ _=>true
 | .bin .rem _ _=>true
 | .sls _ _ _=>true
 | .sll _ _ _ _=>true
 | .z7t _=>true
 | .app _ _ _ _=>true
 | .z3k _ _ _ _=>true
 | .nw _=>true
 | .call _ _=>true
 | .z18 _ _=>true
 |_=>false
def W0 {ρ:Type}:Nat->Cfg->List (List Bool)->(Cfg->List (List Bool)->ρ)->ρ
 |0,c,ps,K=>K c ps
 |f+1,.run k st,ps,K=>
  match yd 200 k with
  | .c (.region draw ops after live)::k'=>Yu st.s.nxt fun b=>W0 f (.mid draw ops after live k' b [] ops st) ps K
  |k'=>K (.run k' st) ps
 |f+1,.mid draw all after live k b fl [] st,ps,K=>
  match draw with
  |false=>z53 live b st fun st'=>W0 f (.run k st') ps K
  |true=>z53 live b st fun st'=>W0 f (.run k st') ([indep all after fl.reverse st.env]::ps) K
 |f+1,.mid draw all after live k b fl (⟨d,g,op⟩::ops) st,ps,K=>
  match op.zfr with
  |true=>K (.mid draw all after live k b fl (⟨d,g,op⟩::ops) st) ps
  |false=>
   match g with
   |none=>
    match z99 b st d op with
    |some (b',st',r,c)=>W0 f (.mid draw all after live k b' ((r,c)::fl) ops st') ps K
    |none=>
     match z10 st d op with
     |some ([],st',l)=>W0 f (.mid draw all after live k b ((l,false)::fl) ops st') ps K
     |some (p::q,st',l)=>W0 f (.mid draw all after live k b ((l,false)::fl) ops st') ((p::q)::ps) K
     |none=>K (.mid draw all after live k b fl (⟨d,none,op⟩::ops) st) ps
   |some (s,want)=>
    match stepG st d s want op with
    |some ([],st',l)=>W0 f (.mid draw all after live k b ((l,false)::fl) ops st') ps K
    |some (p::q,st',l)=>W0 f (.mid draw all after live k b ((l,false)::fl) ops st') ((p::q)::ps) K
    |none=>K (.mid draw all after live k b fl (⟨d,some (s,want),op⟩::ops) st) ps
def z19:List (List Bool)->Prop
 |[]=>True
 |p::r=>Z7 p/\z19 r
theorem Yy {ρ:Type}:∀(f:Nat) (c:Cfg) (ps:List (List Bool)) (K:Cfg->List (List Bool)->ρ),∃c' ps',W0 f c ps K=K c' ps'/\(z19 ps'->z19 ps/\(Go P n m R c'->Go P n m R c))
 |0,c,ps,K=>⟨c,ps,rfl,fun h=>⟨h,fun h=>h⟩⟩
 |f+1,.run k st,ps,K=>by
  simp only [W0];split
  ·rename_i draw ops after live k' hk;simp only [YY];obtain ⟨c',ps',h1,h2⟩:=Yy f (.mid draw ops after live k' st.s.nxt [] ops st) ps K;refine ⟨c',ps',h1,fun h=>⟨(h2 h).1,fun hg=>Run.region hk (YY _ _) ((h2 h).2 hg)⟩⟩
  ·exact ⟨_,_,rfl,fun h=>⟨h,fun hg=>Run.adv 200 Z hg⟩⟩
 |f+1,.mid draw all after live k b fl [] st,ps,K=>by
  cases draw with
  |false=>
   simp only [W0];obtain ⟨env,⟨sto,nx⟩⟩:=st;simp only [z53,Wp];obtain ⟨c',ps',h1,h2⟩:=Yy f (.run k ⟨W3 live env,⟨sto,b⟩⟩) ps K;exact ⟨c',ps',h1,fun h=>⟨(h2 h).1,fun hg=>Mid.z44 (st':=⟨W3 live env,⟨sto,b⟩⟩) (by simp only [z53,Wp]) ((h2 h).2 hg)⟩⟩
  |true=>
   simp only [W0];obtain ⟨env,⟨sto,nx⟩⟩:=st;simp only [z53,Wp];obtain ⟨c',ps',h1,h2⟩:=Yy f (.run k ⟨W3 live env,⟨sto,b⟩⟩) ([indep all after fl.reverse env]::ps) K;refine ⟨c',ps',h1,fun h=>?_⟩;obtain ⟨⟨g1,g2⟩,g3⟩:=h2 h;exact ⟨g2,fun hg=>Mid.done (st':=⟨W3 live env,⟨sto,b⟩⟩) (by simp only [z53,Wp]) (fun _=>g1.1) (g3 hg)⟩
 |f+1,.mid draw all after live k b fl (⟨d,g,op⟩::ops) st,ps,K=>by
  simp only [W0];split
  ·exact ⟨_,_,rfl,fun h=>⟨h,fun h=>h⟩⟩
  ·split
   ·split
    ·rename_i b' st' r c he;obtain ⟨c',ps',h1,h2⟩:=Yy f (.mid draw all after live k b' ((r,c)::fl) ops st') ps K;exact ⟨c',ps',h1,fun h=>⟨(h2 h).1,fun hg=>Mid.eff he ((h2 h).2 hg)⟩⟩
    ·split
     ·rename_i st' l hs;obtain ⟨c',ps',h1,h2⟩:=Yy f (.mid draw all after live k b ((l,false)::fl) ops st') ps K;exact ⟨c',ps',h1,fun h=>⟨(h2 h).1,fun hg=>Mid.ze5 hs ((h2 h).2 hg)⟩⟩
     ·rename_i p q st' l hs;obtain ⟨c',ps',h1,h2⟩:=Yy f (.mid draw all after live k b ((l,false)::fl) ops st') ((p::q)::ps) K;exact ⟨c',ps',h1,fun h=>⟨(h2 h).1.2,fun hg=>Mid.pure hs (h2 h).1.1 ((h2 h).2 hg)⟩⟩
     ·exact ⟨_,_,rfl,fun h=>⟨h,fun h=>h⟩⟩
   ·split
    ·rename_i st' l hs;obtain ⟨c',ps',h1,h2⟩:=Yy f (.mid draw all after live k b ((l,false)::fl) ops st') ps K;exact ⟨c',ps',h1,fun h=>⟨(h2 h).1,fun hg=>Mid.grd hs trivial ((h2 h).2 hg)⟩⟩
    ·rename_i p q st' l hs;obtain ⟨c',ps',h1,h2⟩:=Yy f (.mid draw all after live k b ((l,false)::fl) ops st') ((p::q)::ps) K;exact ⟨c',ps',h1,fun h=>⟨(h2 h).1.2,fun hg=>Mid.grd hs (h2 h).1.1 ((h2 h).2 hg)⟩⟩
    ·exact ⟨_,_,rfl,fun h=>⟨h,fun h=>h⟩⟩
def Cfg.zfF:Cfg->Bool
 | .run k _=>match yd 200 k with| .c (.region _ _ _ _)::_=>true|_=>false
 | .mid _ _ _ _ _ _ _ [] _=>true
 | .mid _ _ _ _ _ b _ (⟨d,g,op⟩::_) st=>
  match op.zfr with
  |true=>false
  |false=>
   match g with
   |none=>match z99 b st d op with|some _=>true|none=>match z10 st d op with|some _=>true|none=>false
   |some (s,want)=>match stepG st d s want op with|some _=>true|none=>false
def wW (f:Nat) (c:Cfg):Option (Cfg×List (List Bool)):=
 match c.zfF with
 |true=>W0 f c [] fun c' ps=>some (c',ps)
 |false=>none
theorem Go.wW {f:Nat} {c c':Cfg} {ps:List (List Bool)} (h:wW f c=some (c',ps)) (hp:z19 ps) (h':Go P n m R c'):Go P n m R c:=by
 unfold Go.GB.wW at h;split at h
 ·obtain ⟨c2,ps2,h1,h2⟩:=Yy (P:=P) (n:=n) (m:=m) (R:=R) f c [] fun c' ps=>some (c',ps);rw [h1] at h;simp at h;obtain ⟨rfl,rfl⟩:=h;exact (h2 hp).2 h'
 ·cases h
theorem Run.wW {f:Nat} {k:List It} {st:St} {c':Cfg} {ps:List (List Bool)} (h:wW f (.run k st)=some (c',ps)) (hp:z19 ps) (h':Go P n m R c'):Run P n m R k st:=Go.wW (c:= .run k st) h hp h'
theorem Mid.wW {f:Nat} {c':Cfg} {ps:List (List Bool)} (h:wW f (.mid draw all after live k b fl ops st)=some (c',ps)) (hp:z19 ps) (h':Go P n m R c'):Mid P n m R draw all after live k b fl ops st:=Go.wW (c:= .mid draw all after live k b fl ops st) h hp h'
attribute [irreducible] Run Mid
end
section
variable {P:Program} {n m:Nat} {R:St->Prop}
variable {draw:Bool} {all:List AO} {after:List (List Nat)} {live:List Nat} {k:List It} {b:Nat} {fl:List (Bool×Bool)} {ops:List AO} {st st':St} {d:Option Nat} {b':Nat}
theorem fR {k:List It} {st:St} {c':Cfg} {ps:List (List Bool)} (h:wW 200 (.run k st)=some (c',ps)) (h':Go P n m R c') (hp:z19 ps:=by (repeat' (first |exact trivial|exact Bool.not_or_self _|exact yK _|exact yJ _|exact grd3 _ _|exact yL _ _|refine And.intro ?_ ?_|exact rfl|(simp;done)|(simp<;>omega)));done):Run P n m R k st:=
 Run.wW h hp h'
theorem fM {c':Cfg} {ps:List (List Bool)} (h:wW 200 (.mid draw all after live k b fl ops st)=some (c',ps)) (h':Go P n m R c') (hp:z19 ps:=by (repeat' (first |exact trivial|exact Bool.not_or_self _|exact yK _|exact yJ _|exact grd3 _ _|exact yL _ _|refine And.intro ?_ ?_|exact rfl|(simp;done)|(simp<;>omega)));done):Mid P n m R draw all after live k b fl ops st:=
 Mid.wW h hp h'
theorem aL {x y:Ar} {i jn:Nat} {j:Int} (hx:rd true st x=(.t (.int .i64 i),[])) (hy:rd true st y=(.t (.int .i64 j),[])) (hj:Yu j.toNat some=some jn) (hjn:j=(jn:Int)) (hs:zO st d (.t (.int .i64 ((i+jn:Nat):Int))) some=some st') (h':Mid P n m R draw all after live k b ((false,false)::fl) ops st') (h2:i+jn<=9223372036854775807:=by omega):Mid P n m R draw all after live k b fl (⟨d,none,.bin .add x y⟩::ops) st:=
 Mid.zgw hx hy hj hjn h2 hs h'
theorem aN {x y:Ar} {i j:Nat} (hx:rd true st x=(.t (.int .i64 i),[])) (hy:rd true st y=(.t (.int .i64 j),[])) (hs:zO st d (.t (.int .i64 ((i+j:Nat):Int))) some=some st') (h':Mid P n m R draw all after live k b ((false,false)::fl) ops st') (h2:i+j<=9223372036854775807:=by omega):Mid P n m R draw all after live k b fl (⟨d,none,.bin .add x y⟩::ops) st:=
 Mid.zgp hx hy h2 hs h'
theorem s64 {x y:Ar} {i j:Int} (hx:rd true st x=(.t (.int .i64 i),[])) (hy:rd true st y=(.t (.int .i64 j),[])) (hs:zO st d (.t (.int .i64 (i - j))) some=some st') (h':Mid P n m R draw all after live k b ((false,false)::fl) ops st') (h1:-9223372036854775808<=i - j:=by omega) (h2:i - j<=9223372036854775807:=by omega):Mid P n m R draw all after live k b fl (⟨d,none,.bin .sub x y⟩::ops) st:=
 Mid.zfS hx hy h1 h2 hs h'
theorem lM {α:Type} {f:α->List T} {l:List α} {x:Ar} {v:V} (hx:rd true st x=(v,[])) (hv:v.zA=some (.lst (l.map f))) (hs:zO st d (.t (.int .i64 l.length)) some=some st') (h':Mid P n m R draw all after live k b ((false,false)::fl) ops st'):Mid P n m R draw all after live k b fl (⟨d,none,.len x⟩::ops) st:=
 Mid.zeF hx hv hs h'
theorem lTo {α:Type} {f:α->List T} {l:List α} {sz:Nat} {x hi:Ar} {v:V} {kd:IntKind} {j:Nat} (hx:rd true st x=(v,[])) (hv:v.zA=some (.lst (l.map f))) (hh:rd true st hi=(.t (.int kd j),[])) (hs:zO st d (.t (.lst ((l.take j).map f))) some=some st') (h':Mid P n m R draw all after live k b ((false,false)::fl) ops st') (hj:j<=l.length:=by omega) (hsz:∀x,(f x).length=sz:=by intros;rfl):Mid P n m R draw all after live k b fl (⟨d,none,.sll sz x none (some hi)⟩::ops) st:=
 Mid.zg2 hx hv hh hj hsz hs h'
theorem lMG {α:Type} {f:α->List T} {l:List α} {s:Nat} {want gc:Bool} {x:Ar} {v:V} {p1:List Bool} (hg:ZU want (look st.env s)=some gc) (hx:rd gc st x=(v,p1)) (hv:v.zA=some (.lst (l.map f))) (hs:zO st d (.gd gc (.t (.int .i64 l.length))) some=some st') (h':Mid P n m R draw all after live k b ((false,false)::fl) ops st') (hp1:Z7 (p1.map fun p=>!gc||p):=by (repeat' (first |exact trivial|exact Bool.not_or_self _|exact yK _|exact yJ _|exact grd3 _ _|exact yL _ _|refine And.intro ?_ ?_|exact rfl|(simp;done)|(simp<;>omega)));done):Mid P n m R draw all after live k b fl (⟨d,some (s,want),.len x⟩::ops) st:=
 Mid.zcM hg hx hv hp1 hs h'
theorem aLG {s:Nat} {want gc:Bool} {x y:Ar} {i jn:Nat} {j:Int} {p1 p2:List Bool} (hg:ZU want (look st.env s)=some gc) (hx:rd gc st x=(.t (.int .i64 i),p1)) (hy:rd gc st y=(.t (.int .i64 j),p2)) (hj:Yu j.toNat some=some jn) (hjn:j=(jn:Int)) (hs:zO st d (.gd gc (.t (.int .i64 ((i+jn:Nat):Int)))) some=some st') (h':Mid P n m R draw all after live k b ((false,false)::fl) ops st') (h2:i+jn<=9223372036854775807:=by omega) (hp1:Z7 (p1.map fun p=>!gc||p):=by (repeat' (first |exact trivial|exact Bool.not_or_self _|exact yK _|exact yJ _|exact grd3 _ _|exact yL _ _|refine And.intro ?_ ?_|exact rfl|(simp;done)|(simp<;>omega)));done) (hp2:Z7 (p2.map fun p=>!gc||p):=by (repeat' (first |exact trivial|exact Bool.not_or_self _|exact yK _|exact yJ _|exact grd3 _ _|exact yL _ _|refine And.intro ?_ ?_|exact rfl|(simp;done)|(simp<;>omega)));done):Mid P n m R draw all after live k b fl (⟨d,some (s,want),.bin .add x y⟩::ops) st:=
 Mid.zfQ hg hx hy hj hjn h2 hp1 hp2 hs h'
theorem zg4 {s:Nat} {want gc:Bool} {x y:Ar} {i j:Int} {p1 p2:List Bool} (hg:ZU want (look st.env s)=some gc) (hx:rd gc st x=(.t (.int .i64 i),p1)) (hy:rd gc st y=(.t (.int .i64 j),p2)) (hs:zO st d (.gd gc (.t (.int .i64 (i - j)))) some=some st') (h':Mid P n m R draw all after live k b ((false,false)::fl) ops st') (h1:-9223372036854775808<=i - j:=by omega) (h2:i - j<=9223372036854775807:=by omega) (hp1:Z7 (p1.map fun p=>!gc||p):=by (repeat' (first |exact trivial|exact Bool.not_or_self _|exact yK _|exact yJ _|exact grd3 _ _|exact yL _ _|refine And.intro ?_ ?_|exact rfl|(simp;done)|(simp<;>omega)));done) (hp2:Z7 (p2.map fun p=>!gc||p):=by (repeat' (first |exact trivial|exact Bool.not_or_self _|exact yK _|exact yJ _|exact grd3 _ _|exact yL _ _|refine And.intro ?_ ?_|exact rfl|(simp;done)|(simp<;>omega)));done):Mid P n m R draw all after live k b fl (⟨d,some (s,want),.bin .sub x y⟩::ops) st:=
 Mid.zeP hg hx hy h1 h2 hp1 hp2 hs h'
theorem p0 {op:AOp} {l:Bool} (h:z10 st d op=some ([],st',l)) (h':Mid P n m R draw all after live k b ((l,false)::fl) ops st'):Mid P n m R draw all after live k b fl (⟨d,none,op⟩::ops) st:=
 Mid.ze5 h h'
theorem gr {op:AOp} {s:Nat} {want:Bool} {ps:List Bool} {l:Bool} (h:stepG st d s want op=some (ps,st',l)) (h':Mid P n m R draw all after live k b ((l,false)::fl) ops st') (hp:Z7 ps:=by (repeat' (first |exact trivial|exact Bool.not_or_self _|exact yK _|exact yJ _|exact grd3 _ _|exact yL _ _|refine And.intro ?_ ?_|exact rfl|(simp;done)|(simp<;>omega)));done):Mid P n m R draw all after live k b fl (⟨d,some (s,want),op⟩::ops) st:=
 Mid.grd h hp h'
theorem pu {op:AOp} {ps:List Bool} {l:Bool} (h:z10 st d op=some (ps,st',l)) (h':Mid P n m R draw all after live k b ((l,false)::fl) ops st') (hp:Z7 ps:=by (repeat' (first |exact trivial|exact Bool.not_or_self _|exact yK _|exact yJ _|exact grd3 _ _|exact yL _ _|refine And.intro ?_ ?_|exact rfl|(simp;done)|(simp<;>omega)));done):Mid P n m R draw all after live k b fl (⟨d,none,op⟩::ops) st:=
 Mid.pure h hp h'
theorem byG {s:Nat} {want gc:Bool} {x i:Ar} {kd:IntKind} {j:Nat} {str:List UInt8} {c:UInt8} {p1 p2:List Bool} (hg:ZU want (look st.env s)=some gc) (hx:rd gc st x=(.t (.str str),p1)) (hi:rd gc st i=(.t (.int kd j),p2)) (hc:str[j]?=some c) (hs:zO st d (.gd gc (.t (.int .u8 c.toNat))) some=some st') (h':Mid P n m R draw all after live k b ((false,false)::fl) ops st') (hp1:Z7 (p1.map fun p=>!gc||p):=by (repeat' (first |exact trivial|exact Bool.not_or_self _|exact yK _|exact yJ _|exact grd3 _ _|exact yL _ _|refine And.intro ?_ ?_|exact rfl|(simp;done)|(simp<;>omega)));done) (hp2:Z7 (p2.map fun p=>!gc||p):=by (repeat' (first |exact trivial|exact Bool.not_or_self _|exact yK _|exact yJ _|exact grd3 _ _|exact yL _ _|refine And.intro ?_ ?_|exact rfl|(simp;done)|(simp<;>omega)));done):Mid P n m R draw all after live k b fl (⟨d,some (s,want),.ixs x i⟩::ops) st:=
 Mid.zfK hg hx hi hc hp1 hp2 hs h'
theorem elG {α:Type} {f:α->List T} {l:List α} {e:α} {sz j:Nat} {s:Nat} {want gc:Bool} {x i:Ar} {v:V} {kd:IntKind} {p1 p2:List Bool} (hg:ZU want (look st.env s)=some gc) (hx:rd gc st x=(v,p1)) (hv:v.zA=some (.lst (l.map f))) (hi:rd gc st i=(.t (.int kd j),p2)) (hc:l[j]?=some e) (hl:(Nat.beq (f e).length sz&&!(Nat.beq sz 0))=true) (hs:zO st d (.gd gc (.t (.ptr (f e)))) some=some st') (h':Mid P n m R draw all after live k b ((false,false)::fl) ops st') (hp1:Z7 (p1.map fun p=>!gc||p):=by (repeat' (first |exact trivial|exact Bool.not_or_self _|exact yK _|exact yJ _|exact grd3 _ _|exact yL _ _|refine And.intro ?_ ?_|exact rfl|(simp;done)|(simp<;>omega)));done) (hp2:Z7 (p2.map fun p=>!gc||p):=by (repeat' (first |exact trivial|exact Bool.not_or_self _|exact yK _|exact yJ _|exact grd3 _ _|exact yL _ _|refine And.intro ?_ ?_|exact rfl|(simp;done)|(simp<;>omega)));done):Mid P n m R draw all after live k b fl (⟨d,some (s,want),.ia sz x i⟩::ops) st:=
 Mid.z5X hg hx hv hi hc hl hp1 hp2 hs h'
theorem caG {f:FuncId} {s:Nat} {want gc:Bool} {args:List Ar} {vs:List V} {ps:List Bool} {x:V} (hg:ZU want (look st.env s)=some gc) (hv:z3e gc st args (fun vs ps=>some (vs,ps))=some (vs,ps)) (h:gc=true->∃vs',vs=vs'/\z7 P f vs' ⟨[],0⟩ {v:=x}/\V.bds 0 vs'=true) (hx:x.bd 0=true) (hs:zO st d (.gd gc x) some=some st') (h':Mid P n m R draw all after live k b ((false,false)::fl) ops st') (hp:Z7 (ps.map fun p=>!gc||p):=by (repeat' (first |exact trivial|exact Bool.not_or_self _|exact yK _|exact yJ _|exact grd3 _ _|exact yL _ _|refine And.intro ?_ ?_|exact rfl|(simp;done)|(simp<;>omega)));done):Mid P n m R draw all after live k b fl (⟨d,some (s,want),.call f args⟩::ops) st:=
 Mid.qo hg hv hp h hx hs h'
theorem apM {α:Type} (f:α->List T) (l1:List α) (l2:List α) {sz by_ j s nn:Nat} {x y:Ar} (hx:x.u st= .own j s (l1.map f)) (hy:(y.u st).zA=some (.lst (l2.map f))) (hn:zi st.s.sto j=some (.arr nn)) (hs:Nat.beq s sz=true) (hst:z0o b st d {v:= .own j sz ((l1++l2).map f),ob:=[(j,.arr (l1++l2).length)],rd:=true} (fun b' st'=>some (b',st'))=some (b',st')) (h':Mid P n m R draw all after live k b' ((true,true)::fl) ops st') (he:nn=l1.length:=by first |rfl|simp) (hl:∀x,(f x).length=sz:=by intros;rfl) (h1:(l1.length+l2.length)*by_<=140737488355328:=by simp;omega) (h2:l1.length+l2.length<=9223372036854775807:=by simp;omega):Mid P n m R draw all after live k b fl (⟨d,none,.app sz by_ x y⟩::ops) st:=
 Mid.appMap f l1 l2 hx hy hn he hs hl h1 h2 hst h'
theorem apN {α:Type} (f:α->List T) (l2:List α) {sz by_:Nat} {x y:Ar} (hx:x.u st= .zI) (hy:(y.u st).zA=some (.lst (l2.map f))) (hst:z0o b st d {v:= .own b sz (l2.map f),ob:=[(b,.arr l2.length)],n:=1} (fun b' st'=>some (b',st'))=some (b',st')) (h':Mid P n m R draw all after live k b' ((false,true)::fl) ops st') (hl:∀x,(f x).length=sz:=by intros;rfl) (h1:l2.length*by_<=140737488355328:=by simp;omega) (h2:l2.length<=9223372036854775807:=by simp;omega):Mid P n m R draw all after live k b fl (⟨d,none,.app sz by_ x y⟩::ops) st:=
 Mid.z9S f l2 hx hy hl h1 h2 hst h'
theorem zn {k k':List It} {c:zW} {st st':St} (j:Nat) (hk:yd 200 k= .lp c::k') (h:Run P n m R (.lp c::k') st') (h1:Nat.ble m j=true) (h2:Nat.ble j st.s.nxt=true) (h3:Nat.ble j st'.s.nxt=true) (he:LeE j st'.s.nxt st.env st'.env:=by repeat' (first |exact trivial|exact LeX.t|exact LeX.top|exact LeX.zF (zLB rfl) (zLB rfl)|exact LeX.Zg|exact LeX.Zh|exact LeX.same rfl|exact LeX.tEq (by simp)|exact LeX.ownEq (by simp) (zLB rfl)|exact LeX.W8 (zLB rfl)|exact LeX.fowT|exact LeX.Qp (by first |rfl|omega|simp) (by first |rfl|omega|simp) (by first |rfl|omega|(simp;done)|(simp;omega)) (zLB rfl)|exact LeX.fowEq (by first |rfl|omega) (by simp) (zLB rfl)|exact LeO.qE (by first |rfl|omega|simp) (zo.gE (by first |rfl|simp) (fun _=>rfl))|refine LeO.qE (by first |rfl|omega) ?_|exact zo.gE (by first |rfl|simp) (fun _=>rfl)|exact LeO.y9 (by first |rfl|simp)|exact LeX.tEq (by congr 1<;>omega)|exact Or.inr ⟨zLB rfl,zLB rfl,rfl⟩|refine Or.inl ⟨zLB rfl,_,rfl,?_⟩|refine LeO.cells ?_|exact LeO.arr rfl|exact LeO.arr (by simp)|exact LeO.mE (by first |rfl|simp) (by first |exact Or.inl rfl|exact Or.inr rfl)|exact LeO.cE (by first |rfl|simp)|exact zo.cE (by first |rfl|simp)|refine LeO.map (by first |rfl|simp) ?_ (by first |exact Or.inl rfl|exact Or.inr rfl)|exact LeO.iter (by first |rfl|simp) (zLB rfl)|refine zo.cons ?_ ?_|exact zo.nil|refine And.intro ?_ ?_)) (hs:LeS j st'.s.nxt st.s.sto st'.s.sto:=by repeat' (first |exact trivial|exact LeX.t|exact LeX.top|exact LeX.zF (zLB rfl) (zLB rfl)|exact LeX.Zg|exact LeX.Zh|exact LeX.same rfl|exact LeX.tEq (by simp)|exact LeX.ownEq (by simp) (zLB rfl)|exact LeX.W8 (zLB rfl)|exact LeX.fowT|exact LeX.Qp (by first |rfl|omega|simp) (by first |rfl|omega|simp) (by first |rfl|omega|(simp;done)|(simp;omega)) (zLB rfl)|exact LeX.fowEq (by first |rfl|omega) (by simp) (zLB rfl)|exact LeO.qE (by first |rfl|omega|simp) (zo.gE (by first |rfl|simp) (fun _=>rfl))|refine LeO.qE (by first |rfl|omega) ?_|exact zo.gE (by first |rfl|simp) (fun _=>rfl)|exact LeO.y9 (by first |rfl|simp)|exact LeX.tEq (by congr 1<;>omega)|exact Or.inr ⟨zLB rfl,zLB rfl,rfl⟩|refine Or.inl ⟨zLB rfl,_,rfl,?_⟩|refine LeO.cells ?_|exact LeO.arr rfl|exact LeO.arr (by simp)|exact LeO.mE (by first |rfl|simp) (by first |exact Or.inl rfl|exact Or.inr rfl)|exact LeO.cE (by first |rfl|simp)|exact zo.cE (by first |rfl|simp)|refine LeO.map (by first |rfl|simp) ?_ (by first |exact Or.inl rfl|exact Or.inr rfl)|exact LeO.iter (by first |rfl|simp) (zLB rfl)|refine zo.cons ?_ ?_|exact zo.nil|refine And.intro ?_ ?_)):Run P n m R k st:=
 Run.Qj j hk h h1 h2 h3 he hs
theorem YK {k k':List It} {c:zW} {st st':St} (j:Nat) (hk:yd 200 k= .c c::k') (h:Run P n m R (.c c::k') st') (h1:Nat.ble m j=true) (h2:Nat.ble j st.s.nxt=true) (h3:Nat.ble j st'.s.nxt=true) (he:LeE j st'.s.nxt st.env st'.env:=by repeat' (first |exact trivial|exact LeX.t|exact LeX.top|exact LeX.zF (zLB rfl) (zLB rfl)|exact LeX.Zg|exact LeX.Zh|exact LeX.same rfl|exact LeX.tEq (by simp)|exact LeX.ownEq (by simp) (zLB rfl)|exact LeX.W8 (zLB rfl)|exact LeX.fowT|exact LeX.Qp (by first |rfl|omega|simp) (by first |rfl|omega|simp) (by first |rfl|omega|(simp;done)|(simp;omega)) (zLB rfl)|exact LeX.fowEq (by first |rfl|omega) (by simp) (zLB rfl)|exact LeO.qE (by first |rfl|omega|simp) (zo.gE (by first |rfl|simp) (fun _=>rfl))|refine LeO.qE (by first |rfl|omega) ?_|exact zo.gE (by first |rfl|simp) (fun _=>rfl)|exact LeO.y9 (by first |rfl|simp)|exact LeX.tEq (by congr 1<;>omega)|exact Or.inr ⟨zLB rfl,zLB rfl,rfl⟩|refine Or.inl ⟨zLB rfl,_,rfl,?_⟩|refine LeO.cells ?_|exact LeO.arr rfl|exact LeO.arr (by simp)|exact LeO.mE (by first |rfl|simp) (by first |exact Or.inl rfl|exact Or.inr rfl)|exact LeO.cE (by first |rfl|simp)|exact zo.cE (by first |rfl|simp)|refine LeO.map (by first |rfl|simp) ?_ (by first |exact Or.inl rfl|exact Or.inr rfl)|exact LeO.iter (by first |rfl|simp) (zLB rfl)|refine zo.cons ?_ ?_|exact zo.nil|refine And.intro ?_ ?_)) (hs:LeS j st'.s.nxt st.s.sto st'.s.sto:=by repeat' (first |exact trivial|exact LeX.t|exact LeX.top|exact LeX.zF (zLB rfl) (zLB rfl)|exact LeX.Zg|exact LeX.Zh|exact LeX.same rfl|exact LeX.tEq (by simp)|exact LeX.ownEq (by simp) (zLB rfl)|exact LeX.W8 (zLB rfl)|exact LeX.fowT|exact LeX.Qp (by first |rfl|omega|simp) (by first |rfl|omega|simp) (by first |rfl|omega|(simp;done)|(simp;omega)) (zLB rfl)|exact LeX.fowEq (by first |rfl|omega) (by simp) (zLB rfl)|exact LeO.qE (by first |rfl|omega|simp) (zo.gE (by first |rfl|simp) (fun _=>rfl))|refine LeO.qE (by first |rfl|omega) ?_|exact zo.gE (by first |rfl|simp) (fun _=>rfl)|exact LeO.y9 (by first |rfl|simp)|exact LeX.tEq (by congr 1<;>omega)|exact Or.inr ⟨zLB rfl,zLB rfl,rfl⟩|refine Or.inl ⟨zLB rfl,_,rfl,?_⟩|refine LeO.cells ?_|exact LeO.arr rfl|exact LeO.arr (by simp)|exact LeO.mE (by first |rfl|simp) (by first |exact Or.inl rfl|exact Or.inr rfl)|exact LeO.cE (by first |rfl|simp)|exact zo.cE (by first |rfl|simp)|refine LeO.map (by first |rfl|simp) ?_ (by first |exact Or.inl rfl|exact Or.inr rfl)|exact LeO.iter (by first |rfl|simp) (zLB rfl)|refine zo.cons ?_ ?_|exact zo.nil|refine And.intro ?_ ?_)):Run P n m R k st:=
 Run.zfJ j hk h h1 h2 h3 he hs
theorem zD {α β:Type} {k k':List It} {c:zW} {st:St} (l:List α) (stf:Nat->β->St) (Inv:List α->Nat->β->Prop) (j:Nat) (b0:β) (hk:yd 200 k= .c (.loop c)::k') (h0:Inv l 0 b0) (h1:Nat.ble m j=true) (h2:Nat.ble j st.s.nxt=true) (h3:Nat.ble j (stf 0 b0).s.nxt=true) (hend:∀b,Inv [] l.length b->Run P n m R (.c c:: .lp c::k') (stf l.length b)) (hstep:∀(i:Nat) (x:α) (r:List α) (b:β),l[i]?=some x->i<l.length->l.drop (i+1)=r->Inv (x::r) i b->(∀b',Inv r (i+1) b'->Run P n m R (.lp c::k') (stf (i+1) b'))->Run P n m R (.c c:: .lp c::k') (stf i b)) (he:LeE j (stf 0 b0).s.nxt st.env (stf 0 b0).env:=by repeat' (first |exact trivial|exact LeX.t|exact LeX.top|exact LeX.zF (zLB rfl) (zLB rfl)|exact LeX.Zg|exact LeX.Zh|exact LeX.same rfl|exact LeX.tEq (by simp)|exact LeX.ownEq (by simp) (zLB rfl)|exact LeX.W8 (zLB rfl)|exact LeX.fowT|exact LeX.Qp (by first |rfl|omega|simp) (by first |rfl|omega|simp) (by first |rfl|omega|(simp;done)|(simp;omega)) (zLB rfl)|exact LeX.fowEq (by first |rfl|omega) (by simp) (zLB rfl)|exact LeO.qE (by first |rfl|omega|simp) (zo.gE (by first |rfl|simp) (fun _=>rfl))|refine LeO.qE (by first |rfl|omega) ?_|exact zo.gE (by first |rfl|simp) (fun _=>rfl)|exact LeO.y9 (by first |rfl|simp)|exact LeX.tEq (by congr 1<;>omega)|exact Or.inr ⟨zLB rfl,zLB rfl,rfl⟩|refine Or.inl ⟨zLB rfl,_,rfl,?_⟩|refine LeO.cells ?_|exact LeO.arr rfl|exact LeO.arr (by simp)|exact LeO.mE (by first |rfl|simp) (by first |exact Or.inl rfl|exact Or.inr rfl)|exact LeO.cE (by first |rfl|simp)|exact zo.cE (by first |rfl|simp)|refine LeO.map (by first |rfl|simp) ?_ (by first |exact Or.inl rfl|exact Or.inr rfl)|exact LeO.iter (by first |rfl|simp) (zLB rfl)|refine zo.cons ?_ ?_|exact zo.nil|refine And.intro ?_ ?_)) (hs:LeS j (stf 0 b0).s.nxt st.s.sto (stf 0 b0).s.sto:=by repeat' (first |exact trivial|exact LeX.t|exact LeX.top|exact LeX.zF (zLB rfl) (zLB rfl)|exact LeX.Zg|exact LeX.Zh|exact LeX.same rfl|exact LeX.tEq (by simp)|exact LeX.ownEq (by simp) (zLB rfl)|exact LeX.W8 (zLB rfl)|exact LeX.fowT|exact LeX.Qp (by first |rfl|omega|simp) (by first |rfl|omega|simp) (by first |rfl|omega|(simp;done)|(simp;omega)) (zLB rfl)|exact LeX.fowEq (by first |rfl|omega) (by simp) (zLB rfl)|exact LeO.qE (by first |rfl|omega|simp) (zo.gE (by first |rfl|simp) (fun _=>rfl))|refine LeO.qE (by first |rfl|omega) ?_|exact zo.gE (by first |rfl|simp) (fun _=>rfl)|exact LeO.y9 (by first |rfl|simp)|exact LeX.tEq (by congr 1<;>omega)|exact Or.inr ⟨zLB rfl,zLB rfl,rfl⟩|refine Or.inl ⟨zLB rfl,_,rfl,?_⟩|refine LeO.cells ?_|exact LeO.arr rfl|exact LeO.arr (by simp)|exact LeO.mE (by first |rfl|simp) (by first |exact Or.inl rfl|exact Or.inr rfl)|exact LeO.cE (by first |rfl|simp)|exact zo.cE (by first |rfl|simp)|refine LeO.map (by first |rfl|simp) ?_ (by first |exact Or.inl rfl|exact Or.inr rfl)|exact LeO.iter (by first |rfl|simp) (zLB rfl)|refine zo.cons ?_ ?_|exact zo.nil|refine And.intro ?_ ?_)):Run P n m R k st:=
 Run.list l stf Inv j b0 hk h0 h1 h2 h3 he hs hend hstep
theorem z30 {β:Type} {k k':List It} {c:zW} {st:St} (stf:β->St) (Inv:β->Prop) (μ:β->Nat) (j:Nat) (b0:β) (hk:yd 200 k= .c (.loop c)::k') (h0:Inv b0) (h1:Nat.ble m j=true) (h2:Nat.ble j st.s.nxt=true) (h3:Nat.ble j (stf b0).s.nxt=true) (hstep:∀(b:β),Inv b->(∀b',μ b'<μ b->Inv b'->Run P n m R (.lp c::k') (stf b'))->Run P n m R (.c c:: .lp c::k') (stf b)) (he:LeE j (stf b0).s.nxt st.env (stf b0).env:=by repeat' (first |exact trivial|exact LeX.t|exact LeX.top|exact LeX.zF (zLB rfl) (zLB rfl)|exact LeX.Zg|exact LeX.Zh|exact LeX.same rfl|exact LeX.tEq (by simp)|exact LeX.ownEq (by simp) (zLB rfl)|exact LeX.W8 (zLB rfl)|exact LeX.fowT|exact LeX.Qp (by first |rfl|omega|simp) (by first |rfl|omega|simp) (by first |rfl|omega|(simp;done)|(simp;omega)) (zLB rfl)|exact LeX.fowEq (by first |rfl|omega) (by simp) (zLB rfl)|exact LeO.qE (by first |rfl|omega|simp) (zo.gE (by first |rfl|simp) (fun _=>rfl))|refine LeO.qE (by first |rfl|omega) ?_|exact zo.gE (by first |rfl|simp) (fun _=>rfl)|exact LeO.y9 (by first |rfl|simp)|exact LeX.tEq (by congr 1<;>omega)|exact Or.inr ⟨zLB rfl,zLB rfl,rfl⟩|refine Or.inl ⟨zLB rfl,_,rfl,?_⟩|refine LeO.cells ?_|exact LeO.arr rfl|exact LeO.arr (by simp)|exact LeO.mE (by first |rfl|simp) (by first |exact Or.inl rfl|exact Or.inr rfl)|exact LeO.cE (by first |rfl|simp)|exact zo.cE (by first |rfl|simp)|refine LeO.map (by first |rfl|simp) ?_ (by first |exact Or.inl rfl|exact Or.inr rfl)|exact LeO.iter (by first |rfl|simp) (zLB rfl)|refine zo.cons ?_ ?_|exact zo.nil|refine And.intro ?_ ?_)) (hs:LeS j (stf b0).s.nxt st.s.sto (stf b0).s.sto:=by repeat' (first |exact trivial|exact LeX.t|exact LeX.top|exact LeX.zF (zLB rfl) (zLB rfl)|exact LeX.Zg|exact LeX.Zh|exact LeX.same rfl|exact LeX.tEq (by simp)|exact LeX.ownEq (by simp) (zLB rfl)|exact LeX.W8 (zLB rfl)|exact LeX.fowT|exact LeX.Qp (by first |rfl|omega|simp) (by first |rfl|omega|simp) (by first |rfl|omega|(simp;done)|(simp;omega)) (zLB rfl)|exact LeX.fowEq (by first |rfl|omega) (by simp) (zLB rfl)|exact LeO.qE (by first |rfl|omega|simp) (zo.gE (by first |rfl|simp) (fun _=>rfl))|refine LeO.qE (by first |rfl|omega) ?_|exact zo.gE (by first |rfl|simp) (fun _=>rfl)|exact LeO.y9 (by first |rfl|simp)|exact LeX.tEq (by congr 1<;>omega)|exact Or.inr ⟨zLB rfl,zLB rfl,rfl⟩|refine Or.inl ⟨zLB rfl,_,rfl,?_⟩|refine LeO.cells ?_|exact LeO.arr rfl|exact LeO.arr (by simp)|exact LeO.mE (by first |rfl|simp) (by first |exact Or.inl rfl|exact Or.inr rfl)|exact LeO.cE (by first |rfl|simp)|exact zo.cE (by first |rfl|simp)|refine LeO.map (by first |rfl|simp) ?_ (by first |exact Or.inl rfl|exact Or.inr rfl)|exact LeO.iter (by first |rfl|simp) (zLB rfl)|refine zo.cons ?_ ?_|exact zo.nil|refine And.intro ?_ ?_)):Run P n m R k st:=
 Run.zgb stf Inv μ j b0 hk h0 h1 h2 h3 he hs hstep
end
theorem leSA {m m':Nat} {s s':List (Nat×z6)} (h:LeS m m' s s':=by repeat' (first |exact trivial|exact LeX.t|exact LeX.top|exact LeX.zF (Nat.le_of_ble_eq_true rfl) (Nat.le_of_ble_eq_true rfl)|exact LeX.Zg|exact LeX.Zh|exact LeX.same rfl|exact LeX.tEq (by simp)|exact LeX.ownEq (by simp) (Nat.le_of_ble_eq_true rfl)|exact LeX.tEq (by congr 1<;>omega)|exact Or.inr ⟨Nat.le_of_ble_eq_true rfl,Nat.le_of_ble_eq_true rfl,rfl⟩|refine Or.inl ⟨Nat.le_of_ble_eq_true rfl,_,rfl,?_⟩|refine LeO.cells ?_|exact LeO.arr rfl|exact LeO.arr (by simp)|exact LeO.mE (by first |rfl|simp) (by first |exact Or.inl rfl|exact Or.inr rfl)|exact LeO.cE (by first |rfl|simp)|exact zo.cE (by first |rfl|simp)|refine LeO.map (by first |rfl|simp) ?_ (by first |exact Or.inl rfl|exact Or.inr rfl)|exact LeO.iter (by first |rfl|simp) (Nat.le_of_ble_eq_true rfl)|refine zo.cons ?_ ?_|exact zo.nil|refine And.intro ?_ ?_)):LeS m m' s s':=h
theorem leEA {m m':Nat} {s s':List (Nat×V)} (h:LeE m m' s s':=by repeat' (first |exact trivial|exact LeX.t|exact LeX.top|exact LeX.zF (Nat.le_of_ble_eq_true rfl) (Nat.le_of_ble_eq_true rfl)|exact LeX.Zg|exact LeX.Zh|exact LeX.same rfl|exact LeX.tEq (by simp)|exact LeX.ownEq (by simp) (Nat.le_of_ble_eq_true rfl)|exact LeX.tEq (by congr 1<;>omega)|exact Or.inr ⟨Nat.le_of_ble_eq_true rfl,Nat.le_of_ble_eq_true rfl,rfl⟩|refine Or.inl ⟨Nat.le_of_ble_eq_true rfl,_,rfl,?_⟩|refine LeO.cells ?_|exact LeO.arr rfl|exact LeO.arr (by simp)|exact LeO.mE (by first |rfl|simp) (by first |exact Or.inl rfl|exact Or.inr rfl)|exact LeO.cE (by first |rfl|simp)|exact zo.cE (by first |rfl|simp)|refine LeO.map (by first |rfl|simp) ?_ (by first |exact Or.inl rfl|exact Or.inr rfl)|exact LeO.iter (by first |rfl|simp) (Nat.le_of_ble_eq_true rfl)|refine zo.cons ?_ ?_|exact zo.nil|refine And.intro ?_ ?_)):LeE m m' s s':=h
structure Y7 {κ:Type} (ks:List KSh) (ek:κ->List T):Prop where
 ok:∀x,Zn ks (ek x)=true
 eq:∀x y,ZX (ek x) (ek y)=true->x=y
 refl:∀x,ZX (ek x) (ek x)=true
section
variable {κ ν:Type} [DecidableEq κ]
def Z6 (k:κ):List (κ×ν)->Option ν
 |[]=>none
 |e::r=>if k=e.1 then some e.2 else Z6 k r
def yl (k:κ) (v:ν):List (κ×ν)->List (κ×ν)
 |[]=>[(k,v)]
 |e::r=>if k=e.1 then (k,v)::r else e::yl k v r
def z6O (k:κ) (z:ν) (l:List (κ×ν)):List (κ×ν):=
 match Z6 k l with
 |some _=>l
 |none=>l++[(k,z)]
theorem Wj (k k':κ) (v:ν):∀(l:List (κ×ν)),Z6 k' (yl k v l)=if k'=k then some v else Z6 k' l
 |[]=>by simp [yl,Z6]
 |e::r=>by
  simp only [yl];by_cases h:k=e.1
  ·subst h;simp only [if_true,Z6]
   split<;>simp_all
  ·simp only [h,if_false,Z6,Wj k k' v r];by_cases h2:k'=e.1
   ·subst h2;have:¬ e.1=k:=fun h'=>h h'.symm;simp [this]
   ·simp [h2]
variable {ks:List KSh} {ek:κ->List T} {ev:ν->T}
theorem Y7.iff (he:Y7 ks ek) (x y:κ):ZX (ek x) (ek y)=decide (x=y):=by
 by_cases h:x=y
 ·subst h;simp [he.refl]
 ·cases hk:ZX (ek x) (ek y) with
  |false=>simp [h]
  |true=>exact absurd (he.eq x y hk) h
theorem z5l (he:Y7 ks ek) (k:κ):∀(l:List (κ×ν)),z3t (ek k) (mE ek ev l)=(Z6 k l).map fun v=> .t (ev v)
 |[]=>rfl
 |e::r=>by
  have:=z5l he k r;simp only [mE] at this;simp only [mE,List.map_cons,z3t,he.iff,Z6,decide_eq_true_eq,this]
  split<;>rfl
theorem z85 (he:Y7 ks ek) (k:κ) (v:ν):∀(l:List (κ×ν)),z3l (ek k) (.t (ev v)) (mE ek ev l)=mE ek ev (yl k v l)
 |[]=>rfl
 |e::r=>by
  have:=z85 he k v r;simp only [mE] at this;simp only [mE,List.map_cons,z3l,he.iff,yl,decide_eq_true_eq,this]
  split<;>rfl
theorem wF (he:Y7 ks ek) (l:List (κ×ν)):yn ks (mE ek ev l)=true:=by
 simp [yn,mE,he.ok]
theorem z2T (he:Y7 ks ek) (k:κ):∀(l:List (κ×ν)),ya (ek k) (mE ek ev l)=l.findIdx? (fun e=>decide (k=e.1))
 |[]=>rfl
 |e::r=>by
  have:=z2T he k r;simp only [mE] at this;simp only [mE,List.map_cons,ya,he.iff,this,List.findIdx?_cons]
theorem WG (k:κ):∀(l:List (κ×ν)),(l.findIdx? (fun e=>decide (k=e.1))=none/\Z6 k l=none)∨∃i v,l.findIdx? (fun e=>decide (k=e.1))=some i/\Z6 k l=some v/\l[i]?=some (k,v)/\∀w,l.modify i (fun e=>(e.1,w))=yl k w l
 |[]=> .inl ⟨rfl,rfl⟩
 |e::r=>by
  by_cases h:k=e.1
  ·refine .inr ⟨0,e.2,by simp [List.findIdx?_cons,h],by simp [Z6,h],by simp [h],fun w=>by simp [yl,h]⟩
  ·rcases WG k r with ⟨h1,h2⟩|⟨i,v,h1,h2,h3,h4⟩
   ·exact .inl ⟨by simp [List.findIdx?_cons,h,h1],by simp [Z6,h,h2]⟩
   ·refine .inr ⟨i+1,v,by simp [List.findIdx?_cons,h,h1],by simp [Z6,h,h2],by simpa using h3,fun w=>?_⟩
    have:=h4 w;simp [yl,h,this]
theorem zbP (k:κ) (z w:ν):∀(l:List (κ×ν)),yl k w (z6O k z l)=yl k w l:=by
 have key:∀(l:List (κ×ν)),Z6 k l=none->yl k w (l++[(k,z)])=yl k w l:=by
  intro l
  induction l with
  |nil=>intro _;simp [yl]
  |cons e r ih=>
   intro h;simp only [Z6] at h;split at h
   ·cases h
   ·rename_i h1;simp [yl,h1,ih h]
 intro l;unfold z6O;split
 ·rfl
 ·rename_i h;exact key l h
end
theorem V.z8L {ν:Type} (ρ:Nat->Nat) (ev:ν->T):∀(l:List ν),V.YU ρ (cE ev l)=cE ev l
 |[]=>rfl
 |x::r=>by have:=V.z8L ρ ev r;simp only [cE] at this;simp [cE,V.YU,V.ren,this]
theorem z6.zL {ν:Type} (ρ:Nat->Nat) (ev:ν->T) (l:List ν):(z6.cells (cE ev l)).ren ρ= .cells (cE ev l):=by simp [z6.ren,V.z8L]
theorem z6.zK {κ ν:Type} (ρ:Nat->Nat) (kag:Bool) (ek:κ->List T) (ev:ν->T) (l:List (κ×ν)) (sx:Option (Nat×List Nat)):(z6.map kag (mE ek ev l) sx).ren ρ= .map kag (mE ek ev l) sx:=by
 simp [z6.ren,mE,V.ren,Function.comp_def]
def z1Q {ρ:Type}:List (Nat×z6)->List (Nat×z6)->(List (Nat×z6)->ρ)->ρ
 |s,[],K=>K s
 |s,(k,o)::r,K=>z3C s k o fun s'=>z1Q s' r K
theorem z2L {ρ:Type}:∀(r s:List (Nat×z6)) (K:List (Nat×z6)->ρ),z1Q s r K=K (Zq s r)
 |[],s,K=>rfl
 |(k,o)::r,s,K=>by simp only [z1Q,z07,z2L r,Zq]
def Yl {ρ:Type} (b:Nat) (st:St) (d:Option Nat) (o:Out) (K:Nat->St->ρ):ρ:=
 Yu (b+o.n) fun b'=>o.v.force fun v'=>setEnv st d v' fun e=>z1Q st.s.sto o.ob fun sto=>match st with|⟨_,⟨_,nx⟩⟩=>K b' ⟨e,⟨sto,nx⟩⟩
theorem ZZ {ρ:Type} (b:Nat) (st:St) (d:Option Nat) (o:Out) (K:Nat->St->ρ):Yl b st d o K=K (b+o.n) (st.app d o):=by
 obtain ⟨env,⟨sto,nx⟩⟩:=st;simp only [Yl,YY,V.force_eq,Zp,z2L]
 cases d<;>rfl
section
variable {P:Program} {n m:Nat} {R:St->Prop}
variable {draw:Bool} {all:List AO} {after:List (List Nat)} {live:List Nat} {k:List It} {b:Nat} {fl:List (Bool×Bool)} {ops:List AO} {st st':St} {d:Option Nat} {b':Nat}
theorem Mid.zdO {op:AOp} {v:V} {ps:List Bool} (hev:zh true st op=some (v,ps)) (hl:Za st op=true) (hp:Z7 ps) (hs:zO st d v some=some st')
  (h':Mid P n m R draw all after live k b ((true,false)::fl) ops st'):Mid P n m R draw all after live k b fl (⟨d,none,op⟩::ops) st:=by
 simp only [zO,V.force_eq,Zp,St.Zz,Option.some.injEq] at hs
 have e:st'=st.app d {v:=v,rd:=true}:=by rw [←hs];cases d<;>rfl
 rw [e] at h';unfold Mid at h'⊢;simp only [evR,evO,evU,hev,hl]
 exact ⟨hp,by simpa using h'⟩
theorem Mid.zfW {op:AOp} {s:Nat} {want gc:Bool} {v:V} {ps:List Bool} (hg:ZU want (look st.env s)=some gc) (hev:zh gc st op=some (v,ps)) (hl:Za st op=true) (hp:Z7 (ps.map fun p=>!gc||p)) (hs:zO st d (.gd gc v) some=some st')
  (h':Mid P n m R draw all after live k b ((true,false)::fl) ops st'):Mid P n m R draw all after live k b fl (⟨d,some (s,want),op⟩::ops) st:=by
 rw [wA] at hg;simp only [zO,V.force_eq,Zp,St.Zz,Option.some.injEq] at hs
 have e:st'=st.app d {v:= .gd gc v,rd:=true}:=by rw [←hs];cases d<;>rfl
 rw [e] at h';unfold Mid at h'⊢;simp only [evR,evO,hg,hev,hl]
 exact ⟨hp,by simpa using h'⟩
theorem z3H {gc:Bool} {v:V} {q:Nat} {p:List Bool} (h:v.un gc=(.mp q,p)):yI v=true:=by
 cases v<;>simp [V.un] at h<;>simp_all [yI]
theorem z2X {gc:Bool} {v:V} {q o:Nat} {p:List Bool} (h:v.un gc=(.ptr q o,p)):yI v=true:=by
 cases v<;>simp [V.un] at h<;>simp_all [yI]
section
variable {κ ν:Type} [DecidableEq κ] {ks:List KSh} {kag:Bool} {ek:κ->List T} {ev:ν->T} {l:List (κ×ν)} {sx:Option (Nat×List Nat)} {zv vk:V} {q:Nat} {z:ν} {x y:Ar} {p1 p2:List Bool}
theorem Mid.z8I (k':κ) (hx:rd true st x=(.mp q,[])) (hq:zi st.s.sto q=some (.map kag (mE ek ev l) sx)) (hk:rd true st y=(vk,[])) (hc:q7 ks kag vk=some (ek k')) (hz:zv= .t (ev z)) (he:Y7 ks ek)
  (hs:zO st d (.t (ev ((Z6 k' l).getD z))) some=some st')
  (h':Mid P n m R draw all after live k b ((true,false)::fl) ops st'):Mid P n m R draw all after live k b fl (⟨d,none,.nw (.lookup ks kag zv false x y)⟩::ops) st:=by
 subst hz;refine Mid.zdO (v:= .t (ev ((Z6 k' l).getD z))) (ps:=[true,true]) ?_ (z3H hx) ⟨rfl,rfl,trivial⟩ hs h';simp only [zh,Zr,hx,hk,hc,hq,z5l he,wF he]
 cases Z6 k' l<;>simp [okV]
theorem Mid.zet {sl:Nat} {want gc:Bool} (k':κ) (hg:ZU want (look st.env sl)=some gc) (hx:rd gc st x=(.mp q,p1)) (hq:zi st.s.sto q=some (.map kag (mE ek ev l) sx)) (hk:rd gc st y=(vk,p2)) (hc:q7 ks kag vk=some (ek k')) (hz:zv= .t (ev z)) (he:Y7 ks ek)
  (hp1:Z7 (p1.map fun p=>!gc||p)) (hp2:Z7 (p2.map fun p=>!gc||p)) (hs:zO st d (.gd gc (.t (ev ((Z6 k' l).getD z)))) some=some st')
  (h':Mid P n m R draw all after live k b ((true,false)::fl) ops st'):Mid P n m R draw all after live k b fl (⟨d,some (sl,want),.nw (.lookup ks kag zv false x y)⟩::ops) st:=by
 subst hz;refine Mid.zfW (v:= .t (ev ((Z6 k' l).getD z))) (ps:=p1++(p2++[true,true])) hg ?_ (z3H hx) (by simp only [List.map_append,w8];exact ⟨hp1,hp2,by simp [Z7]⟩) hs h';simp only [zh,Zr,hx,hk,hc,hq,z5l he,wF he]
 cases Z6 k' l<;>simp [okV]
theorem Mid.zd4 {w:ν} {zz:Ar} (k':κ) (hx:x.u st= .mp q) (hq:zi st.s.sto q=some (.map kag (mE ek ev l) sx)) (hc:q7 ks kag (y.u st)=some (ek k')) (hw:zz.u st= .t (ev w)) (he:Y7 ks ek)
  (hst:Yl b st d {v:= .top,ob:=[(q,.map kag (mE ek ev (yl k' w l)) none)],rd:=true} (fun b' st'=>some (b',st'))=some (b',st'))
  (h':Mid P n m R draw all after live k b' ((true,true)::fl) ops st'):Mid P n m R draw all after live k b fl (⟨d,none,.nw (.zb3 ks kag x y zz)⟩::ops) st:=by
 refine Mid.opX Z ?_;simp only [ZZ,Option.some.injEq,Prod.mk.injEq] at hst;obtain ⟨rfl,rfl⟩:=hst;simp only [evX,yf,hx,hc,hq,hw,z85 he];exact ⟨⟨trivial,wF he l⟩,h'⟩
theorem Mid.zgo {c:Nat} {bs:List Nat} (k':κ) (hx:x.u st= .mp q) (hq:zi st.s.sto q=some (.map kag (mE ek ev l) (some (c,bs)))) (hlen:bs.length=l.length) (hnd:bs.Nodup) (hlt:∀s,s∈bs->s<c) (hc:q7 ks kag (y.u st)=some (ek k')) (hz:zv= .t (ev z)) (he:Y7 ks ek)
  (h':∀(s c':Nat) (bs':List Nat),(∀w:ν,∃i,bs'.findIdx? (fun t:Nat=>decide (((t:Nat):Int)=s))=some i/\(z6O k' z l).modify i (fun e=>(e.1,w))=yl k' w l)->
   Mid P n m R draw all after live k b ((true,true)::fl) ops (st.app d {v:= .tup [.t (ev ((Z6 k' l).getD z)),.t (.int .i64 s)],ob:=[(q,.map kag (mE ek ev (z6O k' z l)) (some (c',bs')))],rd:=true})):
  Mid P n m R draw all after live k b fl (⟨d,none,.nw (.zcx ks kag zv x y)⟩::ops) st:=by
 subst hz;refine Mid.opX Z ?_;simp only [evX,yf,hx,hc,hq,z2T he]
 rcases WG k' l with ⟨e1,e2⟩|⟨i,v,e1,e2,e3,e4⟩
 ·rw [e1];refine ⟨⟨trivial,wF he l⟩,?_⟩
  have hk:z6O k' z l=l++[(k',z)]:=by simp [z6O,e2]
  have:=h' c (c+1) (bs++[c]) (fun w=>⟨l.length,?_,?_⟩)
  ·simpa [hk,mE,e2] using this
  ·rw [List.findIdx?_append]
   have:bs.findIdx? (fun t:Nat=>decide (((t:Nat):Int)=c))=none:=by
    rw [List.findIdx?_eq_none_iff];intro s hs;have:=hlt s hs;simp;omega
   simp [this,hlen]
  ·rw [hk];have hk2:=zbP k' z w l;rw [hk] at hk2;rw [←hk2]
   rcases WG k' (l++[(k',z)]) with ⟨a1,a2⟩|⟨j,v,a1,a2,a3,a4⟩
   ·rw [List.findIdx?_append,e1] at a1;simp at a1
   ·rw [List.findIdx?_append,e1] at a1;simp at a1;rw [a1];exact a4 w
 ·rw [e1]
  have hes:(mE ek ev l)[i]?=some (ek k',.t (ev v)):=by simp [mE,e3]
  have hi:i<bs.length:=by rw [hlen];exact (List.getElem?_eq_some_iff.1 e3).1
  have hbs:bs[i]?=some bs[i]:=by simp [hi]
  simp only [hes,hbs];refine ⟨⟨trivial,wF he l⟩,?_⟩
  have hk:z6O k' z l=l:=by simp [z6O,e2]
  have:=h' bs[i] c bs (fun w=>⟨i,?_,by rw [hk];exact e4 w⟩)
  ·simpa [hk,e2] using this
  ·rw [List.findIdx?_eq_some_iff_getElem]
   refine ⟨hi,by simp,fun j hj=>?_⟩
   simp only [decide_eq_true_eq,Int.natCast_inj];exact fun e=>absurd ((List.getElem_inj hnd).1 e) (by omega)
theorem Mid.zgu {c s:Nat} {bs:List Nat} {l':List (κ×ν)} {w:ν} {sa zz:Ar} {kd:IntKind} (k':κ) (hx:x.u st= .mp q) (hsv:sa.u st= .t (.int kd s)) (hq:zi st.s.sto q=some (.map kag (mE ek ev l') (some (c,bs)))) (hw:zz.u st= .t (ev w))
  (hf:∀w:ν,∃i,bs.findIdx? (fun t:Nat=>decide (((t:Nat):Int)=s))=some i/\l'.modify i (fun e=>(e.1,w))=yl k' w l)
  (hst:Yl b st d {v:= .top,ob:=[(q,.map kag (mE ek ev (yl k' w l)) (some (c,bs)))],rd:=true} (fun b' st'=>some (b',st'))=some (b',st'))
  (h':Mid P n m R draw all after live k b' ((true,true)::fl) ops st'):Mid P n m R draw all after live k b fl (⟨d,none,.nw (.zaE x sa zz)⟩::ops) st:=by
 refine Mid.opX Z ?_;simp only [ZZ,Option.some.injEq,Prod.mk.injEq] at hst;obtain ⟨rfl,rfl⟩:=hst;obtain ⟨i,h1,h2⟩:=hf w;simp only [evX,yf,hx,hsv,hq,h1,hw]
 have:(mE ek ev l').modify i (fun e=>(e.1,.t (ev w)))=mE ek ev (yl k' w l):=by
  rw [←h2];simp only [mE];apply List.ext_getElem?;intro j;simp only [List.getElem?_modify,List.getElem?_map];by_cases e:i=j
  ·subst e;cases l'[i]?<;>simp
  ·cases l'[j]?<;>simp [e]
 rw [this];exact h'
end
theorem Mid.z7d {κ ν:Type} (ek:κ->List T) (ev:ν->T) {kag vag:Bool} (hst:Yl b st d {v:= .mp b,ob:=[(b,.map kag (mE ek ev []) (some (0,[])))],n:=1} (fun b' st'=>some (b',st'))=some (b',st'))
  (h':Mid P n m R draw all after live k b' ((false,true)::fl) ops st'):Mid P n m R draw all after live k b fl (⟨d,none,.z2p kag vag⟩::ops) st:=by
 refine Mid.opX Z ?_;simp only [ZZ,Option.some.injEq,Prod.mk.injEq] at hst;obtain ⟨rfl,rfl⟩:=hst;simp only [evX];exact h'
theorem Mid.ldE {ν:Type} {ev:ν->T} {l:List ν} {e:ν} {x:Ar} {q o nn:Nat} (hx:rd true st x=(.ptr q o,[])) (hq:zi st.s.sto q=some (.cells (cE ev l))) (he:l[o]?=some e) (hs:zO st d (.t (ev e)) some=some st')
  (h':Mid P n m R draw all after live k b ((true,false)::fl) ops st'):Mid P n m R draw all after live k b fl (⟨d,none,.ld false nn x⟩::ops) st:=
 Mid.zdO (v:= .t (ev e)) (ps:=[]) (by simp only [zh,hx,hq];simp [cE,he]) (z2X hx) trivial hs h'
theorem Mid.stE {ν:Type} {ev:ν->T} {l:List ν} {w:ν} {x v:Ar} {q o:Nat} (hx:x.u st= .ptr q o) (hq:zi st.s.sto q=some (.cells (cE ev l))) (ho:o<l.length) (hv:v.u st= .t (ev w))
  (hst:Yl b st d {v:= .top,ob:=[(q,.cells (cE ev (l.set o w)))],rd:=true} (fun b' st'=>some (b',st'))=some (b',st'))
  (h':Mid P n m R draw all after live k b' ((true,true)::fl) ops st'):Mid P n m R draw all after live k b fl (⟨d,none,.st 1 x v⟩::ops) st:=by
 refine Mid.opX Z ?_;simp only [ZZ,Option.some.injEq,Prod.mk.injEq] at hst;obtain ⟨rfl,rfl⟩:=hst;simp only [evX,hx,hq,hv,V.parts]
 refine ⟨⟨by simp [cE];omega,by simp [V.Zm]⟩,?_⟩
 have:setAt (cE ev l) o [V.t (ev w)]=cE ev (l.set o w):=by simp [setAt,cE,List.map_set]
 rw [this];exact h'
theorem Mid.iaS {x i:Ar} {sz q off len:Nat} {kd:IntKind} {z:Nat} (hx:rd true st x=(.slc q off len sz,[])) (hi:rd true st i=(.t (.int kd z),[])) (hz:z<len) (hs:zO st d (.ptr q (off+z*sz)) some=some st')
  (h':Mid P n m R draw all after live k b ((false,false)::fl) ops st'):Mid P n m R draw all after live k b fl (⟨d,none,.ia sz x i⟩::ops) st:=
 Mid.val (v:= .ptr q (off+z*sz)) (ps:=[true,true]) (by simp only [zh,hx,hi];simp [hz]) (za8 hx (by simp) rfl) ⟨rfl,rfl,trivial⟩ hs h'
theorem Mid.ze3 {x i:Ar} {sz q off len:Nat} {kd:IntKind} {z:Nat} (hx:rd true st x=(.ptr q off,[])) (hi:rd true st i=(.t (.int kd z),[])) (hz:z<len) (hs:zO st d (.ptr q (off+z*sz)) some=some st')
  (h':Mid P n m R draw all after live k b ((false,false)::fl) ops st'):Mid P n m R draw all after live k b fl (⟨d,none,.z9c len sz x i⟩::ops) st:=
 Mid.val (v:= .ptr q (off+z*sz)) (ps:=[true,true]) (by simp only [zh,hx,hi];simp [hz]) rfl ⟨rfl,rfl,trivial⟩ hs h'
theorem zbq {ν:Type} (ev:ν->T) (zs:List ν) (i:Nat):(List.replicate i (cE ev zs)).flatten=cE ev (List.replicate i zs).flatten:=by
 induction i with
 |zero=>rfl
 |succ i ih=>simp only [List.replicate_succ,List.flatten_cons,ih];simp [cE]
theorem Mid.zfB {ν:Type} {ev:ν->T} (zs:List ν) {sz by_:Nat} {z:List V} {x:Ar} {kd:IntKind} {i:Nat} (hx:x.u st= .t (.int kd i)) (h1:(i:Int)*by_<=281474976710656) (h2:(i:Int)<=9223372036854775807) (hz:z=cE ev zs) (hl:Nat.beq zs.length sz=true)
  (hst:Yl b st d {v:= .slc b 0 i sz,ob:=[(b,.cells (cE ev (List.replicate i zs).flatten))],n:=1} (fun b' st'=>some (b',st'))=some (b',st'))
  (h':Mid P n m R draw all after live k b' ((false,true)::fl) ops st'):Mid P n m R draw all after live k b fl (⟨d,none,.z3k sz by_ z x⟩::ops) st:=by
 subst hz;have hl':=Nat.eq_of_beq_eq_true hl;refine Mid.z3k hx (by omega) h1 h2 (by simp [cE,hl']) ?_ h';rw [←hst];simp only [qU,ZZ,Int.toNat_natCast,zbq]
theorem Mid.zeY {x y:Ar} {i jn:Nat} {j:Int} (hx:rd true st x=(.t (.int .i64 i),[])) (hy:rd true st y=(.t (.int .i64 j),[])) (hj:Yu j.toNat some=some jn) (hjn:j=(jn:Int)) (h0:0<jn) (h2:i<=9223372036854775807) (hs:zO st d (.t (.int .i64 ((i/jn:Nat):Int))) some=some st')
  (h':Mid P n m R draw all after live k b ((false,false)::fl) ops st'):Mid P n m R draw all after live k b fl (⟨d,none,.bin .quo x y⟩::ops) st:=by
 have hle:i/jn<=i:=Nat.div_le_self _ _
 refine Mid.val (v:= .t (.int .i64 ((i/jn:Nat):Int))) (ps:=[decide (j≠0)]) ?_ Z ⟨by subst hjn;simp;omega,trivial⟩ hs h'
 subst hjn;simp only [zh,hx,hy,z01]
 have:((i:Int).tdiv (jn:Int))=((i/jn:Nat):Int):=by rw [Int.tdiv_eq_ediv_of_nonneg (by omega)];rfl
 rw [this]
 have hw:IntKind.i64.wrap ((i/jn:Nat):Int)=((i/jn:Nat):Int):=by
  generalize i/jn=q at hle;exact wrap64 (by omega) (by omega)
 rw [hw];simp
theorem Mid.zfq {x y:Ar} {i jn:Nat} {j:Int} (hx:rd true st x=(.t (.int .i64 i),[])) (hy:rd true st y=(.t (.int .i64 j),[])) (hj:Yu j.toNat some=some jn) (hjn:j=(jn:Int)) (h0:0<jn) (hs:zO st d (.t (.int .i64 ((i%jn:Nat):Int))) some=some st')
  (h':Mid P n m R draw all after live k b ((false,false)::fl) ops st'):Mid P n m R draw all after live k b fl (⟨d,none,.bin .rem x y⟩::ops) st:=by
 refine Mid.val (v:= .t (.int .i64 ((i%jn:Nat):Int))) (ps:=[decide (j≠0)]) ?_ Z ⟨by subst hjn;simp;omega,trivial⟩ hs h'
 subst hjn;simp only [zh,hx,hy,z01]
 have:((i:Int).tmod (jn:Int))=((i%jn:Nat):Int):=by rw [Int.tmod_eq_emod_of_nonneg (by omega)];rfl
 simp [this]
theorem Sat.z8F {c:zW} {Q:Yz->St->Prop} {q:Nat} {kag:Bool} {es:List (List T×V)} (hq:zi st.s.sto q=some (.map kag es none))
  (h:∀(cl:Nat) (bs:List Nat),bs.length=es.length->bs.Nodup->(∀s,s∈bs->s<cl)->Sat P n m c {env:=st.env,s:={sto:=Yc st.s.sto q (.map kag es (some (cl,bs))),nxt:=st.s.nxt}} Q):Sat P n m c st Q:=by
 intro code h1 h2 h3 C Λ a h4 h5 h6 h7 h8;obtain ⟨hl,bl,ents,clock,e1,e2,e3⟩:=h7.s.sto q _ hq
 have hnd:(ents.toList.map (·.born)).Nodup:=by
  rw [List.nodup_iff_pairwise_ne,List.pairwise_iff_getElem];intro i j hi hj hij he;simp only [List.length_map,Array.length_toList] at hi hj
  have h1:ents[i]?=some ents[i]:=by simp [hi]
  have h2:ents[j]?=some ents[j]:=by simp [hj]
  simp only [List.getElem_map,Array.getElem_toList] at he;have:=e3.apart i j _ _ h1 h2 he;omega
 have:=h clock (ents.toList.map (·.born)) (by simp [e3.size]) hnd (fun s hs=>by
  simp only [List.mem_map] at hs;obtain ⟨e,he,rfl⟩:=hs;obtain ⟨i,hi,hx⟩:=List.mem_iff_getElem.1 he
  have hi':i<ents.size:=by simpa using hi
  exact e3.born i e (by simp [hi',←hx]))
 refine this code h1 h2 h3 C Λ a h4 h5 h6 ⟨h7.kp,h7.size,h7.defers,h7.env,⟨fun k o hk=>?_,h7.s.inj,h7.s.new,h7.s.bnd,h7.s.frz,h7.s.w9,h7.s.wh,h7.s.z1A⟩⟩ h8;simp only [Zi] at hk;by_cases e:q=k
 ·subst e;simp at hk;subst hk
  exact ⟨hl,bl,ents,clock,e1,e2,⟨e3.size,e3.at_,e3.born,e3.apart,fun c bs h=>by simp at h;exact h⟩⟩
 ·simp only [e,if_false] at hk;exact h7.s.sto k o hk
theorem Run.z8F {kk:List It} {c:zW} {q:Nat} {kag:Bool} {es:List (List T×V)} (hk:yd 200 k= .c c::kk) (hq:zi st.s.sto q=some (.map kag es none))
  (h:∀(cl:Nat) (bs:List Nat),bs.length=es.length->bs.Nodup->(∀s,s∈bs->s<cl)->Run P n m R (.c c::kk) {env:=st.env,s:={sto:=Yc st.s.sto q (.map kag es (some (cl,bs))),nxt:=st.s.nxt}}):Run P n m R k st:=by
 refine Run.adv 200 hk ?_;unfold Run at h⊢;simp only [ZR] at h⊢;exact Sat.z8F hq h
theorem z60 {ν:Type} (ev:ν->T):∀(l:List ν),(cE ev l).mapM V.zA=some (l.map ev)
 |[]=>rfl
 |x::r=>by have:=z60 ev r;simp only [cE] at this;simp [cE,V.zA,this]
theorem z3.chg {s:S} {out:Out} {rs:List q8} {r:V} (hr:z1d st rs=some r) (hn:Nat.ble (s.nxt+out.n) st.s.nxt=true) (h:LeR (s.nxt+out.n) st.s r out.v) (hs:LeS (s.nxt+out.n) (s.nxt+out.n) st.s.sto (Zq s.sto out.ob)):z3 s out rs .ret st:=
 ⟨r,hr,zLB hn,h,.le hs⟩
def wj (r:List Nat) (b j:Nat):Nat:=match r[j]? with|some k=>k|none=>b+(j - r.length)
def zdg (r:List Nat) (b n k:Nat):Option Nat:=
 match r.findIdx? (fun x=>Nat.beq x k) with
 |some j=>some j
 |none=>if b<=k/\k<b+n then some (r.length+(k - b)) else none
def qJ:List Nat->Bool
 |[]=>true
 |x::r=>!(r.any (Nat.beq x))&&qJ r
theorem z42:∀{r:List Nat},qJ r=true->r.Nodup
 |[],_=>List.nodup_nil
 |x::r,h=>by
  simp only [qJ,Bool.and_eq_true,Bool.not_eq_true'] at h;refine List.nodup_cons.2 ⟨fun hm=>?_,z42 h.2⟩
  have:r.any (Nat.beq x)=true:=List.any_eq_true.2 ⟨x,hm,by simp⟩
  rw [this] at h;cases h.1
theorem zaC {r:List Nat} {b n:Nat} (h1:qJ r=true) (h2:r.all (fun k=>Nat.blt k b)=true):Rn (wj r b) (zdg r b n) r.length b n:=by
 have hnd:=z42 h1
 have hlt:∀k,k∈r->k<b:=by
  intro k hk;have:=List.all_eq_true.1 h2 k hk;simpa [Nat.blt_eq] using this
 have beq:∀x k,Nat.beq x k=decide (x=k):=by
  intro x k;by_cases e:x=k
  ·subst e;simp
  ·cases hb:Nat.beq x k with
   |false=>simp [e]
   |true=>exact absurd (Nat.eq_of_beq_eq_true hb) e
 refine ⟨fun k j h=>?_,fun j hj=>?_,fun j hj=>?_,fun j hj hj'=>?_⟩
 ·unfold zdg at h;split at h
  ·rename_i i hi;simp at h;subst h;rw [List.findIdx?_eq_some_iff_getElem] at hi;obtain ⟨hi,h3,_⟩:=hi
   refine ⟨?_,by omega⟩
   simp [wj,hi];exact Nat.eq_of_beq_eq_true h3
  ·split at h
   ·rename_i hh;simp at h;subst h
    refine ⟨?_,by omega⟩
    simp [wj];omega
   ·cases h
 ·unfold wj;by_cases hl:j<r.length
  ·simp only [List.getElem?_eq_getElem hl];unfold zdg
   have:r.findIdx? (fun x=>Nat.beq x r[j])=some j:=by
    rw [List.findIdx?_eq_some_iff_getElem]
    refine ⟨hl,by simp,fun i hi=>?_⟩
    rw [beq];simp only [decide_eq_true_eq];exact fun e=>absurd ((List.getElem_inj hnd).1 e) (by omega)
   rw [this]
  ·rw [List.getElem?_eq_none (by omega)];simp only;unfold zdg
   have:r.findIdx? (fun x=>Nat.beq x (b+(j - r.length)))=none:=by
    rw [List.findIdx?_eq_none_iff];intro x hx;have:=hlt x hx;rw [beq];simp;omega
   rw [this];simp only;rw [if_pos (by omega)];congr 1;omega
 ·simp only [wj,List.getElem?_eq_getElem hj];exact hlt _ (List.getElem_mem _)
 ·simp only [wj,List.getElem?_eq_none (by omega:r.length<=j)]
def zar (ρ:Nat->Nat) (sto s1:List (Nat×z6)):Nat->Prop
 |0=>True
 |j+1=>zi sto (ρ j)=(zi s1 j).map (z6.ren ρ)/\zar ρ sto s1 j
theorem z1G {ρ:Nat->Nat} {sto s1:List (Nat×z6)}:∀{m:Nat},zar ρ sto s1 m->∀j,j<m->zi sto (ρ j)=(zi s1 j).map (z6.ren ρ)
 |0,_,j,hj=>by omega
 |m+1,h,j,hj=>by
  by_cases e:j=m
  ·subst e;exact h.1
  ·exact z1G h.2 j (by omega)
def zaF (s1:List (Nat×z6)) (m n:Nat):List (Nat×z6)->Bool
 |[]=>true
 |(k,_)::r=>Nat.blt k (m+n)&&(s1.any (fun e=>Nat.beq e.1 k)||Nat.ble m k)&&zaF s1 m n r
theorem zbd {s:List (Nat×z6)} {k:Nat} (h:s.any (fun e=>Nat.beq e.1 k)=true):zi s k≠none:=by
 induction s with
 |nil=>simp at h
 |cons e r ih=>
  obtain ⟨j,o⟩:=e;simp only [List.any_cons,Bool.or_eq_true] at h;simp only [zi];split
  ·simp
  ·rename_i hne
   rcases h with h|h
   ·exact absurd (Nat.eq_of_beq_eq_true h) hne
   ·exact ih h
theorem z1H {s1:List (Nat×z6)} {m n:Nat}:∀{ob:List (Nat×z6)},zaF s1 m n ob=true->∀k o,(k,o)∈ob->k<m+n/\(zi s1 k≠none∨m<=k)
 |[],_,k,o,h=>by cases h
 |(j,x)::r,h,k,o,hk=>by
  simp only [zaF,Bool.and_eq_true,Bool.or_eq_true] at h
  rcases List.mem_cons.1 hk with e|hk
  ·cases e
   refine ⟨by simpa [Nat.blt_eq] using h.1.1,?_⟩
   rcases h.1.2 with h|h
   ·exact .inl (zbd h)
   ·exact .inr (zLB h)
  ·exact z1H h.2 k o hk
def qW (ρ:Nat->Nat):List (Nat×z6)->List (Nat×z6)
 |[]=>[]
 |(k,o)::r=>(ρ k,o.ren ρ)::qW ρ r
theorem z3f (ρ:Nat->Nat):∀(l:List (Nat×z6)),qW ρ l=l.map fun e=>(ρ e.1,e.2.ren ρ)
 |[]=>rfl
 |(k,o)::r=>by simp [qW,z3f ρ r]
theorem Mid.ZI {f:FuncId} {args:List Ar} {vs vs':List V} {s1:List (Nat×z6)} {m1:Nat} {out:Out} {v':V} {ob':List (Nat×z6)} {cc:Bool} (r:List Nat) (h:z7 P f vs ⟨s1,m1⟩ out) (hr:(qJ r&&(r.all (fun k=>Nat.blt k b))&&Nat.beq r.length m1)=true)
  (hv:z1n st args some=some vs') (hvs:V.YU (wj r b) vs=vs') (hb:V.bds m1 vs=true) (hs1:zR m1 s1=true) (hsub:zar (wj r b) st.s.sto s1 m1) (hob:zaF s1 m1 out.n out.ob=true)
  (hv':out.v.ren (wj r b)=v') (hob':qW (wj r b) out.ob=ob') (hcc:QI (!ob'.isEmpty||decide (0<out.n)) some=some cc)
  (hst:Yl b st d {v:=v',ob:=ob',n:=out.n,rd:=true} (fun b' st'=>some (b',st'))=some (b',st'))
  (h':Mid P n m R draw all after live k b' ((true,cc)::fl) ops st'):Mid P n m R draw all after live k b fl (⟨d,none,.call f args⟩::ops) st:=by
 simp only [Bool.and_eq_true] at hr;obtain ⟨⟨hr1,hr2⟩,hr3⟩:=hr;have hm:r.length=m1:=Nat.eq_of_beq_eq_true hr3;subst hm;rw [qe] at hv;simp at hv;refine Mid.opX Z ?_;simp only [evX];refine QP.le (qD.pure _) ?_;rw [hv,←hvs]
 have hat:FnL P f (V.YU (wj r b) vs) b st.s.sto {v:=v',ob:=ob',n:=out.n,rd:=true}:=by
  intro s' hk;have hrn:=zaC (n:=out.n) hr1 hr2;have:=z7.ren hrn h hb hs1 (fun j hj=>(hk _ (hrn.low j hj)).trans (z1G hsub j hj)) (z1H hob);rw [hv',←z3f,hob'] at this;exact this
 simp only [Wg,Option.some.injEq] at hcc;simp only [ZZ,Option.some.injEq,Prod.mk.injEq] at hst;obtain ⟨rfl,rfl⟩:=hst
 refine ⟨{v:=v',ob:=ob',n:=out.n,rd:=true},by simp only [if_true];exact hat,?_⟩
 simp only [hcc];exact h'
theorem Mid.YZ {f:FuncId} {args:List Ar} {vs vs':List V} {s1:List (Nat×z6)} {m1:Nat} {x:V} (r:List Nat) (h:z7 P f vs ⟨s1,m1⟩ {v:=x,rd:=true}) (hr:(qJ r&&(r.all (fun k=>Nat.blt k b))&&Nat.beq r.length m1)=true)
  (hv:z1n st args some=some vs') (hvs:V.YU (wj r b) vs=vs') (hb:V.bds m1 vs=true) (hs1:zR m1 s1=true) (hsub:zar (wj r b) st.s.sto s1 m1)
  (hst:zO st d (x.ren (wj r b)) some=some st')
  (h':Mid P n m R draw all after live k b ((true,false)::fl) ops st'):Mid P n m R draw all after live k b fl (⟨d,none,.call f args⟩::ops) st:=by
 refine Mid.ZI r h hr hv hvs hb hs1 hsub Z Z Z Z (b':=b) (st':=st.app d {v:=x.ren (wj r b),rd:=true}) (by simp only [ZZ];rfl) ?_;simp only [zO,V.force_eq,Zp,St.Zz,Option.some.injEq] at hst
 have e:st'=st.app d {v:=x.ren (wj r b),rd:=true}:=by rw [←hst];cases d<;>rfl
 rw [e] at h';exact h'
end
end Go.GB
namespace Go.GB.C26
open Go.GB
structure Pr (P:Program):Prop where
 mixed:P.follows .mixedOrders=true
 i32:zd P 32=some (n32,c32.bare,r32)
 i44:zd P 44=some (n44,c44.bare,r44)
 i26:zd P 26=some (n26,c26.bare,r26)
 i56:zd P 56=some (n56,c56.bare,r56)
 i80:zd P 80=some (n80,c80.bare,r80)
 i57:zd P 57=some (n57,c57.bare,r57)
 i69:zd P 69=some (n69,c69.bare,r69)
 i70:zd P 70=some (n70,c70.bare,r70)
 i47:zd P 47=some (n47,c47.bare,r47)
 i48:zd P 48=some (n48,c48.bare,r48)
 i79:zd P 79=some (n79,c79.bare,r79)
 i81:zd P 81=some (n81,c81.bare,r81)
 i85:zd P 85=some (n85,c85.bare,r85)
 i104:zd P 104=some (n104,c104.bare,r104)
 i105:zd P 105=some (n105,c105.bare,r105)
 i72:zd P 72=some (n72,c72.bare,r72)
 i109:zd P 109=some (n109,c109.bare,r109)
variable {P:Program}
abbrev Str:=List UInt8
def sE (s:Str):List T:=[.str s]
def iE (n:Int):T:= .int .i64 n
structure zx where
 ty:Str
 field:Str
 graph:Int
 ext:Bool
 req:List Str
 yc:List Str
def zx.enc (j:zx):List T:=[.str j.ty,.str j.field,.int .i64 j.graph,.bool j.ext,.lst (j.req.map sE),.lst (j.yc.map sE)]
structure zJ where
 ty:Str
 graph:Int
 fields:List Str
def zJ.enc (k:zJ):List T:=[.str k.ty,.int .i64 k.graph,.lst (k.fields.map sE)]
structure zp where
 graph:Int
 depth:Int
 yc:List Str
def zp.enc (x:zp):List T:=[.int .i64 x.graph,.int .i64 x.depth,.lst (x.yc.map sE)]
structure zH where
 z4:List Str
 doc:T
 keys:List zJ
 zE:List zx
theorem qC:Y7 [.str] sE:=⟨fun _=>rfl,fun x y h=>by simpa [sE,ZX,T.eqb] using h,fun x=>by simp [sE,ZX,T.eqb]⟩
def zU (a b:Int):Int:=if (a==0||(b !=0&&decide (b<a)))=true then b else a
theorem wH (H:Pr P) (a b:Int):z7 P 79 [.t (.int .i64 a),.t (.int .i64 b)] ⟨[],0⟩ {v:= .t (.int .i64 (zU a b))}:=by
 refine z7.run H.i79 H.mixed Z Z ?_;refine fR Z ?_;refine Run.cond Z Z (fun h=>?_) (fun h=>?_)
 ·refine fR Z ?_;refine Run.fin Z (z3.go ?_);exact .t (by simp only [zU,h,if_true])
 ·refine fR Z ?_;refine Run.fin Z (z3.go ?_);exact .t (by simp only [zU,h];simp)
def Zc (s:Str):List Str->Int->Int
 |[],_=>-1
 |x::r,i=>if s=x then i else Zc s r (i+1)
theorem z2F (H:Pr P) (l:List Str) (hl:l.length<=9223372036854775807) (s:Str):z7 P 109 [.t (.lst (l.map sE)),.t (.str s)] ⟨[],0⟩ {v:= .t (.int .i64 (Zc s l 0))}:=by
 refine z7.run H.i109 H.mixed Z Z ?_;refine fR Z ?_;refine lM Z Z Z ?_;refine fM Z ?_;refine zD l (fun i (_:Unit)=>{env:=[(0,.t (.lst (l.map sE))),(1,.t (.str s)),(7,.t (.int .i64 l.length)),(8,.t (.int .i64 i))],s:=⟨[],0⟩}) (fun r i _=>Zc s l 0=Zc s r i) 0 () Z Z Z Z Z ?_ ?_
 ·intro _ hinv;refine fR Z ?_;refine Run.zj Z Z (by simp) ?_;refine fR Z ?_;refine Run.fin Z (z3.go ?_);exact .t (by simp [hinv,Zc])
 ·intro i x r _ h1 hi hd hinv ih;refine fR Z ?_;refine Run.zm Z Z (by simp;omega) ?_;refine fR Z ?_;refine Mid.zg Z Z Z h1 Z Z ?_;refine fM Z ?_;refine Run.cond Z Z (fun h=>?_) (fun h=>?_)
  ·refine fR Z ?_;refine Run.fin Z (z3.go ?_)
   have:s=x:=by simpa using h
   exact .t (by rw [hinv];simp [Zc,this])
  ·refine fR Z ?_;refine aL Z Z Z Z Z ?_;refine fM Z ?_
   have:¬ s=x:=by simpa using h
   exact zn 0 Z (ih () (by rw [hinv];simp [Zc,this])) Z Z Z
theorem Wk (s:Str):∀(l:List Str) (i:Int),0<=i->(decide (Zc s l i≥0))=decide (s∈l)
 |[],i,_=>by simp [Zc]
 |x::r,i,hi=>by
  simp only [Zc];by_cases h:s=x
  ·subst h;simp [hi]
  ·simp only [h,if_false,Wk s r (i+1) (by omega)];simp [h]
theorem qB (H:Pr P) (l:List Str) (hl:l.length<=9223372036854775807) (s:Str):z7 P 85 [.t (.lst (l.map sE)),.t (.str s)] ⟨[],0⟩ {v:= .t (.bool (decide (s∈l)))}:=by
 refine z7.run H.i85 H.mixed Z Z ?_;refine fR Z ?_;refine Mid.call (z2F H l hl s) Z Z Z Z ?_;refine fM Z ?_;refine Run.fin Z (z3.go ?_);exact .t (by rw [←Wk s l 0 (by omega)])
def z33 (s:zH) (sp:List zp) (js:List zx) (ks:List zJ) (nb:Nat):List V:=
 [.t (.lst (s.z4.map sE)),.t s.doc,.t (.lst (s.keys.map zJ.enc)),.t (.lst (s.zE.map zx.enc)),.t (.lst (sp.map zp.enc)),.t (.lst (js.map zx.enc)),.t (.lst (ks.map zJ.enc)),.slc 2 0 nb 8,.mp 1]
def z0c (s:zH) (sp:List zp) (js:List zx) (ks:List zJ) (nb:Nat) (F:List (Str×Int)) (A:List Int):List (Nat×z6):=
 [(0,.cells (z33 s sp js ks nb)),(1,.map false (mE sE iE F) none),(2,.cells (cE iE A))]
theorem zT {s:zH} {sp:List zp} {js:List zx} {ks:List zJ} {nb:Nat} {F:List (Str×Int)} {A:List Int}:zR 3 (z0c s sp js ks nb F A)=true:=by
 simp [z0c,zR,z33,z6.z8R,z6.z90];simp [z6.bd,V.bds,V.bd]
section
variable {s:zH} {sp:List zp} {js:List zx} {ks:List zJ} {nb:Nat} {F:List (Str×Int)} {A:List Int}
theorem z5Z (H:Pr P) (g:Nat) (hg:g<8*nb) (hb:nb<1000):z7 P 80 [.ptr 0 0,.t (.int .i64 g)] ⟨z0c s sp js ks nb F A,3⟩ {v:= .ptr 2 g,rd:=true}:=by
 refine z7.run H.i80 H.mixed Z Z ?_;refine fR Z ?_;refine Mid.zeY Z Z Z Z (by omega) (by omega) Z ?_;refine fM Z ?_;refine Mid.zfq Z Z Z Z (by omega) Z ?_;refine Mid.iaS Z Z (by omega) Z ?_;refine Mid.ze3 Z Z (by omega) Z ?_;refine fM Z ?_;refine Run.fin Z (z3.yA Z (ex:=[]) Z Z zT (.le (.eq (congrArg (V.ptr 2) (by omega:0+g/8*8+g%8*1=g)) (by rfl))))
end
end Go.GB.C26
namespace Go.GB.C26
open Go.GB
variable {P:Program}
def zx.ok (nb:Nat) (j:zx):Prop:=(0<=j.graph/\j.graph<8*nb)/\j.req.length<=100000/\j.yc.length<=100000
def zJ.ok (k:zJ):Prop:=k.fields.length<=100000
def zp.ok (x:zp):Prop:=x.yc.length<=9223372036854775807
structure NOk (s:zH) (sp:List zp) (js:List zx) (ks:List zJ) (nb:Nat) (A:List Int):Prop where
 hnb:nb<1000
 gr:s.z4.length<=8*nb
 z7y:A.length=8*nb
 spL:sp.length<=100000
 jsL:js.length<=100000
 ksL:ks.length<=100000
 spO:∀x∈sp,x.ok
 jsO:∀j∈js,j.ok nb
 ksO:∀k∈ks,k.ok
def tyN:Str:=[95,95,116,121,112,101,110,97,109,101]
def z1o (A:List Int):Nat->Nat->Int->Int
 |_,0,b=>b
 |i,c+1,b=>z1o A (i+1) c (zU b (A.getD i 0))
def Z3 (n:Nat) (F:List (Str×Int)) (A:List Int) (f:Str):Int:=
 if f=tyN then z1o A 0 n ((Z6 f F).getD 0) else (Z6 f F).getD 0
def wU (n:Nat) (F:List (Str×Int)) (A:List Int):List Str->Int->Int
 |[],m=>m
 |f::r,m=>if Z3 n F A f=0 then 0 else wU n F A r (if Z3 n F A f>m then Z3 n F A f else m)
def y8 (n:Nat) (F:List (Str×Int)) (A:List Int) (g:Int):List zJ->Int->Int
 |[],b=>b
 |k::r,b=>y8 n F A g r (if k.graph=g then zU b (wU n F A k.fields 0) else b)
section
variable {s:zH} {sp:List zp} {js:List zx} {ks:List zJ} {nb:Nat} {F:List (Str×Int)} {A:List Int}
theorem z6g (H:Pr P) (hN:NOk s sp js ks nb A) (f:Str):z7 P 57 [.ptr 0 0,.t (.str f)] ⟨z0c s sp js ks nb F A,3⟩ {v:= .t (.int .i64 (Z3 s.z4.length F A f)),rd:=true}:=by
 have h1:=hN.hnb;have h2:=hN.gr;have h3:=hN.z7y;refine z7.run H.i57 H.mixed Z Z ?_;refine fR Z ?_;refine Mid.z8I (f) Z Z Z Z Z (qC) Z ?_;refine fM Z ?_;refine Run.cond Z Z (fun hf=>?_) (fun hf=>?_)
 ·refine fR Z ?_;refine lM Z Z Z ?_;refine fM Z ?_;refine zD s.z4 (fun i (b:Int)=>{env:=[(0,.ptr 0 0),(5,.t (.int .i64 b)),(20,.t (.int .i64 s.z4.length)),(21,.t (.int .i64 i))],s:=⟨z0c s sp js ks nb F A,3⟩}) (fun r i b=>Z3 s.z4.length F A f=z1o A i r.length b) 3 ((Z6 f F).getD 0) Z (by simp [Z3,(by simpa [tyN] using hf:f=tyN)]) Z Z Z ?_ ?_
  ·intro b hinv;refine fR Z ?_;refine Run.zj Z Z (by simp) ?_;refine fR Z ?_;refine Run.fin Z (z3.yA Z Z Z (by first |exact rfl|exact zT|exact tSto_bd) (.t ((by rw [hinv];rfl))))
  ·intro i x r b h1 hi hd hinv ih;refine fR Z ?_;refine Run.zm Z Z (by simp;omega) ?_;refine fR Z ?_;refine Mid.Qs (z5Z H i (by omega) hN.hnb) Z Z (by first |exact rfl|exact zT|exact tSto_bd) Z ?_;refine p0 Z ?_;refine Mid.ldE Z Z ((List.getElem?_eq_getElem (by omega):A[i]?=some A[i])) Z ?_;skip;refine Mid.call (wH H b A[i]) Z Z Z Z ?_;refine fM Z ?_;refine aL Z Z Z Z Z ?_;refine fM Z ?_;exact zn 3 Z (ih (zU b A[i]) (by rw [hinv];simp [z1o,List.getD_eq_getElem?_getD,show i<A.length by omega])) Z Z Z
 ·refine fR Z ?_
  have hne:¬ f=tyN:=by
   intro h;rw [h] at hf;revert hf;decide
  refine Run.fin Z (z3.yA Z Z Z (by first |exact rfl|exact zT|exact tSto_bd) (.t ((by simp [Z3,hne,iE]))))
theorem zbF (H:Pr P) (hN:NOk s sp js ks nb A) (l:List Str) (hl:l.length<=100000):z7 P 105 [.ptr 0 0,.t (.lst (l.map sE))] ⟨z0c s sp js ks nb F A,3⟩ {v:= .t (.int .i64 (wU s.z4.length F A l 0)),rd:=true}:=by
 refine z7.run H.i105 H.mixed Z Z ?_;refine fR Z ?_;refine lM Z Z Z ?_;refine fM Z ?_;refine zD l (fun i (b:Int)=>{env:=[(0,.ptr 0 0),(5,.t (.int .i64 b)),(9,.t (.lst (l.map sE))),(10,.t (.int .i64 l.length)),(11,.t (.int .i64 i))],s:=⟨z0c s sp js ks nb F A,3⟩}) (fun r i b=>wU s.z4.length F A l 0=wU s.z4.length F A r b) 3 0 Z Z Z Z Z ?_ ?_
 ·intro b hinv;refine fR Z ?_;refine Run.zj Z Z (by simp) ?_;refine fR Z ?_;refine Run.fin Z (z3.yA Z Z Z (by first |exact rfl|exact zT|exact tSto_bd) (.t ((by rw [hinv];rfl))))
 ·intro i x r b h1 hi hd hinv ih;refine fR Z ?_;refine Run.zm Z Z (by simp;omega) ?_;refine fR Z ?_;refine Mid.zg Z Z Z h1 Z Z ?_;refine fM Z ?_;refine Mid.Qs (z6g H hN x) Z Z (by first |exact rfl|exact zT|exact tSto_bd) Z ?_;refine fM Z ?_;refine Run.cond Z Z (fun h0=>?_) (fun h0=>?_)
  ·refine fR Z ?_
   have h0':Z3 s.z4.length F A x=0:=by simpa using h0
   refine Run.fin Z (z3.yA Z Z Z (by first |exact rfl|exact zT|exact tSto_bd) (.t ((by rw [hinv];simp [wU,h0']))))
  ·refine fR Z ?_;refine aL Z Z Z Z Z ?_;refine fM Z ?_
   have h0':¬ Z3 s.z4.length F A x=0:=by simpa using h0
   exact zn 3 Z (ih (if Z3 s.z4.length F A x>b then Z3 s.z4.length F A x else b) (by rw [hinv];simp only [wU,h0',if_false])) Z Z Z
theorem z2l (H:Pr P) (hN:NOk s sp js ks nb A) (g:Int):z7 P 104 [.ptr 0 0,.t (.int .i64 g)] ⟨z0c s sp js ks nb F A,3⟩ {v:= .t (.int .i64 (y8 s.z4.length F A g ks 0)),rd:=true}:=by
 have h2:=hN.ksL;refine z7.run H.i104 H.mixed Z Z ?_;refine fR Z ?_;refine lM Z Z Z ?_;refine fM Z ?_;refine zD ks (fun i (b:Int)=>{env:=[(0,.ptr 0 0),(1,.t (.int .i64 g)),(5,.t (.int .i64 b)),(11,.t (.lst (ks.map zJ.enc))),(12,.t (.int .i64 ks.length)),(13,.t (.int .i64 i))],s:=⟨z0c s sp js ks nb F A,3⟩}) (fun r i b=>y8 s.z4.length F A g ks 0=y8 s.z4.length F A g r b) 3 0 Z Z Z Z Z ?_ ?_
 ·intro b hinv;refine fR Z ?_;refine Run.zj Z Z (by simp) ?_;refine fR Z ?_;refine Run.fin Z (z3.yA Z Z Z (by first |exact rfl|exact zT|exact tSto_bd) (.t ((by rw [hinv];rfl))))
 ·intro i x r b h1 hi hd hinv ih;refine fR Z ?_;refine Run.zm Z Z (by simp;omega) ?_;refine fR Z ?_;refine Mid.zg Z Z Z h1 Z Z ?_;refine fM Z ?_;refine Run.cond Z Z (fun hg=>?_) (fun hg=>?_)
  ·refine fR Z ?_
   have hg':x.graph=g:=by simpa using hg
   refine Mid.YZ [0,1,2] (zbF (F:=F) H hN x.fields (hN.ksO x (zMG h1))) Z Z Z Z zT (by repeat' (first |exact trivial|exact rfl|refine And.intro ?_ ?_|exact (congrArg some (z6.zK _ _ _ _ _ _)).symm|exact (congrArg some (z6.zL _ _ _)).symm)) Z ?_
   skip;refine Mid.call (wH H b (wU s.z4.length F A x.fields 0)) Z Z Z Z ?_;refine fM Z ?_;refine aL Z Z Z Z Z ?_;refine fM Z ?_;exact zn 3 Z (ih (zU b (wU s.z4.length F A x.fields 0)) (by rw [hinv];simp only [y8,hg',if_true])) Z Z Z
  ·refine fR Z ?_;refine aL Z Z Z Z Z ?_;refine fM Z ?_
   have hg':¬ x.graph=g:=by simpa using hg
   exact zn 3 Z (ih b (by rw [hinv];simp only [y8,hg',if_false])) Z Z Z
end
end Go.GB.C26
namespace Go.GB.C26
open Go.GB
variable {P:Program}
def z0m (j:zx):List zp->Int->Int
 |[],b=>b
 |x::r,b=>z0m j r (if (x.graph==j.graph&&decide (j.field∈x.yc))=true then zU b x.depth else b)
def up (k m:Int):Int:=IntKind.i64.wrap ((if m>k then m else k)+1)
def Zv (n:Nat) (sp:List zp) (ks:List zJ) (F:List (Str×Int)) (A:List Int) (j:zx):Int:=
 if j.ext=true then z0m j sp 0
 else if j.req.length=0 then A.getD j.graph.toNat 0
 else if (y8 n F A j.graph ks 0==0||wU n F A j.req 0==0)=true then 0
 else up (y8 n F A j.graph ks 0) (wU n F A j.req 0)
section
variable {s:zH} {sp:List zp} {js:List zx} {ks:List zJ} {nb:Nat} {F:List (Str×Int)} {A:List Int}
theorem z8A (H:Pr P) (hN:NOk s sp js ks nb A) (j:zx) (hj:j.ok nb):z7 P 69 [.ptr 0 0,.agg [.t (.str j.ty),.t (.str j.field),.t (.int .i64 j.graph),.t (.bool j.ext),.t (.lst (j.req.map sE)),.t (.lst (j.yc.map sE))]] ⟨z0c s sp js ks nb F A,3⟩ {v:= .t (.int .i64 (Zv s.z4.length sp ks F A j)),rd:=true}:=by
 have h2:=hN.spL;have h3:=hN.z7y;have h4:=hN.hnb;obtain ⟨⟨hg0,hg1⟩,hq,hp⟩:=hj;refine z7.run H.i69 H.mixed Z Z ?_;refine fR Z ?_;refine Run.cond Z Z (fun he=>?_) (fun he=>?_)
 ·refine fR Z ?_;refine lM Z Z Z ?_;refine fM Z ?_;refine zD sp (fun i (b:Int)=>{env:=[(3,.ptr 3 0),(5,.t (.int .i64 b)),(15,.t (.lst (sp.map zp.enc))),(16,.t (.int .i64 sp.length)),(17,.t (.int .i64 i))],s:=⟨z0c s sp js ks nb F A++[(3,.cells [.t (.str j.ty),.t (.str j.field),.t (.int .i64 j.graph),.t (.bool j.ext),.t (.lst (j.req.map sE)),.t (.lst (j.yc.map sE))])],4⟩}) (fun r i b=>Zv s.z4.length sp ks F A j=z0m j r b) 4 0 Z (by simp [Zv,he]) Z Z Z ?_ ?_
  ·intro b hinv;refine fR Z ?_;refine Run.zj Z Z (by simp) ?_;refine fR Z ?_;refine Run.fin Z (z3.yA Z Z Z (by first |exact rfl|exact zT|exact tSto_bd) (.t ((by rw [hinv];rfl))))
  ·intro i x r b h1 hi hd hinv ih;refine fR Z ?_;refine Run.zm Z Z (by simp;omega) ?_;refine fR Z ?_;refine Mid.zg Z Z Z h1 Z Z ?_;refine fM Z ?_;refine caG Z Z (fun hg=>⟨_,rfl,qB H x.yc (hN.spO x (zMG h1)) j.field,rfl⟩) Z Z ?_;refine fM Z ?_;refine Run.cond Z Z (fun hc=>?_) (fun hc=>?_)
   ·refine fR Z ?_;refine Mid.call (wH H b x.depth) Z Z Z Z ?_;refine fM Z ?_;refine aL Z Z Z Z Z ?_;refine fM Z ?_;exact zn 4 Z (ih (zU b x.depth) (by rw [hinv];simp only [z0m,hc,if_true])) Z Z Z
   ·refine fR Z ?_;refine aL Z Z Z Z Z ?_;refine fM Z ?_;exact zn 4 Z (ih b (by rw [hinv];simp only [z0m,hc];simp)) Z Z Z
 ·refine fR Z ?_;refine lM Z Z Z ?_;refine fM Z ?_;refine Run.cond Z Z (fun hr=>?_) (fun hr=>?_)
  ·refine fR Z ?_;obtain ⟨g,hg⟩:=Int.eq_ofNat_of_zero_le hg0;rw [hg]
   refine Mid.YZ [0,1,2] (z5Z (s:=s) (sp:=sp) (js:=js) (ks:=ks) (F:=F) (A:=A) H g (by omega) hN.hnb) Z Z Z Z zT (by repeat' (first |exact trivial|exact rfl|refine And.intro ?_ ?_|exact (congrArg some (z6.zK _ _ _ _ _ _)).symm|exact (congrArg some (z6.zL _ _ _)).symm)) Z ?_
   refine p0 Z ?_;refine Mid.ldE Z Z ((List.getElem?_eq_getElem (by omega):A[g]?=some A[g])) Z ?_;refine fM Z ?_
   have hr':j.req.length=0:=by simpa using hr
   refine Run.fin Z (z3.yA Z Z Z (by first |exact rfl|exact zT|exact tSto_bd) (.t ((by simp [Zv,he,hr',hg,iE,List.getD_eq_getElem?_getD,show g<A.length by omega]))))
  ·refine fR Z ?_
   have hr':¬ j.req.length=0:=by simpa using hr
   refine Mid.YZ [0,1,2] (z2l (F:=F) H hN j.graph) Z Z Z Z zT (by repeat' (first |exact trivial|exact rfl|refine And.intro ?_ ?_|exact (congrArg some (z6.zK _ _ _ _ _ _)).symm|exact (congrArg some (z6.zL _ _ _)).symm)) Z ?_
   refine fM Z ?_
   refine Mid.YZ [0,1,2] (zbF (F:=F) H hN j.req hq) Z Z Z Z zT (by repeat' (first |exact trivial|exact rfl|refine And.intro ?_ ?_|exact (congrArg some (z6.zK _ _ _ _ _ _)).symm|exact (congrArg some (z6.zL _ _ _)).symm)) Z ?_
   refine fM Z ?_;refine Run.cond Z Z (fun hz=>?_) (fun hz=>?_)
   ·refine fR Z ?_;refine Run.fin Z (z3.yA Z Z Z (by first |exact rfl|exact zT|exact tSto_bd) (.t ((by simp only [Zv,he,hr',hz];simp))))
   ·refine fR Z ?_;refine p0 Z ?_;refine fM Z ?_;refine Run.fin Z (z3.yA Z Z Z (by first |exact rfl|exact zT|exact tSto_bd) (.t ((by simp only [Zv,he,hr',hz,up];simp))))
end
end Go.GB.C26
namespace Go.GB.C26
open Go.GB
variable {P:Program}
def gR (n:Nat) (F:List (Str×Int)) (ks:List zJ):Nat->Nat->List Int->Bool->List Int×Bool
 |_,0,A,ch=>(A,ch)
 |i,c+1,A,ch=>
  if y8 n F A i ks 0>0 then
   if zU (A.getD i 0) (IntKind.i64.wrap (y8 n F A i ks 0+1))≠A.getD i 0 then gR n F ks (i+1) c (A.set i (zU (A.getD i 0) (IntKind.i64.wrap (y8 n F A i ks 0+1)))) true
   else gR n F ks (i+1) c A ch
  else gR n F ks (i+1) c A ch
def jR (n:Nat) (sp:List zp) (ks:List zJ) (A:List Int):List zx->List (Str×Int)->Bool->List (Str×Int)×Bool
 |[],F,ch=>(F,ch)
 |j::r,F,ch=>
  if zU ((Z6 j.field F).getD 0) (Zv n sp ks F A j)≠(Z6 j.field F).getD 0 then jR n sp ks A r (yl j.field (zU ((Z6 j.field F).getD 0) (Zv n sp ks F A j)) F) true
  else jR n sp ks A r F ch
def ZJ (n:Nat) (sp:List zp) (js:List zx) (ks:List zJ) (F:List (Str×Int)) (A:List Int):List (Str×Int)×List Int×Bool:=
 ((jR n sp ks (gR n F ks 0 n A false).1 js F (gR n F ks 0 n A false).2).1,(gR n F ks 0 n A false).1,(jR n sp ks (gR n F ks 0 n A false).1 js F (gR n F ks 0 n A false).2).2)
section
variable {s:zH} {sp:List zp} {js:List zx} {ks:List zJ} {nb:Nat} {F:List (Str×Int)} {A:List Int}
theorem NOk.set (hN:NOk s sp js ks nb A) (i:Nat) (x:Int):NOk s sp js ks nb (A.set i x):=
 {hN with z7y:=by rw [List.length_set];exact hN.z7y}
theorem z8t (hN:NOk s sp js ks nb A):∀(c i:Nat) (A:List Int) (ch:Bool),NOk s sp js ks nb A->NOk s sp js ks nb (gR s.z4.length F ks i c A ch).1
 |0,i,A,ch,h=>h
 |c+1,i,A,ch,h=>by
  simp only [gR];split
  ·split
   ·exact z8t hN c _ _ _ (h.set _ _)
   ·exact z8t hN c _ _ _ h
  ·exact z8t hN c _ _ _ h
theorem zaV (H:Pr P) (hN:NOk s sp js ks nb A):z7 P 81 [.ptr 0 0] ⟨z0c s sp js ks nb F A,3⟩
  {v:= .t (.bool (ZJ s.z4.length sp js ks F A).2.2),ob:=[(1,.map false (mE sE iE (ZJ s.z4.length sp js ks F A).1) none),(2,.cells (cE iE (ZJ s.z4.length sp js ks F A).2.1))],rd:=true}:=by
 have h2:=hN.hnb;have h3:=hN.gr;have h4:=hN.jsL;refine z7.run H.i81 H.mixed Z Z ?_;refine fR Z ?_;refine lM Z Z Z ?_;refine fM Z ?_;refine zD s.z4 (fun i (b:List Int×Bool)=>{env:=[(0,.ptr 0 0),(3,.t (.bool b.2)),(15,.t (.int .i64 s.z4.length)),(16,.t (.int .i64 i))],s:=⟨z0c s sp js ks nb F b.1,3⟩}) (fun r i b=>NOk s sp js ks nb b.1/\gR s.z4.length F ks 0 s.z4.length A false=gR s.z4.length F ks i r.length b.1 b.2) 3 (A,false) Z ⟨hN,rfl⟩ Z Z Z ?_ ?_
 ·rintro ⟨A',ch⟩ ⟨hN',hinv⟩;refine fR Z ?_;refine Run.zj Z Z (by simp) ?_;refine fR Z ?_;refine lM Z Z Z ?_;refine fM Z ?_;refine zD js (fun i (b:List (Str×Int)×Bool)=>{env:=[(0,.ptr 0 0),(3,.t (.bool b.2)),(48,.t (.lst (js.map zx.enc))),(49,.t (.int .i64 js.length)),(50,.t (.int .i64 i))],s:=⟨z0c s sp js ks nb b.1 A',3⟩}) (fun r i b=>jR s.z4.length sp ks A' js F ch=jR s.z4.length sp ks A' r b.1 b.2) 3 (F,ch) Z Z Z Z Z ?_ ?_
  ·rintro ⟨F',ch'⟩ hinv';refine fR Z ?_;refine Run.zj Z Z (by simp) ?_;refine fR Z ?_
   have e1:gR s.z4.length F ks 0 s.z4.length A false=(A',ch):=by rw [hinv];rfl
   have e2:ZJ s.z4.length sp js ks F A=(F',A',ch'):=by
    have:jR s.z4.length sp ks A' js F ch=(F',ch'):=by rw [hinv'];rfl
    simp only [ZJ,e1,this]
   rw [e2];refine Run.fin Z (z3.chg Z Z (.t Z) ?_);exact leSA
  ·rintro i x r ⟨F',ch'⟩ h1 hi hd hinv' ih;refine fR Z ?_;refine Run.zm Z Z (by simp;omega) ?_;refine fR Z ?_;refine Mid.zg Z Z Z h1 Z Z ?_;refine fM Z ?_;refine Mid.z8I (x.field) Z Z Z Z Z (qC) Z ?_;refine fM Z ?_
   refine Mid.YZ [0,1,2] (z8A (F:=F') H hN' x (hN.jsO x (zMG h1))) Z Z Z Z zT (by repeat' (first |exact trivial|exact rfl|refine And.intro ?_ ?_|exact (congrArg some (z6.zK _ _ _ _ _ _)).symm|exact (congrArg some (z6.zL _ _ _)).symm)) Z ?_
   skip;refine Mid.call (wH H ((Z6 x.field F').getD 0) (Zv s.z4.length sp ks F' A' x)) Z Z Z Z ?_;refine fM Z ?_;refine Mid.z8I (x.field) Z Z Z Z Z (qC) Z ?_;refine fM Z ?_;refine Run.cond Z Z (fun hc=>?_) (fun hc=>?_)
   ·refine Run.z8F (q:=1) Z Z (fun cl bs hl hn hlt=>?_);refine fR Z ?_;refine Mid.zgo (x.field) Z Z (by simpa [mE] using hl) hn hlt Z Z (qC) (fun zs zc zb hf=>?_);refine fM Z ?_;refine Mid.zgu _ Z Z Z Z hf Z ?_;refine fM Z ?_;refine aL Z Z Z Z Z ?_;refine fM Z ?_
    have hc':zU ((Z6 x.field F').getD 0) (Zv s.z4.length sp ks F' A' x)≠(Z6 x.field F').getD 0:=by simpa [iE] using hc
    exact zn 3 Z (ih (yl x.field (zU ((Z6 x.field F').getD 0) (Zv s.z4.length sp ks F' A' x)) F',true) (by rw [hinv'];simp only [jR,hc',if_true];simp [hc'])) Z Z Z
   ·refine fR Z ?_;refine aL Z Z Z Z Z ?_;refine fM Z ?_
    have hc':zU ((Z6 x.field F').getD 0) (Zv s.z4.length sp ks F' A' x)=(Z6 x.field F').getD 0:=by simpa [iE] using hc
    exact zn 3 Z (ih (F',ch') (by rw [hinv'];simp [jR,hc'])) Z Z Z
 ·rintro i x r ⟨A',ch⟩ h1 hi hd ⟨hN',hinv⟩ ih;refine fR Z ?_;refine Run.zm Z Z (by simp;omega) ?_;refine fR Z ?_;refine Mid.Qs (z2l (F:=F) H hN' i) Z Z (by first |exact rfl|exact zT|exact tSto_bd) Z ?_;refine fM Z ?_
  have hiA:i<A'.length:=by
   have:=hN'.z7y;simp only at this;omega
  have hgd:A'[i]?=some (A'.getD i 0):=by rw [List.getD_eq_getElem?_getD,List.getElem?_eq_getElem hiA];rfl
  refine Run.cond Z Z (fun hk=>?_) (fun hk=>?_)
  ·have hk':y8 s.z4.length F A' i ks 0>0:=by simpa using hk
   refine fR Z ?_;refine Mid.Qs (z5Z H i (by omega) hN.hnb) Z Z (by first |exact rfl|exact zT|exact tSto_bd) Z ?_;refine p0 Z ?_;refine Mid.ldE Z Z (hgd) Z ?_;refine fM Z ?_;refine p0 Z ?_;refine Mid.call (wH H (A'.getD i 0) (IntKind.i64.wrap (y8 s.z4.length F A' i ks 0+1))) Z Z Z Z ?_;refine fM Z ?_;refine Mid.Qs (z5Z H i (by omega) hN.hnb) Z Z (by first |exact rfl|exact zT|exact tSto_bd) Z ?_;refine p0 Z ?_;refine Mid.ldE Z Z (hgd) Z ?_;refine fM Z ?_;refine Run.cond Z Z (fun hc=>?_) (fun hc=>?_)
   ·refine fR Z ?_;refine Mid.Qs (z5Z H i (by omega) hN.hnb) Z Z (by first |exact rfl|exact zT|exact tSto_bd) Z ?_;refine p0 Z ?_;refine p0 Z ?_;refine Mid.stE Z Z (hiA) Z Z ?_;refine fM Z ?_;refine aL Z Z Z Z Z ?_;refine fM Z ?_
    have hc':zU (A'.getD i 0) (IntKind.i64.wrap (y8 s.z4.length F A' i ks 0+1))≠A'.getD i 0:=by simpa [iE] using hc
    exact zn 3 Z (ih (A'.set i (zU (A'.getD i 0) (IntKind.i64.wrap (y8 s.z4.length F A' i ks 0+1))),true) ⟨hN'.set _ _,by rw [hinv];simp only [List.length_cons,gR,hk',if_true];rw [if_pos hc']⟩) rfl rfl rfl
   ·refine fR Z ?_;refine aL Z Z Z Z Z ?_;refine fM Z ?_
    have hc':zU (A'.getD i 0) (IntKind.i64.wrap (y8 s.z4.length F A' i ks 0+1))=A'.getD i 0:=by simpa [iE] using hc
    exact zn 3 Z (ih (A',ch) ⟨hN',by rw [hinv];simp only [List.length_cons,gR,hk',if_true];rw [if_neg (fun h=>h hc')]⟩) rfl rfl rfl
  ·refine fR Z ?_;refine aL Z Z Z Z Z ?_;refine fM Z ?_
   have hk':¬ y8 s.z4.length F A' i ks 0>0:=by simpa using hk
   exact zn 3 Z (ih (A',ch) ⟨hN',by rw [hinv];simp [gR,hk']⟩) rfl rfl rfl
end
end Go.GB.C26
namespace Go.GB.C26
open Go.GB
variable {P:Program}
theorem zc0 (H:Pr P) {a0 a1 a2 a3:T} {sp:List zp} {F:List (Str×Int)} {A:List Int} {nb:Nat} (g:Nat) (hg:g<8*nb) (hb:nb<1000):
  z7 P 80 [.ptr 0 0,.t (.int .i64 g)] ⟨[(0,.cells [.t a0,.t a1,.t a2,.t a3,.own 3 3 (sp.map zp.enc),.zI,.zI,.slc 2 0 nb 8,.mp 1]),(1,.map false (mE sE iE F) none),(2,.cells (cE iE A)),(3,.arr sp.length)],4⟩ {v:= .ptr 2 g,rd:=true}:=by
 refine z7.run H.i80 H.mixed Z Z ?_;refine fR Z ?_;refine Mid.zeY Z Z Z Z (by omega) (by omega) Z ?_;refine fM Z ?_;refine Mid.zfq Z Z Z Z (by omega) Z ?_;refine Mid.iaS Z Z (by omega) Z ?_;refine Mid.ze3 Z Z (by omega) Z ?_;refine fM Z ?_;refine Run.fin Z (z3.yA Z (ex:=[]) Z Z (by simp [zR,z6.z8R,z6.z90];simp [z6.bd,V.bds,V.bd]) (.le (.eq (congrArg (V.ptr 2) (by omega:0+g/8*8+g%8*1=g)) (by rfl))))
def inb (n:Nat) (x:zp):Bool:=decide (x.graph≥0)&&decide (x.graph<n)&&decide (x.depth≥1)&&decide (x.depth<=1099511627776)
def yG (n:Nat):List zp->List zp->List Int->List zp×List Int
 |[],sp,A=>(sp,A)
 |x::r,sp,A=>if inb n x=true then yG n r (sp++[x]) (A.set x.graph.toNat (zU (A.getD x.graph.toNat 0) x.depth)) else yG n r sp A
def lvE (p:Str×Int):List T:=[.str p.1,.int .i64 p.2,.int .i64 0]
def bE (b:Bool):T:= .bool b
theorem zc8:Y7 [.str,.int .i64,.int .i64] lvE:=
 ⟨fun _=>rfl,fun x y h=>by simp [lvE,ZX,T.eqb] at h;exact Prod.ext h.1 h.2,fun x=>by simp [lvE,ZX,T.eqb]⟩
def inj (n:Nat) (name:Str) (seen:List ((Str×Int)×Bool)) (j:zx):Bool:=(j.ty==name)&&decide (j.graph≥0)&&decide (j.graph<n)&&!((Z6 (j.field,j.graph) seen).getD false)
def wv (n:Nat) (name:Str):List zx->List zx->List ((Str×Int)×Bool)->List zx
 |[],js,_=>js
 |j::r,js,seen=>if inj n name seen j=true then wv n name r (js++[j]) (yl (j.field,j.graph) true seen) else wv n name r js seen
def ink (n:Nat) (name:Str) (k:zJ):Bool:=(k.ty==name)&&decide (k.graph≥0)&&decide (k.graph<n)
def wT (n:Nat) (name:Str):List zJ->List zJ->List zJ
 |[],ks=>ks
 |k::r,ks=>if ink n name k=true then wT n name r (ks++[k]) else wT n name r ks
def z1l (n:Nat) (sp:List zp) (js:List zx) (ks:List zJ):Nat->List (Str×Int)->List Int->List (Str×Int)×List Int
 |0,F,A=>(F,A)
 |f+1,F,A=>if (ZJ n sp js ks F A).2.2=true then z1l n sp js ks f (ZJ n sp js ks F A).1 (ZJ n sp js ks F A).2.1 else ((ZJ n sp js ks F A).1,(ZJ n sp js ks F A).2.1)
def stops (n:Nat) (sp:List zp) (js:List zx) (ks:List zJ):Nat->List (Str×Int)->List Int->Prop
 |0,_,_=>False
 |f+1,F,A=>(ZJ n sp js ks F A).2.2=true->stops n sp js ks f (ZJ n sp js ks F A).1 (ZJ n sp js ks F A).2.1
theorem zbV (H:Pr P) (s:zH) (name:Str) (here sp:List zp) (js:List zx) (ks:List zJ) (A0 A1:List Int) (F1:List (Str×Int)) (fuel:Nat) (h1:s.z4.length<=2000) (h2:here.length<=100000) (h3:s.zE.length<=100000) (h4:s.keys.length<=100000)
  (e1:yG s.z4.length here [] (List.replicate (s.z4.length/8+1) (List.replicate 8 0)).flatten=(sp,A0)) (e2:wv s.z4.length name s.zE [] []=js) (e3:wT s.z4.length name s.keys []=ks)
  (hN:NOk s sp js ks (s.z4.length/8+1) A0) (hst:stops s.z4.length sp js ks fuel [] A0) (e4:z1l s.z4.length sp js ks fuel [] A0=(F1,A1)):
  z7 P 56 [.agg [.t (.lst (s.z4.map sE)),.t s.doc,.t (.lst (s.keys.map zJ.enc)),.t (.lst (s.zE.map zx.enc))],.t (.str name),.t (.lst (here.map zp.enc))] ⟨[],0⟩ {v:= .ptr 3 0,ob:=[(1,.map false (mE sE iE F1) none),(2,.cells (cE iE A1)),(3,.cells (z33 s sp js ks (s.z4.length/8+1)))],n:=4}:=by
 refine z7.run H.i56 H.mixed Z Z ?_;refine fR Z ?_;refine Mid.z7d sE iE Z ?_;refine fM Z ?_;refine lM Z Z Z ?_;refine Mid.zeY Z Z Z Z (by omega) (by omega) Z ?_;refine aL Z Z Z Z Z ?_;refine Mid.zfB (List.replicate 8 0) Z (by omega) (by omega) Z Z Z ?_;refine fM Z ?_;refine lM Z Z Z ?_;refine fM Z ?_
 refine zD here (fun i (b:List zp×List Int)=>{env:=[(1,.t (.str name)),(3,.ptr 0 0),(7,.ptr 3 0),(26,.t (.lst (here.map zp.enc))),(27,.t (.int .i64 here.length)),(28,.t (.int .i64 i))],s:=⟨[(0,.cells [.t (.lst (s.z4.map sE)),.t s.doc,.t (.lst (s.keys.map zJ.enc)),.t (.lst (s.zE.map zx.enc))]),(1,.map false (mE sE iE []) none),(2,.cells (cE iE b.2)),(3,.cells [.t (.lst (s.z4.map sE)),.t s.doc,.t (.lst (s.keys.map zJ.enc)),.t (.lst (s.zE.map zx.enc)),.own 4 3 (b.1.map zp.enc),.zI,.zI,.slc 2 0 (s.z4.length/8+1) 8,.mp 1]),(4,.arr b.1.length)],5⟩}) (fun r i b=>b.1.length<=i/\b.2.length=8*(s.z4.length/8+1)/\yG s.z4.length r b.1 b.2=(sp,A0)) 4 ([],(List.replicate (s.z4.length/8+1) (List.replicate 8 0)).flatten) Z ⟨by simp,by simp;omega,e1⟩ rfl rfl rfl ?_ ?_
 ·rintro ⟨sp',A'⟩ ⟨_,_,hinv⟩;simp only [yG] at hinv;cases hinv;refine fR Z ?_;refine Run.zj Z Z (by simp) ?_;refine fR Z ?_;refine Mid.z7d lvE bE Z ?_;refine fM Z ?_;refine lM Z Z Z ?_;refine fM Z ?_
  refine zD s.zE (fun i (b:List zx×List ((Str×Int)×Bool))=>{env:=[(1,.t (.str name)),(3,.ptr 0 0),(7,.ptr 3 0),(10,.mp 5),(80,.t (.lst (s.zE.map zx.enc))),(81,.t (.int .i64 s.zE.length)),(82,.t (.int .i64 i))],s:=⟨[(0,.cells [.t (.lst (s.z4.map sE)),.t s.doc,.t (.lst (s.keys.map zJ.enc)),.t (.lst (s.zE.map zx.enc))]),(1,.map false (mE sE iE []) none),(2,.cells (cE iE A0)),(3,.cells [.t (.lst (s.z4.map sE)),.t s.doc,.t (.lst (s.keys.map zJ.enc)),.t (.lst (s.zE.map zx.enc)),.t (.lst (sp.map zp.enc)),.own 6 6 (b.1.map zx.enc),.zI,.slc 2 0 (s.z4.length/8+1) 8,.mp 1]),(5,.map true (mE lvE bE b.2) none),(6,.arr b.1.length)],7⟩}) (fun r i b=>b.1.length<=i/\wv s.z4.length name r b.1 b.2=js) 6 ([],[]) Z ⟨by simp,e2⟩ rfl rfl rfl ?_ ?_
  ·rintro ⟨js',seen⟩ ⟨_,hinv⟩;simp only [wv] at hinv;subst hinv;refine fR Z ?_;refine Run.zj Z Z (by simp) ?_;refine fR Z ?_;refine lM Z Z Z ?_;refine fM Z ?_
   refine zD s.keys (fun i (b:List zJ)=>{env:=[(1,.t (.str name)),(3,.ptr 0 0),(7,.ptr 3 0),(128,.t (.lst (s.keys.map zJ.enc))),(129,.t (.int .i64 s.keys.length)),(130,.t (.int .i64 i))],s:=⟨[(0,.cells [.t (.lst (s.z4.map sE)),.t s.doc,.t (.lst (s.keys.map zJ.enc)),.t (.lst (s.zE.map zx.enc))]),(1,.map false (mE sE iE []) none),(2,.cells (cE iE A0)),(3,.cells [.t (.lst (s.z4.map sE)),.t s.doc,.t (.lst (s.keys.map zJ.enc)),.t (.lst (s.zE.map zx.enc)),.t (.lst (sp.map zp.enc)),.t (.lst (js'.map zx.enc)),.own 5 3 (b.map zJ.enc),.slc 2 0 (s.z4.length/8+1) 8,.mp 1]),(5,.arr b.length)],6⟩}) (fun r i b=>b.length<=i/\wT s.z4.length name r b=ks) 5 [] Z ⟨by simp,e3⟩ rfl rfl rfl ?_ ?_
   ·rintro ks' ⟨_,hinv⟩;simp only [wT] at hinv;subst hinv;refine fR Z ?_;refine Run.zj Z Z (by simp) ?_;skip
    refine z30 (β:=Nat×List (Str×Int)×List Int) (fun b=>{env:=[(7,.ptr 3 0)],s:=⟨[(1,.map false (mE sE iE b.2.1) none),(2,.cells (cE iE b.2.2)),(3,.cells (z33 s sp js' ks' (s.z4.length/8+1)))],4⟩})
     (fun b=>NOk s sp js' ks' (s.z4.length/8+1) b.2.2/\stops s.z4.length sp js' ks' b.1 b.2.1 b.2.2/\z1l s.z4.length sp js' ks' b.1 b.2.1 b.2.2=(F1,A1)) (fun b=>b.1) 4 (fuel,[],A0) rfl ⟨hN,hst,e4⟩ rfl rfl rfl ?_ (he:=leEA) (hs:=leSA)
    rintro ⟨f,F',A'⟩ ⟨hN',hs',hi'⟩ ih
    cases f with
    |zero=>exact hs'.elim
    |succ f=>
     simp only [stops] at hs';simp only [z1l] at hi';refine fR Z ?_
     refine Mid.ZI [3,1,2] (zaV (F:=F') H hN') Z Z Z Z zT (by repeat' (first |exact trivial|exact rfl|refine And.intro ?_ ?_|exact (congrArg some (z6.zK _ _ _ _ _ _)).symm|exact (congrArg some (z6.zL _ _ _)).symm)) Z Z (ob':=[(1,.map false (mE sE iE (ZJ s.z4.length sp js' ks' F' A').1) none),(2,.cells (cE iE (ZJ s.z4.length sp js' ks' F' A').2.1))]) ((by simp only [qW,z6.zK,z6.zL];rfl)) Z Z ?_
     refine fM Z ?_;refine Run.cond Z Z (fun hc=>?_) (fun hc=>?_)
     ·skip;rw [if_pos hc] at hi';have hN2:NOk s sp js' ks' (s.z4.length/8+1) (ZJ s.z4.length sp js' ks' F' A').2.1:=z8t hN' _ _ _ _ hN';exact zn 4 Z (ih (f,(ZJ s.z4.length sp js' ks' F' A').1,(ZJ s.z4.length sp js' ks' F' A').2.1) (by simp) ⟨hN2,hs' hc,hi'⟩) Z Z Z
     ·refine fR Z ?_;rw [if_neg (by rw [hc];simp)] at hi';cases hi';refine Run.fin Z (z3.chg Z Z ?_ ?_)
      ·exact .le (.same Z)
      ·exact leSA
   ·rintro i x r ks' hi1 hi hd ⟨hl,hinv⟩ ih;refine fR Z ?_;refine Run.zm Z Z (by simp;omega) ?_;refine fR Z ?_;refine Mid.zg Z Z Z hi1 Z Z ?_;refine fM Z ?_;refine lMG Z Z Z Z ?_;refine fM Z ?_;refine Run.cond Z Z (fun hc=>?_) (fun hc=>?_)
    ·have hc2:ink s.z4.length name x=true:=hc;refine fR Z ?_;refine apM zJ.enc ks' [x] Z Z Z Z Z ?_;refine fM Z ?_;refine aL Z Z Z Z Z ?_;refine fM Z ?_;exact zn 6 Z (ih (ks'++[x]) ⟨by simp;omega,by rw [←hinv];simp only [wT,hc2,if_true]⟩) rfl rfl rfl
    ·refine fR Z ?_;refine aL Z Z Z Z Z ?_;refine fM Z ?_;have hc2:ink s.z4.length name x=false:=hc;exact zn 6 Z (ih ks' ⟨by omega,by rw [←hinv];simp [wT,hc2]⟩) rfl rfl rfl
  ·rintro i x r ⟨js',seen⟩ hi1 hi hd ⟨hl,hinv⟩ ih;have hl':js'.length<=i:=hl;refine fR Z ?_;refine Run.zm Z Z (by simp;omega) ?_;refine fR Z ?_;refine Mid.zg Z Z Z hi1 Z Z ?_;refine fM Z ?_;refine lMG Z Z Z Z ?_;refine fM Z ?_
   refine Mid.zet ((x.field,x.graph)) Z Z Z Z Z Z (zc8) (by (repeat' (first |exact trivial|exact Bool.not_or_self _|exact yK _|exact yJ _|exact grd3 _ _|exact yL _ _|refine And.intro ?_ ?_|exact rfl|(simp;done)|(simp<;>omega)));done) (by (repeat' (first |exact trivial|exact Bool.not_or_self _|exact yK _|exact yJ _|exact grd3 _ _|exact yL _ _|refine And.intro ?_ ?_|exact rfl|(simp;done)|(simp<;>omega)));done) Z ?_
   refine fM Z ?_;refine Run.cond Z Z (fun hc=>?_) (fun hc=>?_)
   ·have hc2:inj s.z4.length name seen x=true:=hc;refine fR Z ?_;refine Mid.zd4 ((x.field,x.graph)) Z Z Z Z (zc8) Z ?_;refine fM Z ?_;refine apM zx.enc js' [x] Z Z Z Z Z ?_;refine fM Z ?_;refine aL Z Z Z Z Z ?_;refine fM Z ?_;exact zn 7 Z (ih (js'++[x],yl (x.field,x.graph) true seen) ⟨by simp;omega,by rw [←hinv];simp only [wv,hc2,if_true]⟩) rfl rfl rfl
   ·refine fR Z ?_;refine aL Z Z Z Z Z ?_;refine fM Z ?_;have hc2:inj s.z4.length name seen x=false:=hc;exact zn 7 Z (ih (js',seen) ⟨by simp only;omega,by rw [←hinv];simp [wv,hc2]⟩) rfl rfl rfl
 ·rintro i ⟨gr,dp,pv⟩ r ⟨sp',A'⟩ hi1 hi hd ⟨hl,hA,hinv⟩ ih;have hl':sp'.length<=i:=hl;have hA':A'.length=8*(s.z4.length/8+1):=hA;refine fR Z ?_;refine Run.zm Z Z (by simp;omega) ?_;refine fR Z ?_;refine Mid.zg Z Z Z hi1 Z Z ?_;refine fM Z ?_;refine lMG Z Z Z Z ?_;refine fM Z ?_;refine Run.cond Z Z (fun hc=>?_) (fun hc=>?_)
  ·have hc2:inb s.z4.length ⟨gr,dp,pv⟩=true:=hc
   have hg:0<=gr/\gr<s.z4.length:=by
    simp [inb] at hc2;omega
   obtain ⟨g,rfl⟩:=Int.eq_ofNat_of_zero_le hg.1
   have hiA:g<A'.length:=by omega
   have hgd:A'[g]?=some (A'.getD g 0):=by rw [List.getD_eq_getElem?_getD,List.getElem?_eq_getElem hiA];rfl
   refine fR Z ?_;refine apM zp.enc sp' [⟨(g:Int),dp,pv⟩] Z Z Z Z Z ?_;refine fM Z ?_
   refine Mid.YZ [3,1,2,4] (zc0 (a0:= .lst (s.z4.map sE)) (a1:=s.doc) (a2:= .lst (s.keys.map zJ.enc)) (a3:= .lst (s.zE.map zx.enc)) (sp:=sp'++[⟨(g:Int),dp,pv⟩]) (F:=[]) (A:=A') (nb:=s.z4.length/8+1) H g (by omega) (by omega)) Z Z Z Z (by simp [zR,z6.z8R,z6.z90];simp [z6.bd,V.bds,V.bd]) (by repeat' (first |exact trivial|exact rfl|refine And.intro ?_ ?_|exact (congrArg some (z6.zK _ _ _ _ _ _)).symm|exact (congrArg some (z6.zL _ _ _)).symm)) Z ?_
   refine fM Z ?_
   refine Mid.YZ [3,1,2,4] (zc0 (a0:= .lst (s.z4.map sE)) (a1:=s.doc) (a2:= .lst (s.keys.map zJ.enc)) (a3:= .lst (s.zE.map zx.enc)) (sp:=sp'++[⟨(g:Int),dp,pv⟩]) (F:=[]) (A:=A') (nb:=s.z4.length/8+1) H g (by omega) (by omega)) Z Z Z Z (by simp [zR,z6.z8R,z6.z90];simp [z6.bd,V.bds,V.bd]) (by repeat' (first |exact trivial|exact rfl|refine And.intro ?_ ?_|exact (congrArg some (z6.zK _ _ _ _ _ _)).symm|exact (congrArg some (z6.zL _ _ _)).symm)) Z ?_
   refine p0 Z ?_;refine Mid.ldE Z Z (hgd) Z ?_;refine fM Z ?_;refine Mid.call (wH H (A'.getD g 0) dp) Z Z Z Z ?_;refine p0 Z ?_;refine Mid.stE Z Z (hiA) Z Z ?_;refine fM Z ?_;refine aL Z Z Z Z Z ?_;refine fM Z ?_
   exact zn 5 Z (ih (sp'++[⟨(g:Int),dp,pv⟩],A'.set g (zU (A'.getD g 0) dp)) ⟨by simp;omega,by simpa using hA',by rw [←hinv];simp only [yG,hc2,if_true];rfl⟩) rfl rfl rfl
  ·refine fR Z ?_;refine aL Z Z Z Z Z ?_;refine fM Z ?_;have hc2:inb s.z4.length ⟨gr,dp,pv⟩=false:=hc;exact zn 5 Z (ih (sp',A') ⟨by simp only;omega,hA,by rw [←hinv];simp [yG,hc2]⟩) rfl rfl rfl
end Go.GB.C26
namespace Go.GB.C26
open Go.GB
variable {P:Program}
structure Sol (s:zH) (name:Str) (here sp:List zp) (js:List zx) (ks:List zJ) (F1:List (Str×Int)) (A1:List Int):Prop where
 h1:s.z4.length<=2000
 h2:here.length<=100000
 h3:s.zE.length<=100000
 h4:s.keys.length<=100000
 e2:wv s.z4.length name s.zE [] []=js
 e3:wT s.z4.length name s.keys []=ks
 ex:∃A0 fuel,yG s.z4.length here [] (List.replicate (s.z4.length/8+1) (List.replicate 8 0)).flatten=(sp,A0)/\NOk s sp js ks (s.z4.length/8+1) A0/\stops s.z4.length sp js ks fuel [] A0/\z1l s.z4.length sp js ks fuel [] A0=(F1,A1)
 hN:NOk s sp js ks (s.z4.length/8+1) A1
def zH.v (s:zH):V:= .agg [.t (.lst (s.z4.map sE)),.t s.doc,.t (.lst (s.keys.map zJ.enc)),.t (.lst (s.zE.map zx.enc))]
section
variable {s:zH} {name:Str} {here sp:List zp} {js:List zx} {ks:List zJ} {F:List (Str×Int)} {A:List Int}
theorem z4f (H:Pr P) (h:Sol s name here sp js ks F A):z7 P 56 [s.v,.t (.str name),.t (.lst (here.map zp.enc))] ⟨[],0⟩ {v:= .ptr 3 0,ob:=[(1,.map false (mE sE iE F) none),(2,.cells (cE iE A)),(3,.cells (z33 s sp js ks (s.z4.length/8+1)))],n:=4}:=by
 obtain ⟨A0,fuel,g1,g2,g3,g4⟩:=h.ex;exact zbV H s name here sp js ks A0 A F fuel h.h1 h.h2 h.h3 h.h4 g1 h.e2 h.e3 g2 g3 g4
def nC4 (s:zH) (sp:List zp) (js:List zx) (ks:List zJ):List V:=
 [.t (.lst (s.z4.map sE)),.t s.doc,.t (.lst (s.keys.map zJ.enc)),.t (.lst (s.zE.map zx.enc)),.t (.lst (sp.map zp.enc)),.t (.lst (js.map zx.enc)),.t (.lst (ks.map zJ.enc)),.slc 3 0 (s.z4.length/8+1) 8,.mp 2]
theorem zeQ (H:Pr P) (h:Sol s name here sp js ks F A) (f:Str):z7 P 32 [s.v,.t (.str name),.t (.lst (here.map zp.enc)),.t (.str f)] ⟨[],0⟩ {v:= .tup [.t (.int .i64 (Z3 s.z4.length F A f)),.t (.bool (decide (Z3 s.z4.length F A f>0)))]}:=by
 refine z7.run H.i32 H.mixed Z Z ?_;refine fR Z ?_
 refine Mid.ZI [] (z4f H h) Z Z Z Z Z (by repeat' (first |exact trivial|exact rfl|refine And.intro ?_ ?_|exact (congrArg some (z6.zK _ _ _ _ _ _)).symm|exact (congrArg some (z6.zL _ _ _)).symm)) Z Z (ob':=[(2,.map false (mE sE iE F) none),(3,.cells (cE iE A)),(4,.cells (nC4 s sp js ks))]) ((by simp only [qW,z6.zK,z6.zL];rfl)) Z Z ?_
 refine fM Z ?_
 refine Mid.YZ [4,2,3] (z6g (F:=F) H h.hN f) Z Z Z Z zT (by repeat' (first |exact trivial|exact rfl|refine And.intro ?_ ?_|exact (congrArg some (z6.zK _ _ _ _ _ _)).symm|exact (congrArg some (z6.zL _ _ _)).symm)) Z ?_
 refine fM Z ?_;refine Run.fin Z (z3.go ?_);exact .wM (.t Z) (.t Z)
end
end Go.GB.C26
namespace Go.GB.C26
open Go.GB
variable {P:Program}
section
variable {s:zH} {name:Str} {here sp:List zp} {js:List zx} {ks:List zJ} {F:List (Str×Int)} {A:List Int}
end
end Go.GB.C26
namespace Go.GB
section
variable {P:Program} {n m:Nat} {R:St->Prop}
theorem zu.zen {Λ:L} {v:Value} {c d:Prop} (h:zu Λ v (.ub c d)):∃b,v= .bool b/\(b=true->c)/\(b=false->d):=by
 cases h with
 |ub h h'=>exact ⟨_,rfl,h,h'⟩
theorem Sat.z4k {Q:Yz->St->Prop} {st:St} {z:Ar} {a b:zW} {c d:Prop} (hz:z.v st= .ub c d) (h1:c->Sat P n m a st Q) (h2:d->Sat P n m b st Q):Sat P n m (.cond z a b) st Q:=by
 intro code k1 k2 k3 C Λ ac k4 k5 k6 k7 k8;have:=ZP k1;simp only [zW.bare] at this;obtain ⟨e,x,y,rfl,hc,hx,hy⟩:=this;simp only [codeOk,Bool.and_eq_true] at k2;have hv:=k7.opd hc;rw [hz] at hv;obtain ⟨t,ht,g1,g2⟩:=zu.zen hv;refine wp_cond ht ?_
 cases t with
 |true=>exact h1 (g1 rfl) x hx k2.1 k3 C Λ ac k4 k5 k6 k7 k8
 |false=>exact h2 (g2 rfl) y hy k2.2 k3 C Λ ac k4 k5 k6 k7 k8
theorem Run.z4k {k k':List It} {z:Ar} {a b:zW} {st:St} {c d:Prop} (hk:yd 200 k= .c (.cond z a b)::k') (hz:z.v st= .ub c d) (h1:c->Run P n m R (.c a::k') st) (h2:d->Run P n m R (.c b::k') st):Run P n m R k st:=
 Run.adv 200 hk (by
  simp only [Run,ZR] at h1 h2⊢
  exact Sat.z4k hz h1 h2)
variable {draw:Bool} {all:List AO} {after:List (List Nat)} {live:List Nat} {k:List It} {b b':Nat} {fl:List (Bool×Bool)} {ops:List AO} {st st':St} {d:Option Nat}
end
end Go.GB
namespace Go.GB.C26
open Go.GB
variable {P:Program}
theorem zaD (H:Pr P) (l:List Str) (hl:l.length<=100000):z7 P 70 [.t (.lst (l.map sE))] ⟨[],0⟩ {v:= .t (.lst (l.map sE))}:=by
 refine z7.run H.i70 H.mixed Z Z ?_;refine fR Z ?_;refine p0 Z ?_;refine fM Z ?_;refine Run.z4k Z Z (fun h=>?_) (fun _=>?_)
 ·have hn:l=[]:=by
   cases l with
   |nil=>rfl
   |cons x r=>
    have:=h (sE x) (by simp);simp [sE] at this
  subst hn;refine fR Z ?_;refine Run.fin Z (z3.go ?_);exact .nil Z
 ·refine fR Z ?_;refine apN sE l Z Z Z ?_ (h1:=by omega) (h2:=by omega);refine fM rfl ?_;refine Run.fin rfl (z3.go ?_);exact .own (by simp)
def yW (n:Nat) (sp:List zp) (ks:List zJ) (F:List (Str×Int)) (A:List Int) (f:Str) (g:Int):List zx->List zp->List zp
 |[],acc=>acc
 |j::r,acc=>yW n sp ks F A f g r (if (!(j.field==f)||!(j.graph==g)||j.ext)=true then acc else if Zv n sp ks F A j>0 then acc++[⟨g,Zv n sp ks F A j,j.yc⟩] else acc)
def y6 (n:Nat) (sp:List zp) (js:List zx) (ks:List zJ) (F:List (Str×Int)) (A:List Int) (f:Str):Nat->Nat->List zp->List zp
 |_,0,acc=>acc
 |i,c+1,acc=>y6 n sp js ks F A f (i+1) c (yW n sp ks F A f i js acc)
section
variable {s:zH} {name:Str} {here sp:List zp} {js:List zx} {ks:List zJ} {F:List (Str×Int)} {A:List Int}
theorem z2A (n:Nat) (sp:List zp) (ks:List zJ) (F:List (Str×Int)) (A:List Int) (f:Str) (g:Int):∀(l:List zx) (acc:List zp),(yW n sp ks F A f g l acc).length<=acc.length+l.length
 |[],acc=>by simp [yW]
 |j::r,acc=>by
  simp only [yW];have:=z2A n sp ks F A f g r (if (!(j.field==f)||!(j.graph==g)||j.ext)=true then acc else if Zv n sp ks F A j>0 then acc++[⟨g,Zv n sp ks F A j,j.yc⟩] else acc)
  have h2:(if (!(j.field==f)||!(j.graph==g)||j.ext)=true then acc else if Zv n sp ks F A j>0 then acc++[⟨g,Zv n sp ks F A j,j.yc⟩] else acc).length<=acc.length+1:=by
   split
   ·omega
   ·split
    ·simp
    ·omega
  simp only [List.length_cons];omega
end
def z13 (name:Str) (g:Int) (j:zx):Bool:=(j.ty==name)&&(j.graph==g)
def Qx (p:zx->Bool):Int->List zx->Int
 |_,[]=>-1
 |i,b::l=>if p b then i else Qx p (i+1) l
theorem z4U (p:zx->Bool):∀(l:List zx) (i:Int),0<=i->decide (Qx p i l≥0)=l.any p
 |[],i,h=>by simp [Qx]
 |b::l,i,h=>by
  have ih:=z4U p l (i+1) (by omega);by_cases hp:p b=true
  ·simp [Qx,hp,h]
  ·simp only [Qx,List.any_cons,hp];simpa using ih
theorem z9N (H:Pr P) (j:zx) (name:Str) (g:Int):z7 P 48 [.agg [.t (.str j.ty),.t (.str j.field),.t (.int .i64 j.graph),.t (.bool j.ext),.t (.lst (j.req.map sE)),.t (.lst (j.yc.map sE))],.ptr 0 0,.ptr 1 0] ⟨[(0,.cells [.t (.str name)]),(1,.cells [.t (.int .i64 g)])],2⟩ {v:= .t (.bool (z13 name g j)),rd:=true}:=by
 refine z7.run H.i48 H.mixed Z Z ?_;refine fR Z ?_;refine Run.fin Z (z3.yA Z Z Z (by first |exact rfl|exact zT|exact tSto_bd) (.t (rfl)))
theorem z4G (H:Pr P) (l:List zx) (hl:l.length<=100000) (name:Str) (g:Int):z7 P 72 [.t (.lst (l.map zx.enc)),.fn 48 [(0,0),(1,0)]] ⟨[(0,.cells [.t (.str name)]),(1,.cells [.t (.int .i64 g)])],2⟩ {v:= .t (.int .i64 (Qx (z13 name g) 0 l)),rd:=true}:=by
 refine z7.run H.i72 H.mixed Z Z ?_;refine fR Z ?_;refine lM Z Z Z ?_;refine fM Z ?_;refine zD l (fun i (_:Unit)=>{env:=[(0,.t (.lst (l.map zx.enc))),(1,.fn 48 [(0,0),(1,0)]),(7,.t (.int .i64 l.length)),(8,.t (.int .i64 i))],s:=⟨[(0,.cells [.t (.str name)]),(1,.cells [.t (.int .i64 g)])],2⟩}) (fun r i _=>Qx (z13 name g) 0 l=Qx (z13 name g) i r) 2 () Z Z Z Z Z ?_ ?_
 ·intro _ hinv;refine fR Z ?_;refine Run.zj Z Z (by simp) ?_;refine fR Z ?_;refine Run.fin Z (z3.yA Z Z Z (by first |exact rfl|exact zT|exact tSto_bd) (.t ((by rw [hinv];rfl))))
 ·intro i x r _ h1 hi hd hinv ih;refine fR Z ?_;refine Run.zm Z Z (by simp;omega) ?_;refine fR Z ?_;refine Mid.zg Z Z Z h1 Z Z ?_;refine fM Z ?_;refine Mid.z4D Z (z9N H x name g) Z Z Z Z ?_;refine fM Z ?_;refine Run.cond Z Z (fun hc=>?_) (fun hc=>?_)
  ·refine fR Z ?_;refine Run.fin Z (z3.yA Z Z Z (by first |exact rfl|exact zT|exact tSto_bd) (.t ((by rw [hinv];simp [Qx,hc]))))
  ·refine fR Z ?_;refine aL Z Z Z Z Z ?_;refine fM Z ?_;exact zn 2 Z (ih () (by rw [hinv];simp [Qx,hc])) Z Z Z
theorem z1E (H:Pr P) (l:List zx) (hl:l.length<=100000) (name:Str) (g:Int):z7 P 47 [.t (.lst (l.map zx.enc)),.fn 48 [(0,0),(1,0)]] ⟨[(0,.cells [.t (.str name)]),(1,.cells [.t (.int .i64 g)])],2⟩ {v:= .t (.bool (l.any (z13 name g))),rd:=true}:=by
 refine z7.run H.i47 H.mixed Z Z ?_;refine fR Z ?_;refine Mid.Qs (z4G H l hl name g) Z Z (by first |exact rfl|exact zT|exact tSto_bd) Z ?_;refine fM Z ?_;refine Run.fin Z (z3.yA Z Z Z (by first |exact rfl|exact zT|exact tSto_bd) (.t ((by rw [←z4U (z13 name g) l 0 (by omega)]))))
def YM (name:Str) (js:List zx):Nat->Nat->List zp->List zp
 |_,0,acc=>acc
 |i,c+1,acc=>YM name js (i+1) c (if js.any (z13 name i)=true then acc++[⟨i,1,[]⟩] else acc)
theorem zbo (H:Pr P) (s:zH) (name:Str) (h1:s.z4.length<=2000) (h3:s.zE.length<=100000):z7 P 26 [s.v,.t (.str name)] ⟨[],0⟩ {v:= .t (.lst ((YM name s.zE 0 s.z4.length []).map zp.enc))}:=by
 refine z7.run H.i26 H.mixed Z Z ?_;refine fR Z ?_;refine lM Z Z Z ?_;refine fM Z ?_
 refine zD s.z4 (fun i (B:List zp)=>{env:=[(2,.ptr 0 0),(3,.ptr 1 0),(5,.own 2 3 (B.map zp.enc)),(9,.t (.int .i64 s.z4.length)),(10,.t (.int .i64 i))],s:=⟨[(0,.cells [.t (.lst (s.z4.map sE)),.t s.doc,.t (.lst (s.keys.map zJ.enc)),.t (.lst (s.zE.map zx.enc))]),(1,.cells [.t (.str name)]),(2,.arr B.length)],3⟩}) (fun r i B=>B.length<=i/\YM name s.zE 0 s.z4.length []=YM name s.zE i r.length B) 2 [] Z ⟨by simp,rfl⟩ rfl rfl rfl ?_ ?_
 ·rintro B ⟨_,hinv⟩;refine fR Z ?_;refine Run.zj Z Z (by simp) ?_;refine fR Z ?_;refine Run.fin Z (z3.go ?_);exact .own (by rw [hinv];rfl)
 ·rintro i x r B hi1 hi hd ⟨hl,hinv⟩ ih;refine fR Z ?_;refine Run.zm Z Z (by simp;omega) ?_;refine fR Z ?_
  refine Mid.YZ [1,3] (z1E H s.zE h3 name i) Z Z Z Z (by simp [zR];simp [z6.bd,V.bds,V.bd]) (by repeat' (first |exact trivial|exact rfl|refine And.intro ?_ ?_|exact (congrArg some (z6.zK _ _ _ _ _ _)).symm|exact (congrArg some (z6.zL _ _ _)).symm)) Z ?_
  refine fM Z ?_;refine Run.cond Z Z (fun hc=>?_) (fun hc=>?_)
  ·refine fR Z ?_;refine apM zp.enc B [(⟨(i:Int),1,[]⟩:zp)] Z Z Z Z Z ?_;refine fM Z ?_;refine aL Z Z Z Z Z ?_;refine fM Z ?_;exact zn 3 Z (ih (B++[⟨(i:Int),1,[]⟩]) ⟨by simp;omega,by rw [hinv];simp only [List.length_cons,YM];rw [if_pos hc]⟩) rfl rfl rfl
  ·refine fR Z ?_;refine aL Z Z Z Z Z ?_;refine fM Z ?_;exact zn 3 Z (ih B ⟨by omega,by rw [hinv];simp only [List.length_cons,YM];rw [if_neg (by rw [hc];simp)]⟩) rfl rfl rfl
end Go.GB.C26
