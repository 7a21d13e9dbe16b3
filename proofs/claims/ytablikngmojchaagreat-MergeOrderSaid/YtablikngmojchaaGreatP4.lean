/-
  YtablikngmojchaaGreatP4: lemmas. No conditions.
-/
import Derived.Test.YtablikngmojchaaGreatP3
import Derived.Maps.RangeRun
set_option linter.all false
set_option maxRecDepth 100000
set_option maxHeartbeats 16000000
namespace Go.GB
section
variable {P:Program}
mutual
def V.ren (ρ:Nat->Nat):V->V
 | .t x=> .t x
 | .zC=> .zC
 | .top=> .top
 | .own k sz xs=> .own (ρ k) sz xs
 | .slc k o l s=> .slc (ρ k) o l s
 | .ptr k o=> .ptr (ρ k) o
 | .mp k=> .mp (ρ k)
 | .fn f cs=> .fn f (cs.map fun c=>(ρ c.1,c.2))
 | .agg cs=> .agg (V.wb ρ cs)
 | .tup cs=> .tup (V.wb ρ cs)
 | .gd c x=> .gd c (x.ren ρ)
 | .ub c d=> .ub c d
 | .fpt k i o=> .fpt (ρ k) i o
 | .gpt k v o=> .gpt (ρ k) v o
 | .gsl k v o l s=> .gsl (ρ k) v o l s
 | .fow k i s xs=> .fow (ρ k) i s xs
def V.wb (ρ:Nat->Nat):List V->List V
 |[]=>[]
 |x::r=>x.ren ρ::V.wb ρ r
end
theorem V.zS (ρ:Nat->Nat):∀(cs:List V),V.wb ρ cs=cs.map (V.ren ρ)
 |[]=>rfl
 |x::r=>by simp [V.wb,V.zS ρ r]
def zd.ren (ρ:Nat->Nat):zd->zd
 | .cells cs=> .cells (V.wb ρ cs)
 | .map kag es st=> .map kag (es.map fun e=>(e.1,e.2.ren ρ)) st
 | .arr n=> .arr n
 | .iter q s seen c=> .iter (ρ q) s seen c
 | .gro v cs=> .gro v (V.wb ρ cs)
 | .yL os=> .yL (os.map (V.wb ρ))
 | .y8 ns=> .y8 ns
 | .WN a I=> .WN a I
structure Rn (ρ:Nat->Nat) (σ:Nat->Option Nat) (m1 m n:Nat):Prop where
 inv:∀k j,σ k=some j->ρ j=k/\j<m1+n
 at_:∀j,j<m1+n->σ (ρ j)=some j
 low:∀j,j<m1->ρ j<m
 new:∀j,m1<=j->j<m1+n->ρ j=m+(j - m1)
def L.view (Λ:L) (ρ:Nat->Nat) (σ:Nat->Option Nat) (m1:Nat):L where
 lab:=fun b=>match Λ.lab b with
  | .obj k=>match σ k with|some j=> .obj j|none=> .fix (some 0)
  | .arr k fr=>match σ k with|some j=> .arr j fr|none=> .fix (some fr)
  | .fob k i=>match σ k with|some j=> .fob j i|none=> .fix (some 0)
  | .far k i fr=>match σ k with|some j=> .far j i fr|none=> .fix (some fr)
  |x=>x
 fro:=fun j=>if j<m1 then Λ.fro (ρ j) else 0
 nxt:=m1
 w:=Λ.w
 frf:=fun j i=>if j<m1 then Λ.frf (ρ j) i else 0
def L.hid (Λ:L) (σ:Nat->Option Nat) (b:Nat):Bool:=
 match Λ.lab b with
 | .obj k=>(σ k).isNone
 | .arr k _=>(σ k).isNone
 | .fob k _=>(σ k).isNone
 | .far k _ _=>(σ k).isNone
 |_=>false
def Lab.ren (ρ:Nat->Nat):Lab->Lab
 | .obj k=> .obj (ρ k)
 | .arr k fr=> .arr (ρ k) fr
 | .fob k i=> .fob (ρ k) i
 | .far k i fr=> .far (ρ k) i fr
 |x=>x
def L.zt (Λ:L) (ρ:Nat->Nat) (σ:Nat->Option Nat) (Λ':L):L where
 lab:=fun b=>if Λ.hid σ b then Λ.lab b else (Λ'.lab b).ren ρ
 fro:=fun k=>match σ k with|some j=>Λ'.fro j|none=>Λ.fro k
 nxt:=Λ.nxt
 w:=Λ'.w
 frf:=fun k i=>match σ k with|some j=>Λ'.frf j i|none=>Λ.frf k i
variable {ρ:Nat->Nat} {σ:Nat->Option Nat} {m1 m n:Nat}
theorem z8m {Λ:L} {b:Nat} (h:Λ.hid σ b=true):∃fr,(Λ.view ρ σ m1).lab b= .fix (some fr)/\((∃k,Λ.lab b= .obj k/\σ k=none/\fr=0)∨(∃k,Λ.lab b= .arr k fr/\σ k=none)∨(∃k i,Λ.lab b= .fob k i/\σ k=none/\fr=0)∨∃k i,Λ.lab b= .far k i fr/\σ k=none):=by
 unfold L.hid at h;simp only [L.view]
 cases hl:Λ.lab b with
 |fix fr=>rw [hl] at h;simp at h
 |obj k=>rw [hl] at h;simp at h;exact ⟨0,by simp [h],.inl ⟨k,rfl,h,rfl⟩⟩
 |arr k fr=>rw [hl] at h;simp at h;exact ⟨fr,by simp [h],.inr (.inl ⟨k,rfl,h⟩)⟩
 |fob k i=>rw [hl] at h;simp at h;exact ⟨0,by simp [h],.inr (.inr (.inl ⟨k,i,rfl,h,rfl⟩))⟩
 |far k i fr=>rw [hl] at h;simp at h;exact ⟨fr,by simp [h],.inr (.inr (.inr ⟨k,i,rfl,h⟩))⟩
theorem ZN {Λ:L} {b k j:Nat} (h:Λ.lab b= .obj k) (hk:σ k=some j):(Λ.view ρ σ m1).lab b= .obj j:=by simp [L.view,h,hk]
theorem qo {Λ:L} {b k j fr:Nat} (h:Λ.lab b= .arr k fr) (hk:σ k=some j):(Λ.view ρ σ m1).lab b= .arr j fr:=by simp [L.view,h,hk]
theorem ql {Λ:L} {b k j i:Nat} (h:Λ.lab b= .fob k i) (hk:σ k=some j):(Λ.view ρ σ m1).lab b= .fob j i:=by simp [L.view,h,hk]
theorem qv {Λ:L} {b k j i fr:Nat} (h:Λ.lab b= .far k i fr) (hk:σ k=some j):(Λ.view ρ σ m1).lab b= .far j i fr:=by simp [L.view,h,hk]
theorem QD {Λ:L} {b:Nat} {fr:Option Nat} (h:Λ.lab b= .fix fr):(Λ.view ρ σ m1).lab b= .fix fr:=by simp [L.view,h]
theorem Y4 {Λ:L} {b j:Nat} (h:(Λ.view ρ σ m1).lab b= .obj j):∃k,Λ.lab b= .obj k/\σ k=some j:=by
 simp only [L.view] at h
 cases hl:Λ.lab b with
 |fix fr=>simp [hl] at h
 |obj k=>simp only [hl] at h;split at h<;>simp_all
 |arr k fr=>simp only [hl] at h;split at h<;>simp_all
 |fob k i=>simp only [hl] at h;split at h<;>simp_all
 |far k i fr=>simp only [hl] at h;split at h<;>simp_all
theorem z1p {Λ:L} {b j fr:Nat} (h:(Λ.view ρ σ m1).lab b= .arr j fr):∃k,Λ.lab b= .arr k fr/\σ k=some j:=by
 simp only [L.view] at h
 cases hl:Λ.lab b with
 |fix fr=>simp [hl] at h
 |obj k=>simp only [hl] at h;split at h<;>simp_all
 |arr k fr=>simp only [hl] at h;split at h<;>simp_all
 |fob k i=>simp only [hl] at h;split at h<;>simp_all
 |far k i fr=>simp only [hl] at h;split at h<;>simp_all
theorem Z9 {Λ:L} {b j i:Nat} (h:(Λ.view ρ σ m1).lab b= .fob j i):∃k,Λ.lab b= .fob k i/\σ k=some j:=by
 simp only [L.view] at h
 cases hl:Λ.lab b with
 |fix fr=>simp [hl] at h
 |obj k=>simp only [hl] at h;split at h<;>simp_all
 |arr k fr=>simp only [hl] at h;split at h<;>simp_all
 |fob k i=>simp only [hl] at h;split at h<;>simp_all
 |far k i fr=>simp only [hl] at h;split at h<;>simp_all
theorem z1K {Λ:L} {b j i fr:Nat} (h:(Λ.view ρ σ m1).lab b= .far j i fr):∃k,Λ.lab b= .far k i fr/\σ k=some j:=by
 simp only [L.view] at h
 cases hl:Λ.lab b with
 |fix fr=>simp [hl] at h
 |obj k=>simp only [hl] at h;split at h<;>simp_all
 |arr k fr=>simp only [hl] at h;split at h<;>simp_all
 |fob k i=>simp only [hl] at h;split at h<;>simp_all
 |far k i fr=>simp only [hl] at h;split at h<;>simp_all
theorem zeh {Λ:L} {b o:Nat} (h:Rd Λ.lab b o):Rd (Λ.view ρ σ m1).lab b o:=by
 unfold Rd at*
 cases hl:Λ.lab b with
 |fix fr=>rw [QD hl];rw [hl] at h;exact h
 |obj k=>rw [hl] at h;exact h.elim
 |arr k fr=>
  rw [hl] at h
  cases hk:σ k with
  |some j=>rw [qo hl hk];exact h
  |none=>simp only [L.view,hl,hk];exact h
 |fob k i=>rw [hl] at h;exact h.elim
 |far k i fr=>
  rw [hl] at h
  cases hk:σ k with
  |some j=>rw [qv hl hk];exact h
  |none=>simp only [L.view,hl,hk];exact h
theorem zI.view {Λ:L} {v:Value} {x:T} (h:zI Λ.lab Λ.w v x):zI (Λ.view ρ σ m1).lab (Λ.view ρ σ m1).w v x:=h.ZX fun _ _ _ _ hr=>⟨zeh hr,rfl⟩
theorem z1G (hn:Rn ρ σ m1 m n) {Λ:L} {b k j:Nat} (h:qu Λ.lab k b) (hk:σ k=some j):qu (Λ.view ρ σ m1).lab j b:=by
 obtain ⟨i,e1,e2⟩:=h;refine ⟨i,ql e1 hk,fun b' i' h'=>?_⟩;obtain ⟨k',a1,a2⟩:=Z9 h';have h1:=(hn.inv _ _ a2).1;have h2:=(hn.inv _ _ hk).1;rw [←h1,h2] at a1;exact e2 b' i' a1
theorem zr.view (hn:Rn ρ σ m1 m n) {Λ:L} {v:Value} {y:V} (h:zr Λ v y):∀{x:V},x.ren ρ=y->x.bd m1=true->zr (Λ.view ρ σ m1) v x:=by
 induction h with
 |t h=>intro x hx hb;cases x<;>simp [V.ren] at hx;subst hx;exact .t h.view
 |zC=>intro x hx hb;cases x<;>simp [V.ren] at hx;exact .zC
 |@own v k sz xs h hsz hl hm ho=>
  intro x hx hb;cases x<;>simp [V.ren] at hx
  rename_i j sz' xs';obtain ⟨e1,rfl,rfl⟩:=hx
  have hj:j<m1:=by simpa [V.bd] using hb
  have hf:(Λ.view ρ σ m1).fro j=Λ.fro k:=by simp [L.view,hj,e1]
  have hs:σ k=some j:=by rw [←e1];exact hn.at_ j (by omega)
  refine .own h.view hsz hj (by rw [hf];exact hm) fun he=>?_
  rcases ho (by rw [←hf];exact he) with ho|⟨b,cap,arr,e,hv,hb',hh,hc,hn'⟩
  ·exact .inl ho
  ·exact .inr ⟨b,cap,arr,e,hv,qo hb' hs,hh,hc,hn'⟩
 |@slc b k off len cap sz hl hc h=>
  intro x hx hb;cases x<;>simp [V.ren] at hx
  rename_i j _ _ _;obtain ⟨e1,rfl,rfl,rfl⟩:=hx
  have hj:j<m1:=by simpa [V.bd] using hb
  exact .slc hj hc (ZN h (by rw [←e1];exact hn.at_ j (by omega)))
 |@agg vs cs hs hv ih=>
  intro x hx hb;cases x<;>simp [V.ren] at hx
  rename_i ds;rw [V.zS] at hx;subst hx;refine .agg (by simpa using hs) fun j v c h1 h2=>ih j v (c.ren ρ) h1 (by simp [h2]) Z (V.Zj (by simpa [V.bd] using hb) j c h2)
 |@tup vs cs hs hv ih=>
  intro x hx hb;cases x<;>simp [V.ren] at hx
  rename_i ds;rw [V.zS] at hx;subst hx;refine .tup (by simpa using hs) fun j v c h1 h2=>ih j v (c.ren ρ) h1 (by simp [h2]) Z (V.Zj (by simpa [V.bd] using hb) j c h2)
 |@ptr b k off hl h=>
  intro x hx hb;cases x<;>simp [V.ren] at hx
  rename_i j _;obtain ⟨e1,rfl⟩:=hx
  have hj:j<m1:=by simpa [V.bd] using hb
  exact .ptr hj (ZN h (by rw [←e1];exact hn.at_ j (by omega)))
 |@mp b k hl h=>
  intro x hx hb;cases x<;>simp [V.ren] at hx
  rename_i j
  have hj:j<m1:=by simpa [V.bd] using hb
  exact .mp hj (ZN h (by rw [←hx];exact hn.at_ j (by omega)))
 |@fn f vs cs hs h=>
  intro x hx hb;cases x<;>simp [V.ren] at hx
  obtain ⟨rfl,rfl⟩:=hx;rename_i ds;refine .fn (by simpa using hs) fun j v c h1 h2=>?_;obtain ⟨b,e1,e2,e3⟩:=h j v (ρ c.1,c.2) h1 (by simp only [w0c,h2,Option.map_some])
  have hk:c.1<m1:=by
   simp only [V.bd,w0i,w0j] at hb;exact hb c (zMG h2)
  exact ⟨b,e1,ZN e2 (hn.at_ c.1 (by omega)),hk⟩
 |gd _ h' ih=>
  intro x hx hb;cases x<;>simp [V.ren] at hx
  obtain ⟨rfl,e⟩:=hx;exact .gd (fun hc=>ih hc e (by simpa [V.bd] using hb)) h'
 |top=>intro x hx hb;cases x<;>simp [V.ren] at hx;exact .top
 |ub h h'=>intro x hx hb;cases x<;>simp only [V.ren,V.ub.injEq,reduceCtorEq] at hx;obtain ⟨rfl,rfl⟩:=hx;exact .ub h h'
 |@fpt b k i off hl h=>
  intro x hx hb;cases x<;>simp [V.ren] at hx
  rename_i j _ _;obtain ⟨e1,rfl,rfl⟩:=hx
  have hj:j<m1:=by simpa [V.bd] using hb
  exact .fpt hj (ql h (by rw [←e1];exact hn.at_ j (by omega)))
 |@gpt v k ver off hv hl hm h=>
  intro x hx hb;cases x<;>simp [V.ren] at hx
  rename_i j _ _;obtain ⟨e1,rfl,rfl⟩:=hx
  have hj:j<m1:=by simpa [V.bd] using hb
  have hf:(Λ.view ρ σ m1).frf j 0=Λ.frf k 0:=by simp [L.view,hj,e1]
  have hs:σ k=some j:=by rw [←e1];exact hn.at_ j (by omega)
  refine .gpt hv hj (by rw [hf];exact hm) fun he=>?_;obtain ⟨b,e1,e2⟩:=h (by rw [←hf];exact he);exact ⟨b,e1,z1G hn e2 hs⟩
 |@gsl v k ver off len sz hv hl hm h=>
  intro x hx hb;cases x<;>simp [V.ren] at hx
  rename_i j _ _ _ _;obtain ⟨e1,rfl,rfl,rfl,rfl⟩:=hx
  have hj:j<m1:=by simpa [V.bd] using hb
  have hf:(Λ.view ρ σ m1).frf j 0=Λ.frf k 0:=by simp [L.view,hj,e1]
  have hs:σ k=some j:=by rw [←e1];exact hn.at_ j (by omega)
  refine .gsl hv hj (by rw [hf];exact hm) fun he=>?_
  rcases h (by rw [←hf];exact he) with h|⟨b,cap,N,hv,hc,e2,hN,he'⟩
  ·exact .inl h
  ·exact .inr ⟨b,cap,N,hv,hc,z1G hn e2 hs,hN,he'⟩
 |@fow v k i sz xs h hsz hl hm ho=>
  intro x hx hb;cases x<;>simp [V.ren] at hx
  rename_i j _ _ _;obtain ⟨e1,rfl,rfl,rfl⟩:=hx
  have hj:j<m1:=by simpa [V.bd] using hb
  have hf:∀i,(Λ.view ρ σ m1).frf j i=Λ.frf k i:=by intro i;simp [L.view,hj,e1]
  have hs:σ k=some j:=by rw [←e1];exact hn.at_ j (by omega)
  refine .fow h.view hsz hj (by rw [hf];exact hm) fun he=>?_
  rcases ho (by rw [←hf];exact he) with ho|⟨b,cap,arr,e,hv,hb',hh,hc,hn'⟩
  ·exact .inl ho
  ·exact .inr ⟨b,cap,arr,e,hv,qv hb' hs,hh,hc,hn'⟩
theorem WK (hn:Rn ρ σ m1 m n):∀(ob:List (Nat×zd)) (s s1:List (Nat×zd)),(∀j,j<m1+n->zj s (ρ j)=(zj s1 j).map (zd.ren ρ))->(∀j o,(j,o)∈ob->j<m1+n)->
  (∀j,j<m1+n->zj (Zf s (ob.map fun e=>(ρ e.1,e.2.ren ρ))) (ρ j)=(zj (Zf s1 ob) j).map (zd.ren ρ))/\(∀k,σ k=none->zj (Zf s (ob.map fun e=>(ρ e.1,e.2.ren ρ))) k=zj s k)
 |[],s,s1,h,_=>⟨h,fun _ _=>rfl⟩
 |(i,o)::r,s,s1,h,hb=>by
  simp only [w0n,Zf];have hi:i<m1+n:=hb i o (by simp)
  obtain ⟨g1,g2⟩:=WK hn r (Ym s (ρ i) (o.ren ρ)) (Ym s1 i o) (fun j hj=>by
   rw [Zb,Zb];by_cases e:i=j
   ·subst e;simp
   ·have:ρ i≠ρ j:=by
     intro e';have h1:=hn.at_ i hi;have h2:=hn.at_ j hj;rw [e',h2] at h1;simp at h1;exact e h1.symm
    simp only [e,this,w0x];exact h j hj) (fun j o hj=>hb j o (by simp [hj]))
  refine ⟨g1,fun k hk=>?_⟩;rw [g2 k hk,Zb]
  have:ρ i≠k:=by rintro rfl;rw [hn.at_ i hi] at hk;cases hk
  simp [this]
theorem z6.ren {out:Out} (hn:Rn ρ σ m1 m out.n) {f:FuncId} {vs:List V} {sto s1:List (Nat×zd)} (h:z6 P f vs ⟨s1,m1⟩ out) (hb:V.bds m1 vs=true) (hs:Z1 m1 s1=true)
  (hsub:∀j,j<m1->zj sto (ρ j)=(zj s1 j).map (zd.ren ρ)) (hob:∀k o,(k,o)∈out.ob->k<m1+out.n/\(zj s1 k≠none∨m1<=k)):
  wc P f (V.wb ρ vs) m sto {v:=out.v.ren ρ,ob:=out.ob.map fun e=>(ρ e.1,e.2.ren ρ),n:=out.n,rd:=true}:=by
 refine ⟨h.1,fun k o hk=>?_,fun Λ args hr hle hfree hsz hargs=>?_⟩
 ·simp only [w0m] at hk;obtain ⟨⟨j,o'⟩,hj,e⟩:=hk;simp at e;obtain ⟨rfl,rfl⟩:=e;obtain ⟨h1,h2⟩:=hob j o' hj;by_cases hj1:j<m1
  ·left
   rcases h2 with h2|h2
   ·rw [hsub j hj1];simpa using h2
   ·omega
  ·right;have:=hn.new j (by omega) h1;show m<=ρ j/\ρ j<m+out.n;omega
 simp only at hle hfree
 have hfresh:∀{b k j:Nat},σ k=some j->(Λ.lab b= .obj k∨∃fr,Λ.lab b= .arr k fr)->j<m1:=by
  intro b k j hk hl;obtain ⟨e,hj⟩:=hn.inv k j hk
  rcases w1a j m1 with h|h
  ·exact h
  ·have e2:=hn.new j h hj;have:=(hfree k (by omega) (by omega)).2.1
   rcases hl with hl|⟨fr,hl⟩
   ·exact absurd hl (this.obj b)
   ·exact absurd hl (this.arr b fr)
 have hfreshF:∀{b k j:Nat},σ k=some j->((∃i,Λ.lab b= .fob k i)∨∃i fr,Λ.lab b= .far k i fr)->j<m1:=by
  intro b k j hk hl;obtain ⟨e,hj⟩:=hn.inv k j hk
  rcases w1a j m1 with h|h
  ·exact h
  ·have e2:=hn.new j h hj;have:=(hfree k (by omega) (by omega)).2.1
   rcases hl with ⟨i,hl⟩|⟨i,fr,hl⟩
   ·exact absurd hl (this.fob b i)
   ·exact absurd hl (this.far b i fr)
 have hr1:zT (Λ.view ρ σ m1) ⟨s1,m1⟩:=by
  refine ⟨fun j o hj=>?_,fun b b' j h1 h2=>?_,fun b hb=>?_,fun b j hb=>?_,fun j hj=>?_,fun b b' j i h1 h2=>?_,fun b j hb=>?_,fun j i hj=>?_⟩
  ·obtain ⟨h1,h2⟩:=Wu hs j o hj;refine ⟨h1,?_⟩;have hro:=(hr.sto (ρ j) (o.ren ρ) (by rw [hsub j h1,hj];rfl)).2;have hs':=hn.at_ j (by omega)
   cases o with
   |cells cs=>
    obtain ⟨b,arr,e,e1,e2,e3,e4⟩:=hro;rw [V.zS] at e3 e4
    exact ⟨b,arr,e,ZN e1 hs',e2,by simpa using e3,fun i v c a1 a2=>(e4 i v (c.ren ρ) a1 (by simp [a2])).view hn rfl (V.Zj (by simpa [zd.bd] using h2) i c a2)⟩
   |map kag es sx=>
    obtain ⟨b,ents,clock,e1,e2,e3⟩:=hro
    refine ⟨b,ents,clock,ZN e1 hs',e2,⟨by simpa using e3.size,fun i e kv a1 a2=>?_,e3.born,e3.apart,e3.known⟩⟩
    obtain ⟨g1,g2⟩:=e3.at_ i e (kv.1,kv.2.ren ρ) a1 (by simp [a2]);exact ⟨g1.ZX fun _ _ h=>h.view,g2.view hn Z (V.Zj (by simpa [zd.bd] using h2) i kv.2 (by simp [a2]))⟩
   |arr n=>
    have hro':Λ.fro (ρ j)=n:=hro;unfold qd;simp [L.view,h1,hro']
   |iter q s seen c=>
    have hq:q<m1:=by simpa [zd.bd] using h2
    obtain ⟨b,bm,e1,e2,e3,e4⟩:=hro;exact ⟨b,bm,ZN e1 hs',e2,ZN e3 (hn.at_ q (by omega)),hq⟩
   |gro ver cs=>
    obtain ⟨q0,q⟩:=hro;rw [V.zS] at q
    refine ⟨by simpa [L.view,h1] using q0,?_⟩
    rcases q with ⟨e1,e2⟩|⟨b,arr,e,e1,e2,e3,e4⟩
    ·refine .inl ⟨by simpa using e1,fun b i hb=>?_⟩
     obtain ⟨k,a1,a2⟩:=Z9 hb;have:=(hn.inv _ _ a2).1;subst this;exact e2 b i a1
    ·exact .inr ⟨b,arr,e,z1G hn e1 hs',e2,by simpa using e3,fun i v c a1 a2=>(e4 i v (c.ren ρ) a1 (by simp [a2])).view hn rfl (V.Zj (by simpa [zd.bd] using h2) i c a2)⟩
   |yL os=>
    obtain ⟨q0,q⟩:=hro;refine ⟨fun b i hb=>?_,fun i cs hi=>?_⟩
    ·obtain ⟨k,a1,a2⟩:=Z9 hb;have:=(hn.inv _ _ a2).1;subst this;simpa using q0 b i a1
    ·obtain ⟨b,arr,e,e1,e2,e3,e4⟩:=q i (V.wb ρ cs) (by simp [hi]);rw [V.zS] at e3 e4
     have hbd:V.bds m1 cs=true:=by
      simp only [zd.bd,w0i] at h2;exact h2 cs (zMG hi)
     exact ⟨b,arr,e,ql e1 hs',e2,by simpa using e3,fun i v c a1 a2=>(e4 i v (c.ren ρ) a1 (by simp [a2])).view hn rfl (V.Zj hbd i c a2)⟩
   |y8 ns=>intro i;have:=hro i;simpa [L.view,h1] using this
   |WN kag I=>
    obtain ⟨b,ents,clock,e1,e2,e3,e4,e5⟩:=hro;refine ⟨b,ents,clock,ZN e1 hs',e2,e3,e4,fun i e hi=>?_⟩;obtain ⟨cs,v,q1,q2,q3⟩:=e5 i e hi;exact ⟨cs,v,q1.ZX fun _ _ h=>h.view,q2.view,q3⟩
  ·obtain ⟨k,a1,a2⟩:=Y4 h1;obtain ⟨k',b1,b2⟩:=Y4 h2;have:=(hn.inv _ _ a2).1;have:=(hn.inv _ _ b2).1
   subst_vars
   exact hr.inj b b' _ a1 b1
  ·exact QD (hr.new b hb)
  ·rcases hb with hb|⟨fr,hb⟩
   ·obtain ⟨k,a1,a2⟩:=Y4 hb;exact hfresh a2 (.inl a1)
   ·obtain ⟨k,a1,a2⟩:=z1p hb;exact hfresh a2 (.inr ⟨_,a1⟩)
  ·have hj':m1<=j:=hj;simp [L.view];omega
  ·obtain ⟨k,a1,a2⟩:=Z9 h1;obtain ⟨k',b1,b2⟩:=Z9 h2;have:=(hn.inv _ _ a2).1;have:=(hn.inv _ _ b2).1
   subst_vars
   exact hr.YX b b' _ i a1 b1
  ·rcases hb with ⟨i,hb⟩|⟨i,fr,hb⟩
   ·obtain ⟨k,a1,a2⟩:=Z9 hb;exact hfreshF a2 (.inl ⟨_,a1⟩)
   ·obtain ⟨k,a1,a2⟩:=z1K hb;exact hfreshF a2 (.inr ⟨_,_,a1⟩)
  ·have hj':m1<=j:=hj;simp [L.view];omega
 refine (h.2 (Λ.view ρ σ m1) args hr1 Z (by rw [hsz,V.zS];simp) fun j v y h1 h2=>(hargs j v (y.ren ρ) h1 (by rw [V.zS];simp [h2])).view hn Z (V.Zj hb j y h2)).mono fun e w' he=>?_;obtain ⟨v,Λ',rfl,rfl,k1,k2,k3,k4⟩:=he;simp only at k2 k3
 have hlt:∀{b:Nat},Λ.hid σ b=true->b<Λ.w.heap.size:=by
  intro b hh
  rcases w1a b Λ.w.heap.size with h|h
  ·exact h
  ·unfold L.hid at hh;rw [hr.new b h] at hh;simp at hh
 have hH:∀{b:Nat},Λ.hid σ b=true->(Λ.zt ρ σ Λ').lab b=Λ.lab b:=fun h=>by simp [L.zt,h]
 have hL:∀{b:Nat},Λ.hid σ b=false->(Λ.zt ρ σ Λ').lab b=(Λ'.lab b).ren ρ:=fun h=>by simp [L.zt,h]
 have hheap:∀{b:Nat},Λ.hid σ b=true->∃fr,Λ'.lab b= .fix (some fr)/\Λ'.w.heap[b]?=Λ.w.heap[b]?/\((∃k,Λ.lab b= .obj k/\σ k=none/\fr=0)∨(∃k,Λ.lab b= .arr k fr/\σ k=none)∨(∃k i,Λ.lab b= .fob k i/\σ k=none/\fr=0)∨∃k i,Λ.lab b= .far k i fr/\σ k=none):=by
  intro b hh;obtain ⟨fr,e1,e2⟩:=z8m (ρ:=ρ) (m1:=m1) hh;obtain ⟨g1,g2⟩:=k1.fr.fix b (hlt hh) _ e1;exact ⟨fr,g1,g2,e2⟩
 have hvis:∀{b k j:Nat},σ k=some j->(Λ.lab b= .obj k∨∃fr,Λ.lab b= .arr k fr)->Λ.hid σ b=false:=by
  intro b k j hk hb;unfold L.hid
  rcases hb with hb|⟨fr,hb⟩<;>rw [hb]<;>simp [hk]
 have hvisF:∀{b k j:Nat},σ k=some j->((∃i,Λ.lab b= .fob k i)∨∃i fr,Λ.lab b= .far k i fr)->Λ.hid σ b=false:=by
  intro b k j hk hb;unfold L.hid
  rcases hb with ⟨i,hb⟩|⟨i,fr,hb⟩<;>rw [hb]<;>simp [hk]
 have hfix:∀{b:Nat} {fr:Option Nat},Λ.lab b= .fix fr->Λ.hid σ b=false:=by
  intro b fr hb;unfold L.hid;rw [hb]
 have rdren:∀{b o:Nat} {l:Nat->Lab},l b=(Λ'.lab b).ren ρ->Rd Λ'.lab b o->Rd l b o:=by
  intro b o l e h;unfold Rd at*;rw [e]
  cases hl:Λ'.lab b<;>rw [hl] at h<;>simp only [Lab.ren]<;>exact h
 have hinvF:∀{b k j i:Nat},σ k=some j->(Λ.zt ρ σ Λ').lab b= .fob k i->Λ'.lab b= .fob j i:=by
  intro b k j i hk hb
  cases hh:Λ.hid σ b with
  |true=>rw [hH hh] at hb;have:=hvisF hk (.inl ⟨i,hb⟩);rw [hh] at this;cases this
  |false=>
   rw [hL hh] at hb
   cases hl:Λ'.lab b<;>rw [hl] at hb<;>simp [Lab.ren] at hb
   rename_i j' i';obtain ⟨e1,rfl⟩:=hb;have hb1:=k3.Yu b j' (.inl ⟨_,hl⟩);have hb2:=hn.at_ j' (by omega);rw [e1,hk] at hb2;simp at hb2;subst hb2;rfl
 have hkp:Kp Λ (Λ.zt ρ σ Λ'):=by
  refine ⟨⟨k1.fr.os,k1.fr.tape,k1.fr.output,k1.fr.size,fun b hb fr hl=>?_,fun b hb k fr hl o ho=>?_,fun b hb k i fr hl o ho=>?_⟩,w09 _,fun b k _ hl=>?_,fun b k n _ hb hl hf=>?_,fun k hk=>?_,fun b k i _ hl=>?_,fun b k i n _ hb hl hf=>?_,fun k i hk=>?_,fun b k i hk hp hf hl=>?_⟩
  ·obtain ⟨g1,g2⟩:=k1.fr.fix b hb fr (QD hl)
   exact ⟨by rw [hL (hfix hl),g1];rfl,g2⟩
  ·cases hk:σ k with
   |none=>
    have hh:Λ.hid σ b=true:=by unfold L.hid;rw [hl];simp [hk]
    obtain ⟨fr',g1,g2,g3⟩:=hheap hh
    exact ⟨by unfold Rd;rw [hH hh,hl];exact ho,cell?_heap g2⟩
   |some j=>
    have hh:=hvis hk (.inr ⟨_,hl⟩);obtain ⟨g1,g2⟩:=k1.fr.arr b hb j fr (qo hl hk) o ho;exact ⟨rdren (hL hh) g1,g2⟩
  ·cases hk:σ k with
   |none=>
    have hh:Λ.hid σ b=true:=by unfold L.hid;rw [hl];simp [hk]
    obtain ⟨fr',g1,g2,g3⟩:=hheap hh
    exact ⟨by unfold Rd;rw [hH hh,hl];exact ho,cell?_heap g2⟩
   |some j=>
    have hh:=hvisF hk (.inr ⟨_,_,hl⟩);obtain ⟨g1,g2⟩:=k1.fr.far b hb j i fr (qv hl hk) o ho;exact ⟨rdren (hL hh) g1,g2⟩
  ·cases hk:σ k with
   |none=>rw [hH (by unfold L.hid;rw [hl];simp [hk])];exact hl
   |some j=>
    rw [hL (hvis hk (.inl hl)),k1.obj b j (hfresh hk (.inl hl)) (ZN hl hk)];simp only [Lab.ren,(hn.inv k j hk).1]
  ·cases hk:σ k with
   |none=>
    have hh:Λ.hid σ b=true:=by unfold L.hid;rw [hl];simp [hk]
    obtain ⟨fr',g1,g2,g3⟩:=hheap hh
    exact ⟨by rw [hH hh];exact hl,g2⟩
   |some j=>
    have hj:=hfresh hk (.inr ⟨_,hl⟩)
    have e1:(Λ.view ρ σ m1).fro j=Λ.fro k:=by simp [L.view,hj,(hn.inv k j hk).1]
    have e2:(Λ.zt ρ σ Λ').fro k=Λ'.fro j:=by simp [L.zt,hk]
    obtain ⟨g1,g2⟩:=k1.own b j n hj hb (qo hl hk) (by rw [←e2,hf,e1])
    exact ⟨by rw [hL (hvis hk (.inr ⟨_,hl⟩)),g1];simp only [Lab.ren,(hn.inv k j hk).1],g2⟩
  ·cases hk':σ k with
   |none=>simp [L.zt,hk']
   |some j=>
    obtain ⟨e1,e2⟩:=hn.inv k j hk';simp only [L.zt,hk'];by_cases hj:j<m1
    ·have:=k1.fro j hj;simpa [L.view,hj,e1] using this
    ·have e3:=hn.new j (by omega) e2;rw [(hfree k (by omega) (by omega)).2.1.fro];omega
  ·cases hk:σ k with
   |none=>
    have hh:Λ.hid σ b=true:=by unfold L.hid;rw [hl];simp [hk]
    obtain ⟨fr',g1,g2,g3⟩:=hheap hh
    exact ⟨by rw [hH hh];exact hl,fun N hN=>by unfold Zl at hN⊢;show (match Λ'.w.heap[b]? with|some (.cells arr _ _)=>some arr.size|_=>none)=_;rw [g2];exact hN⟩
   |some j=>
    obtain ⟨g1,g2⟩:=k1.fob b j i (hfreshF hk (.inl ⟨_,hl⟩)) (ql hl hk)
    exact ⟨by rw [hL (hvisF hk (.inl ⟨_,hl⟩)),g1];simp only [Lab.ren,(hn.inv k j hk).1],g2⟩
  ·cases hk:σ k with
   |none=>
    have hh:Λ.hid σ b=true:=by unfold L.hid;rw [hl];simp [hk]
    obtain ⟨fr',g1,g2,g3⟩:=hheap hh
    exact ⟨by rw [hH hh];exact hl,g2⟩
   |some j=>
    have hj:=hfreshF hk (.inr ⟨_,_,hl⟩)
    have e1:(Λ.view ρ σ m1).frf j i=Λ.frf k i:=by simp [L.view,hj,(hn.inv k j hk).1]
    have e2:(Λ.zt ρ σ Λ').frf k i=Λ'.frf j i:=by simp [L.zt,hk]
    obtain ⟨g1,g2⟩:=k1.far b j i n hj hb (qv hl hk) (by rw [←e2,hf,e1])
    exact ⟨by rw [hL (hvisF hk (.inr ⟨_,_,hl⟩)),g1];simp only [Lab.ren,(hn.inv k j hk).1],g2⟩
  ·cases hk':σ k with
   |none=>simp [L.zt,hk']
   |some j=>
    obtain ⟨e1,e2⟩:=hn.inv k j hk';simp only [L.zt,hk'];by_cases hj:j<m1
    ·have:=k1.frf j i hj;simpa [L.view,hj,e1] using this
    ·have e3:=hn.new j (by omega) e2;rw [(hfree k (by omega) (by omega)).2.1.frf];omega
  ·cases hk':σ k with
   |none=>
    cases hh:Λ.hid σ b with
    |true=>rw [hH hh] at hl;exact hl
    |false=>
     rw [hL hh] at hl
     cases hl':Λ'.lab b<;>rw [hl'] at hl<;>simp [Lab.ren] at hl
     rename_i j' i';have hb1:=k3.Yu b j' (.inl ⟨_,hl'⟩);have hb2:=hn.at_ j' (by omega);rw [hl.1,hk'] at hb2;cases hb2
   |some j=>
    have hb1:=hinvF hk' hl;obtain ⟨e1,e2⟩:=hn.inv k j hk';by_cases hj:j<m1
    ·have e3:(Λ.view ρ σ m1).frf j 0=Λ.frf k 0:=by simp [L.view,hj,e1]
     have e4:(Λ.zt ρ σ Λ').frf k 0=Λ'.frf j 0:=by simp [L.zt,hk']
     obtain ⟨k',a1,a2⟩:=Z9 (k1.z4C b j i hj (by rw [e3];exact hp) (by rw [←e4,hf,e3]) hb1);have:=(hn.inv _ _ a2).1;rw [←this,e1] at a1;exact a1
    ·have e3:=hn.new j (by omega) e2;have:=(hfree k (by omega) (by omega)).2.1.frf 0;omega
 have hobj:∀{b j:Nat},Λ'.lab b= .obj j->(Λ.zt ρ σ Λ').lab b= .obj (ρ j):=by
  intro b k hb
  cases hh:Λ.hid σ b with
  |true=>obtain ⟨fr,g1,_⟩:=hheap hh;rw [g1] at hb;simp at hb
  |false=>rw [hL hh,hb];rfl
 have harr:∀{b j n:Nat},Λ'.lab b= .arr j n->(Λ.zt ρ σ Λ').lab b= .arr (ρ j) n:=by
  intro b k n hb
  cases hh:Λ.hid σ b with
  |true=>obtain ⟨fr,g1,_⟩:=hheap hh;rw [g1] at hb;simp at hb
  |false=>rw [hL hh,hb];rfl
 have hfob:∀{b j i:Nat},Λ'.lab b= .fob j i->(Λ.zt ρ σ Λ').lab b= .fob (ρ j) i:=by
  intro b k i hb
  cases hh:Λ.hid σ b with
  |true=>obtain ⟨fr,g1,_⟩:=hheap hh;rw [g1] at hb;simp at hb
  |false=>rw [hL hh,hb];rfl
 have hfar:∀{b j i n:Nat},Λ'.lab b= .far j i n->(Λ.zt ρ σ Λ').lab b= .far (ρ j) i n:=by
  intro b k i n hb
  cases hh:Λ.hid σ b with
  |true=>obtain ⟨fr,g1,_⟩:=hheap hh;rw [g1] at hb;simp at hb
  |false=>rw [hL hh,hb];rfl
 have hcur:∀{b j:Nat},j<m1+out.n->qu Λ'.lab j b->qu (Λ.zt ρ σ Λ').lab (ρ j) b:=by
  rintro b j hj ⟨i,e1,e2⟩;exact ⟨i,hfob e1,fun b' i' h'=>e2 b' i' (hinvF (hn.at_ j hj) h')⟩
 have hrep:∀{u:Value} {y:T},zI Λ'.lab Λ'.w u y->zI (Λ.zt ρ σ Λ').lab (Λ.zt ρ σ Λ').w u y:=by
  intro u y hy;refine hy.ZX fun b o _ _ hrd=>⟨?_,rfl⟩
  cases hh:Λ.hid σ b with
  |true=>
   obtain ⟨fr,g1,_,g3⟩:=hheap hh;unfold Rd at hrd⊢;rw [g1] at hrd;rw [hH hh]
   rcases g3 with ⟨k,e,_,rfl⟩|⟨k,e,_⟩|⟨k,i,e,_,rfl⟩|⟨k,i,e,_⟩
   ·simp at hrd
   ·rw [e];exact hrd
   ·simp at hrd
   ·rw [e];exact hrd
  |false=>exact rdren (hL hh) hrd
 have hfro:∀{j:Nat},j<m1+out.n->(Λ.zt ρ σ Λ').fro (ρ j)=Λ'.fro j:=by
  intro j hj;simp [L.zt,hn.at_ j hj]
 have hfrf:∀{j i:Nat},j<m1+out.n->(Λ.zt ρ σ Λ').frf (ρ j) i=Λ'.frf j i:=by
  intro j i hj;simp [L.zt,hn.at_ j hj]
 have hρ:∀{j:Nat},j<m1+out.n->ρ j<Λ.nxt:=by
  intro j hj;by_cases h1:j<m1
  ·have:=hn.low j h1;omega
  ·have:=hn.new j (by omega) hj;omega
 have hval:∀{u:Value} {y:V},zr Λ' u y->zr (Λ.zt ρ σ Λ') u (y.ren ρ):=by
  intro u y hy
  induction hy with
  |t h=>exact .t (hrep h)
  |zC=>exact .zC
  |@own v k sz xs h hsz hl hn' ho=>
   rw [k2] at hl;refine .own (hrep h) hsz (hρ hl) (by rw [hfro hl];exact hn') fun he=>?_
   rcases ho (by rw [←hfro hl];exact he) with ho|⟨b,cap,arr,e,hv,hb',hh,hc,hn'⟩
   ·exact .inl ho
   ·exact .inr ⟨b,cap,arr,e,hv,harr hb',hh,hc,hn'⟩
  |slc hl hc h=>exact .slc (hρ (by omega)) hc (hobj h)
  |agg hs _ ih=>
   refine .agg (by rw [V.zS];simpa using hs) fun j v c h1 h2=>?_;rw [V.zS,w0c,w06] at h2;obtain ⟨c',h3,rfl⟩:=h2;exact ih j v c' h1 h3
  |tup hs _ ih=>
   refine .tup (by rw [V.zS];simpa using hs) fun j v c h1 h2=>?_;rw [V.zS,w0c,w06] at h2;obtain ⟨c',h3,rfl⟩:=h2;exact ih j v c' h1 h3
  |ptr hl h=>exact .ptr (hρ (by omega)) (hobj h)
  |mp hl h=>exact .mp (hρ (by omega)) (hobj h)
  |fn hs h=>
   refine .fn (by simpa using hs) fun j v c h1 h2=>?_;rw [w0c,w06] at h2;obtain ⟨c',h3,rfl⟩:=h2;obtain ⟨b,e1,e2,e3⟩:=h j v c' h1 h3;exact ⟨b,e1,hobj e2,hρ (by omega)⟩
  |gd _ h' ih=>exact .gd ih h'
  |top=>exact .top
  |ub h h'=>exact .ub h h'
  |fpt hl h=>exact .fpt (hρ (by omega)) (hfob h)
  |gpt hv hl hm h=>
   rw [k2] at hl;refine .gpt hv (hρ hl) (by rw [hfrf hl];exact hm) fun he=>?_;obtain ⟨b,e1,e2⟩:=h (by rw [←hfrf hl];exact he);exact ⟨b,e1,hcur hl e2⟩
  |gsl hv hl hm h=>
   rw [k2] at hl;refine .gsl hv (hρ hl) (by rw [hfrf hl];exact hm) fun he=>?_
   rcases h (by rw [←hfrf hl];exact he) with h|⟨b,cap,N,hv,hc,e2,hN,he'⟩
   ·exact .inl h
   ·exact .inr ⟨b,cap,N,hv,hc,hcur hl e2,hN,he'⟩
  |fow h hsz hl hm ho=>
   rw [k2] at hl;refine .fow (hrep h) hsz (hρ hl) (by rw [hfrf hl];exact hm) fun he=>?_
   rcases ho (by rw [←hfrf hl];exact he) with ho|⟨b,cap,arr,e,hv,hb',hh,hc,hn'⟩
   ·exact .inl ho
   ·exact .inr ⟨b,cap,arr,e,hv,hfar hb',hh,hc,hn'⟩
 have hname:∀{b k:Nat},Λ.hid σ b=true->((Λ.zt ρ σ Λ').lab b= .obj k∨∃n,(Λ.zt ρ σ Λ').lab b= .arr k n)->σ k=none/\(Λ.lab b= .obj k∨∃n,Λ.lab b= .arr k n):=by
  intro b k hh hb;rw [hH hh] at hb;refine ⟨?_,hb⟩
  unfold L.hid at hh;rcases hb with hb|⟨n,hb⟩<;>rw [hb] at hh<;>simpa using hh
 have hseen:∀{b k:Nat},Λ.hid σ b=false->((Λ.zt ρ σ Λ').lab b= .obj k∨∃n,(Λ.zt ρ σ Λ').lab b= .arr k n)->∃j,ρ j=k/\j<m1+out.n/\(Λ'.lab b= .obj j∨∃n,Λ'.lab b= .arr j n):=by
  intro b k hh hb;rw [hL hh] at hb
  cases hl:Λ'.lab b with
  |fix fr=>rw [hl] at hb;simp [Lab.ren] at hb
  |obj j=>rw [hl] at hb;simp [Lab.ren] at hb;have:=k3.bnd b j (.inl hl);exact ⟨j,hb,by omega,.inl rfl⟩
  |arr j n=>rw [hl] at hb;simp [Lab.ren] at hb;have:=k3.bnd b j (.inr ⟨n,hl⟩);exact ⟨j,hb,by omega,.inr ⟨n,rfl⟩⟩
  |fob j i=>rw [hl] at hb;simp [Lab.ren] at hb
  |far j i n=>rw [hl] at hb;simp [Lab.ren] at hb
 have hseenF:∀{b k:Nat},Λ.hid σ b=false->((∃i,(Λ.zt ρ σ Λ').lab b= .fob k i)∨∃i n,(Λ.zt ρ σ Λ').lab b= .far k i n)->∃j,ρ j=k/\j<m1+out.n:=by
  intro b k hh hb;rw [hL hh] at hb
  cases hl:Λ'.lab b with
  |fix fr=>rw [hl] at hb;simp [Lab.ren] at hb
  |obj j=>rw [hl] at hb;simp [Lab.ren] at hb
  |arr j n=>rw [hl] at hb;simp [Lab.ren] at hb
  |fob j i=>rw [hl] at hb;simp [Lab.ren] at hb;have:=k3.Yu b j (.inl ⟨i,hl⟩);exact ⟨j,hb,by omega⟩
  |far j i n=>rw [hl] at hb;simp [Lab.ren] at hb;have:=k3.Yu b j (.inr ⟨i,n,hl⟩);exact ⟨j,hb,by omega⟩
 obtain ⟨ag1,ag2⟩:=WK hn out.ob sto s1 (fun j hj=>by
  by_cases h1:j<m1
  ·exact hsub j h1
  ·have e3:=hn.new j (by omega) hj;rw [(hfree (ρ j) (by omega) (by omega)).2.2]
   cases ha:zj s1 j with
   |none=>rfl
   |some o=>have:=(Wu hs j o ha).1;omega) (fun j o hj=>(hob j o hj).1)
 refine ⟨v,Λ.zt ρ σ Λ',rfl,rfl,hkp,rfl,?_,hval k4,fun k hk _ hcase=>?_⟩
 ·refine ⟨fun k o ho=>?_,fun b b' k h1 h2=>?_,fun b hb=>?_,fun b k hb=>?_,fun k hk=>?_,fun b b' k i h1 h2=>?_,fun b k hb=>?_,fun k i hk=>?_⟩
  ·cases hk:σ k with
   |none=>
    have ho':zj sto k=some o:=by rw [←ag2 k hk];exact ho
    obtain ⟨g1,g2⟩:=hr.sto k o ho'
    refine ⟨g1,g2.mono hkp g1 (fun b hb=>?_) (by simp [L.zt,hk]) (fun b i hb=>?_) (fun b i hb=>?_) (fun i=>by simp [L.zt,hk])⟩
    ·obtain ⟨fr,q1,q2,_⟩:=hheap (b:=b) (by unfold L.hid;rw [hb];simp [hk]);exact q2
    ·obtain ⟨fr,q1,q2,_⟩:=hheap (b:=b) (by unfold L.hid;rw [hb];simp [hk]);exact q2
    ·cases hh:Λ.hid σ b with
     |true=>rw [hH hh] at hb;exact hb
     |false=>obtain ⟨j,e1,e2⟩:=hseenF hh (.inl ⟨i,hb⟩);rw [←e1,hn.at_ j e2] at hk;cases hk
   |some j=>
    obtain ⟨e1,e2⟩:=hn.inv k j hk;subst e1;have ho':zj (Zf sto (out.ob.map fun e=>(ρ e.1,e.2.ren ρ))) (ρ j)=some o:=ho;rw [ag1 j e2,w06] at ho';obtain ⟨o1,a1,rfl⟩:=ho';obtain ⟨g1,g2⟩:=k3.sto j o1 a1;refine ⟨hρ e2,?_⟩
    cases o1 with
    |cells cs=>
     obtain ⟨b,arr,e,e1,e2,e3,e4⟩:=g2
     refine ⟨b,arr,e,hobj e1,e2,by rw [V.zS];simpa using e3,fun i v c a1 a2=>?_⟩
     rw [V.zS,w0c,w06] at a2;obtain ⟨c',a3,rfl⟩:=a2;exact hval (e4 i v c' a1 a3)
    |map kag es sx=>
     obtain ⟨b,ents,clock,e1,e2,e3⟩:=g2
     refine ⟨b,ents,clock,hobj e1,e2,⟨by simpa using e3.size,fun i e kv a1 a2=>?_,e3.born,e3.apart,e3.known⟩⟩
     rw [w0c,w06] at a2;obtain ⟨kv',a3,rfl⟩:=a2;obtain ⟨q1,q2⟩:=e3.at_ i e kv' a1 a3;exact ⟨q1.ZX fun _ _ h=>hrep h,hval q2⟩
    |arr n'=>
     unfold qd at*;simp only [zd.ren];rw [hfro e2];exact g2
    |iter q s seen c=>
     obtain ⟨b,bm,a1,a2,a3,a4⟩:=g2;exact ⟨b,bm,hobj a1,a2,hobj a3,hρ (by omega)⟩
    |gro ver cs=>
     obtain ⟨q0,q⟩:=g2
     refine ⟨by rw [hfrf e2];exact q0,?_⟩
     rw [V.zS]
     rcases q with ⟨e3,e4⟩|⟨b,arr,e,e3,e4,e5,e6⟩
     ·exact .inl ⟨by simp [e3],fun b i hb=>e4 b i (hinvF (hn.at_ j e2) hb)⟩
     ·refine .inr ⟨b,arr,e,hcur e2 e3,e4,by simpa using e5,fun i v c a1 a2=>?_⟩
      rw [w0c,w06] at a2;obtain ⟨c',a3,rfl⟩:=a2;exact hval (e6 i v c' a1 a3)
    |yL os=>
     obtain ⟨q0,q⟩:=g2
     refine ⟨fun b i hb=>by simpa using q0 b i (hinvF (hn.at_ j e2) hb),fun i cs hi=>?_⟩
     rw [w0c,w06] at hi;obtain ⟨cs',hi,rfl⟩:=hi;obtain ⟨b,arr,e,e3,e4,e5,e6⟩:=q i cs' hi
     refine ⟨b,arr,e,hfob e3,e4,by rw [V.zS];simpa using e5,fun i v c a1 a2=>?_⟩
     rw [V.zS,w0c,w06] at a2;obtain ⟨c',a3,rfl⟩:=a2;exact hval (e6 i v c' a1 a3)
    |y8 ns=>exact fun i=>(hfrf e2).trans (g2 i)
    |WN kag I=>
     obtain ⟨b,ents,clock,e3,e4,e5,e6,e7⟩:=g2;refine ⟨b,ents,clock,hobj e3,e4,e5,e6,fun i e hi=>?_⟩;obtain ⟨cs,v,q1,q2,q3⟩:=e7 i e hi;exact ⟨cs,v,q1.ZX fun _ _ h=>hrep h,hrep q2,q3⟩
  ·cases hh:Λ.hid σ b with
   |true=>
    obtain ⟨q1,q2⟩:=hname hh (.inl h1)
    cases hh':Λ.hid σ b' with
    |true=>
     rw [hH hh] at h1;rw [hH hh'] at h2;exact hr.inj b b' k h1 h2
    |false=>
     obtain ⟨j,e1,e2,_⟩:=hseen hh' (.inl h2);rw [←e1,hn.at_ j e2] at q1;cases q1
   |false=>
    obtain ⟨j,e1,e2,_⟩:=hseen hh (.inl h1)
    cases hh':Λ.hid σ b' with
    |true=>
     obtain ⟨q1,_⟩:=hname hh' (.inl h2);rw [←e1,hn.at_ j e2] at q1;cases q1
    |false=>
     rw [hL hh] at h1;rw [hL hh'] at h2
     cases hl:Λ'.lab b<;>rw [hl] at h1<;>simp [Lab.ren] at h1
     cases hl':Λ'.lab b'<;>rw [hl'] at h2<;>simp [Lab.ren] at h2
     rename_i j1 j2;have b1:=k3.bnd b j1 (.inl hl);have b2:=k3.bnd b' j2 (.inl hl');have c1:=hn.at_ j1 (by omega);have c2:=hn.at_ j2 (by omega);rw [h1] at c1;rw [h2,c1] at c2;simp at c2;subst c2;exact k3.inj b b' j1 hl hl'
  ·have hge:Λ.w.heap.size<=b:=w0o k1.fr.size hb;rw [hL (hfix (hr.new b hge)),k3.new b hb];rfl
  ·show k<Λ.nxt
   cases hh:Λ.hid σ b with
   |true=>exact hr.bnd b k (hname hh hb).2
   |false=>obtain ⟨j,rfl,e2,_⟩:=hseen hh hb;exact hρ e2
  ·have hk':Λ.nxt<=k:=hk
   cases hs:σ k with
   |none=>simp only [L.zt,hs];exact hr.frz k hk'
   |some j=>obtain ⟨rfl,e2⟩:=hn.inv k j hs;have:=hρ e2;omega
  ·cases hk:σ k with
   |some j=>exact k3.YX b b' j i (hinvF hk h1) (hinvF hk h2)
   |none=>
    have hd:∀{b:Nat},(Λ.zt ρ σ Λ').lab b= .fob k i->Λ.lab b= .fob k i:=by
     intro b hb
     cases hh:Λ.hid σ b with
     |true=>rw [hH hh] at hb;exact hb
     |false=>obtain ⟨j,e1,e2⟩:=hseenF hh (.inl ⟨i,hb⟩);rw [←e1,hn.at_ j e2] at hk;cases hk
    exact hr.YX b b' k i (hd h1) (hd h2)
  ·show k<Λ.nxt
   cases hh:Λ.hid σ b with
   |true=>rw [hH hh] at hb;exact hr.Yu b k hb
   |false=>obtain ⟨j,rfl,e2⟩:=hseenF hh hb;exact hρ e2
  ·have hk':Λ.nxt<=k:=hk
   cases hs:σ k with
   |none=>simp only [L.zt,hs];exact hr.z2g k i hk'
   |some j=>obtain ⟨rfl,e2⟩:=hn.inv k j hs;have:=hρ e2;omega
 ·have hge:m+out.n<=k:=by
   rcases hcase with h|⟨_,h⟩
   ·exact h
   ·cases h
  have hs0:σ k=none:=by
   cases hs:σ k with
   |none=>rfl
   |some j=>
    obtain ⟨rfl,e2⟩:=hn.inv k j hs;by_cases h1:j<m1
    ·have:=hn.low j h1;omega
    ·have:=hn.new j (by omega) e2;omega
  refine ⟨fun b hb=>?_,fun b n hb=>?_,by simp only [L.zt,hs0];exact hk.fro,fun b i hb=>?_,fun b i n hb=>?_,fun i=>by simp only [L.zt,hs0];exact hk.frf i⟩
  ·cases hh:Λ.hid σ b with
   |true=>rw [hH hh] at hb;exact hk.obj b hb
   |false=>obtain ⟨j,e1,e2,_⟩:=hseen hh (.inl hb);rw [←e1,hn.at_ j e2] at hs0;cases hs0
  ·cases hh:Λ.hid σ b with
   |true=>rw [hH hh] at hb;exact hk.arr b n hb
   |false=>obtain ⟨j,e1,e2,_⟩:=hseen hh (.inr ⟨n,hb⟩);rw [←e1,hn.at_ j e2] at hs0;cases hs0
  ·cases hh:Λ.hid σ b with
   |true=>rw [hH hh] at hb;exact hk.fob b i hb
   |false=>obtain ⟨j,e1,e2⟩:=hseenF hh (.inl ⟨i,hb⟩);rw [←e1,hn.at_ j e2] at hs0;cases hs0
  ·cases hh:Λ.hid σ b with
   |true=>rw [hH hh] at hb;exact hk.far b i n hb
   |false=>obtain ⟨j,e1,e2⟩:=hseenF hh (.inr ⟨i,n,hb⟩);rw [←e1,hn.at_ j e2] at hs0;cases hs0
mutual
theorem V.z1W:∀v:V,v.ren id=v
 | .t x=>rfl
 | .zC=>rfl
 | .top=>rfl
 | .own k sz xs=>rfl
 | .slc k o l s=>rfl
 | .ptr k o=>rfl
 | .mp k=>rfl
 | .fn f cs=>by simp [V.ren]
 | .agg cs=>by simp [V.ren,V.qR cs]
 | .tup cs=>by simp [V.ren,V.qR cs]
 | .gd c x=>by simp [V.ren,V.z1W x]
 | .ub c d=>rfl
 | .fpt k i o=>rfl
 | .gpt k v o=>rfl
 | .gsl k v o l s=>rfl
 | .fow k i s xs=>rfl
theorem V.qR:∀cs:List V,V.wb id cs=cs
 |[]=>rfl
 |x::r=>by simp [V.wb,V.z1W x,V.qR r]
end
theorem zd.z1W:∀o:zd,o.ren id=o
 | .cells cs=>by simp [zd.ren,V.qR]
 | .map kag es st=>by
  simp only [zd.ren,zd.map.injEq,true_and,and_true]
  exact (w2d fun e _=>by rw [V.z1W];rfl).trans (List.map_id _)
 | .arr n=>rfl
 | .iter q s seen c=>rfl
 | .gro v cs=>by simp [zd.ren,V.qR]
 | .yL os=>by simp [zd.ren,show V.wb id=id from funext V.qR]
 | .y8 ns=>rfl
 | .WN a I=>rfl
theorem z6.wide {f:FuncId} {vs:List V} {x:V} {m:Nat} {sto:List (Nat×zd)} (h:z6 P f vs ⟨sto,m⟩ {v:=x,rd:=true}) (hb:V.bds m vs=true) (hs:Z1 m sto=true):FnL P f vs m sto {v:=x,rd:=true}:=by
 intro s hk
 have hrn:Rn id (fun k=>if k<m then some k else none) m m 0:=by
  refine ⟨fun k j h=>?_,fun j hj=>?_,fun j hj=>hj,fun j h1 h2=>?_⟩
  ·by_cases hkm:k<m
   ·simp only [w0e hkm,w00] at h;subst h;exact ⟨rfl,by omega⟩
   ·simp only [w0g hkm] at h;cases h
  ·exact w0e (by simpa using hj)
  ·omega
 have:=z6.ren (sto:=s) (P:=P) (out:={v:=x,rd:=true}) hrn h hb hs (fun j hj=>by
  rw [id,hk j hj]
  cases zj sto j with
  |none=>rfl
  |some o=>simp [zd.z1W]) (fun k o hk=>by simp at hk)
 rw [V.qR,V.z1W] at this;exact this
theorem zcj {f:FuncId} {vs:List V} {x:V} {base:Nat} {sto:List (Nat×zd)} {K:Out->Prop} (h:z6 P f vs ⟨sto,base⟩ {v:=x,rd:=true}) (hb:V.bds base vs=true) (hs:Z1 base sto=true) (hk:K {v:=x,rd:=true}):z0d P f vs base sto K:=
 ⟨_,by simp only [w17];exact h.wide hb hs,hk⟩
end
end Go.GB
namespace Go.GB
def q8 {ρ:Type} (n:Nat) (K:Nat->ρ):ρ:=
 match n with
 |0=>K 0|1=>K 1|2=>K 2|3=>K 3|4=>K 4|5=>K 5|6=>K 6|7=>K 7|8=>K 8|9=>K 9|10=>K 10|11=>K 11|12=>K 12|13=>K 13|14=>K 14|15=>K 15
 |16=>K 16|17=>K 17|18=>K 18|19=>K 19|20=>K 20|21=>K 21|22=>K 22|23=>K 23|24=>K 24|25=>K 25|26=>K 26|27=>K 27|28=>K 28|29=>K 29|30=>K 30|n=>K n
theorem wq {ρ:Type} (n:Nat) (K:Nat->ρ):q8 n K=K n:=by
 unfold q8;split<;>rfl
inductive It where
 |c (a:zL)
 |blk (id:Nat)
 |lp (a:zL)
section
variable {P:Program} {n m:Nat} {R:St->Prop}
def ZE (P:Program) (n m:Nat) (R:St->Prop):List It->YZ->St->Prop
 |[],.exit _,_=>False
 |[],_,st=>R st
 | .c a::k,.normal,st=>Sat P n m a st (ZE P n m R k)
 | .c _::k,e,st=>ZE P n m R k e st
 | .blk id::k,.exit id',st=>if id'=id then ZE P n m R k .normal st else ZE P n m R k (.exit id') st
 | .blk _::k,e,st=>ZE P n m R k e st
 | .lp a::k,.normal,st=>z4E P n m a st (ZE P n m R k)
 | .lp _::k,e,st=>ZE P n m R k e st
def Run (P:Program) (n m:Nat) (R:St->Prop) (k:List It) (st:St):Prop:=ZE P n m R k .normal st
theorem qz:∀(k:List It) (st:St),ZE P n m R k .ret st=R st
 |[],st=>rfl
 | .c a::k,st=>by simp only [ZE];exact qz k st
 | .blk a::k,st=>by simp only [ZE];exact qz k st
 | .lp a::k,st=>by simp only [ZE];exact qz k st
def z18 (id:Nat):List It->Option (List It)
 |[]=>none
 | .blk i::k=>bif Nat.beq id i then some k else z18 id k
 | .c _::k=>z18 id k
 | .lp _::k=>z18 id k
theorem z1w {id:Nat} {st:St}:∀{k k':List It},z18 id k=some k'->Run P n m R k' st->ZE P n m R k (.exit id) st
 | .c _::k,k',h,hr=>by simp only [ZE];exact z1w (by simpa [z18] using h) hr
 | .lp _::k,k',h,hr=>by simp only [ZE];exact z1w (by simpa [z18] using h) hr
 | .blk i::k,k',h,hr=>by
  simp only [z18] at h;simp only [ZE];by_cases e:id=i
  ·subst e;simp at h;subst h;simp only [w17];exact hr
  ·have hb:Nat.beq id i=false:=by
    cases hb:Nat.beq id i with
    |false=>rfl
    |true=>exact absurd (w10 hb) e
   rw [hb] at h;simp only [e,w0x];exact z1w h hr
def ZW:Nat->List It->List It
 |0,k=>k
 |f+1,.c (.seq a b)::k=>ZW f (.c a:: .c b::k)
 |f+1,.c (.block id a)::k=>ZW f (.c a:: .blk id::k)
 |f+1,.c .skip::k=>ZW f k
 |f+1,.c (.scope a)::k=>ZW f (.c a::k)
 |f+1,.c .lbl::k=>ZW f k
 |f+1,.blk _::k=>ZW f k
 |_+1,.c .ret::_=>[]
 |f+1,.c (.exit id)::k=>match z18 id k with|some k'=>ZW f k'|none=> .c (.exit id)::k
 |_+1,k=>k
theorem Run.adv:∀(f:Nat) {k k':List It} {st:St},ZW f k=k'->Run P n m R k' st->Run P n m R k st
 |0,k,k',st,h,hr=>by simp only [Go.GB.ZW] at h;subst h;exact hr
 |f+1,[],k',st,h,hr=>by simp only [Go.GB.ZW] at h;subst h;exact hr
 |f+1,.lp a::k,k',st,h,hr=>by simp only [Go.GB.ZW] at h;subst h;exact hr
 |f+1,.blk id::k,k',st,h,hr=>by
  simp only [Go.GB.ZW] at h;have:=Run.adv f h hr;simpa only [Run,ZE] using this
 |f+1,.c a::k,k',st,h,hr=>by
  cases a with
  |seq a b=>
   simp only [Go.GB.ZW] at h;have:=Run.adv f h hr;simp only [Run,ZE] at this⊢;refine Sat.seq (this.mono fun e st' he=>?_)
   cases e with
   |normal=>simpa only [ZE,z2H] using he
   |exit id=>simpa only [ZE,z2H] using he
   |ret=>simpa only [ZE,z2H] using he
  |block id a=>
   simp only [Go.GB.ZW] at h;have:=Run.adv f h hr;simp only [Run,ZE] at this⊢;refine Sat.block (this.mono fun e st' he=>?_)
   cases e with
   |normal=>simpa only [ZE,z7x] using he
   |exit id=>simpa only [ZE,z7x] using he
   |ret=>simpa only [ZE,z7x] using he
  |skip=>
   simp only [Go.GB.ZW] at h;have:=Run.adv f h hr;exact Sat.skip this
  |lbl=>
   simp only [Go.GB.ZW] at h;have:=Run.adv f h hr;exact Sat.lbl this
  |scope a=>
   simp only [Go.GB.ZW] at h;have:=Run.adv f h hr;exact Sat.scope this
  |ret=>
   simp only [Go.GB.ZW] at h;subst h;refine Sat.ret ?_;rw [qz];exact hr
  |exit id=>
   simp only [Go.GB.ZW] at h
   cases hp:z18 id k with
   |none=>rw [hp] at h;subst h;exact hr
   |some k2=>
    rw [hp] at h;exact Sat.exit (z1w hp (Run.adv f h hr))
  |region d o a l=>simp only [Go.GB.ZW] at h;subst h;exact hr
  |cond z a b=>simp only [Go.GB.ZW] at h;subst h;exact hr
  |loop c=>simp only [Go.GB.ZW] at h;subst h;exact hr
def Mid (P:Program) (n m:Nat) (R:St->Prop) (draw:Bool) (all:List AO) (after:List (List Nat)) (live:List Nat) (k:List It) (b:Nat) (fl:List (Bool×Bool)) (ops:List AO) (st:St):Prop:=
 evR P b st ops fl.reverse fun b st' fl=>z5e draw all after fl st'.env/\Run P n m R k (z2B live b st')
theorem Run.region {b:Nat} {k k':List It} {draw:Bool} {ops:List AO} {after:List (List Nat)} {live:List Nat} {st:St} (hk:ZW 200 k= .c (.region draw ops after live)::k') (hb:q8 st.s.nxt some=some b) (h:Mid P n m R draw ops after live k' b [] ops st):Run P n m R k st:=
 Run.adv 200 hk (Sat.region (by rw [wq] at hb;simp at hb;subst hb;exact h))
theorem Run.cond {k k':List It} {z:Ar} {a b:zL} {st:St} {t:Bool} (hk:ZW 200 k= .c (.cond z a b)::k') (hz:z.v st= .t (.bool t)) (h1:t=true->Run P n m R (.c a::k') st) (h2:t=false->Run P n m R (.c b::k') st):Run P n m R k st:=
 Run.adv 200 hk (Sat.ite hz h1 h2)
theorem Run.zf {k k':List It} {z:Ar} {a b:zL} {st:St} {t:Bool} (hk:ZW 200 k= .c (.cond z a b)::k') (hz:z.v st= .t (.bool t)) (ht:t=true) (h1:Run P n m R (.c a::k') st):Run P n m R k st:=
 Run.adv 200 hk (Sat.ite hz (fun _=>h1) (fun h=>by rw [ht] at h;cases h))
theorem Run.ze {k k':List It} {z:Ar} {a b:zL} {st:St} {t:Bool} (hk:ZW 200 k= .c (.cond z a b)::k') (hz:z.v st= .t (.bool t)) (ht:t=false) (h1:Run P n m R (.c b::k') st):Run P n m R k st:=
 Run.adv 200 hk (Sat.ite hz (fun h=>by rw [ht] at h;cases h) (fun _=>h1))
theorem Run.fin {k:List It} {st:St} (hk:ZW 200 k=[]) (h:R st):Run P n m R k st:=Run.adv 200 hk h
theorem Run.loop {k k':List It} {c:zL} {st:St} (hk:ZW 200 k= .c (.loop c)::k') (h:Run P n m R (.lp c::k') st):Run P n m R k st:=
 Run.adv 200 hk (Sat.loop h)
theorem Run.wY {k:List It} {c:zL} {st:St} (h:Run P n m R (.c c:: .lp c::k) st):Run P n m R (.lp c::k) st:=by
 simp only [Run,ZE] at h⊢;refine z4E.wY (Sat.mono h fun e st' he=>?_)
 cases e with
 |normal=>simpa only [ZE,z2H] using he
 |exit id=>simpa only [ZE,z2H] using he
 |ret=>simpa only [ZE,z2H] using he
theorem Run.qT {k k':List It} {c:zL} {st st':St} (j:Nat) (hk:ZW 200 k= .lp c::k') (h:Run P n m R (.lp c::k') st') (h1:Nat.ble m j=true) (h2:Nat.ble j st.s.nxt=true) (h3:Nat.ble j st'.s.nxt=true) (he:LeE j st'.s.nxt st.env st'.env) (hs:LeS j st'.s.nxt st.s.sto st'.s.sto):Run P n m R k st:=
 Run.adv 200 hk (z4E.qT j h (w11 h1) (w11 h2) (w11 h3) he hs)
theorem Run.zhf {k k':List It} {c:zL} {st st':St} (j:Nat) (hk:ZW 200 k= .c c::k') (h:Run P n m R (.c c::k') st') (h1:Nat.ble m j=true) (h2:Nat.ble j st.s.nxt=true) (h3:Nat.ble j st'.s.nxt=true) (he:LeE j st'.s.nxt st.env st'.env) (hs:LeS j st'.s.nxt st.s.sto st'.s.sto):Run P n m R k st:=
 Run.adv 200 hk (Sat.qT j h (w11 h1) (w11 h2) (w11 h3) he hs)
def V.zcL {ρ:Type} (v:V) (K:V->ρ):ρ:=
 match v with
 | .agg cs=>K (.agg cs)
 | .tup cs=>K (.tup cs)
 | .t x=>K (.t x)
 | .zC=>K .zC
 | .own k sz xs=>K (.own k sz xs)
 | .slc k o l s=>K (.slc k o l s)
 | .ptr k o=>K (.ptr k o)
 | .mp k=>K (.mp k)
 | .fn f cs=>K (.fn f cs)
 | .gd c x=>K (.gd c x)
 | .ub c x=>K (.ub c x)
 | .top=>K .top
 | .fpt k i o=>K (.fpt k i o)
 | .gpt k w o=>K (.gpt k w o)
 | .gsl k w o l s=>K (.gsl k w o l s)
 | .fow k i sz xs=>K (.fow k i sz xs)
theorem V.z70 {ρ:Type} (v:V) (K:V->ρ):v.zcL K=K v:=by
 cases v<;>rfl
def qJ {ρ:Type}:List V->(List V->ρ)->ρ
 |[],K=>K []
 |x::r,K=>x.zcL fun x'=>qJ r fun r'=>K (x'::r')
theorem qx {ρ:Type}:∀(l:List V) (K:List V->ρ),qJ l K=K l
 |[],K=>rfl
 |x::r,K=>by simp only [qJ,V.z70];exact qx r _
def V.force {ρ:Type} (v:V) (K:V->ρ):ρ:=
 match v with
 | .agg cs=>qJ cs fun cs'=>K (.agg cs')
 | .tup cs=>qJ cs fun cs'=>K (.tup cs')
 | .t x=>K (.t x)
 | .zC=>K .zC
 | .own k sz xs=>K (.own k sz xs)
 | .slc k o l s=>K (.slc k o l s)
 | .ptr k o=>K (.ptr k o)
 | .mp k=>K (.mp k)
 | .fn f cs=>K (.fn f cs)
 | .gd c x=>K (.gd c x)
 | .ub c x=>K (.ub c x)
 | .top=>K .top
 | .fpt k i o=>K (.fpt k i o)
 | .gpt k w o=>K (.gpt k w o)
 | .gsl k w o l s=>K (.gsl k w o l s)
 | .fow k i sz xs=>K (.fow k i sz xs)
theorem V.force_eq {ρ:Type} (v:V) (K:V->ρ):v.force K=K v:=by
 cases v<;>simp only [V.force,qx]
def z6n {ρ:Type}:Nat->List V->(List (Nat×V)->ρ)->ρ
 |_,[],K=>K []
 |i,x::r,K=>x.force fun x'=>q8 (i+1) fun j=>z6n j r fun e=>K ((i,x')::e)
theorem z5X {ρ:Type}:∀(vs:List V) (i:Nat) (K:List (Nat×V)->ρ),z6n i vs K=K (Qo i vs)
 |[],i,K=>rfl
 |x::r,i,K=>by simp only [z6n,V.force_eq,wq,z5X r,Qo]
theorem z6.run {f:FuncId} {n:Nat} {ac:zL} {rs:List Qh} {vs:List V} {s:S} {out:Out} (hi:z9 P f=some (n,ac.bare,rs)) (hm:P.follows .mixedOrders=true) (hn:Nat.ble vs.length n=true)
  {e:List (Nat×V)} (he:z6n 0 vs some=some e) (h:Run P n s.nxt (z3 s out rs .ret) [.c ac] {env:=e,s:=s}):z6 P f vs s out:=by
 rw [z5X] at he;simp at he;subst he;refine z6.zfG hi hm (w11 hn) (Sat.mono h fun e st he=>?_)
 cases e with
 |normal=>exact he
 |exit id=>exact he.elim
 |ret=>exact he
def z5M {α ρ:Type}:List (Nat×α)->Nat->α->(List (Nat×α)->ρ)->ρ
 |[],d,v,K=>K [(d,v)]
 |(k,x)::r,d,v,K=>bif Nat.beq k d then K ((k,v)::r) else z5M r d v fun r'=>K ((k,x)::r')
theorem z1u {α ρ:Type}:∀(e:List (Nat×α)) (d:Nat) (v:α) (K:List (Nat×α)->ρ),z5M e d v K=K (Ym e d v)
 |[],d,v,K=>rfl
 |(k,x)::r,d,v,K=>by
  simp only [z5M,Ym];by_cases e:k=d
  ·subst e;simp
  ·have hb:Nat.beq k d=false:=by
    cases hb:Nat.beq k d with
    |false=>rfl
    |true=>exact absurd (w10 hb) e
   simp only [hb,cond_false,e,w0x];exact z1u r d v _
def z82 {ρ:Type} (live:List Nat):List (Nat×V)->(List (Nat×V)->ρ)->ρ
 |[],K=>K []
 |(t,x)::r,K=>bif live.any (Nat.beq t) then z82 live r fun r'=>K ((t,x)::r') else z82 live r K
theorem any_beq (live:List Nat) (t:Nat):live.any (Nat.beq t)=live.contains t:=by
 induction live with
 |nil=>rfl
 |cons a r ih=>
  simp only [w1d,List.contains_cons,ih];congr 1;by_cases e:t=a
  ·subst e;simp
  ·have hb:Nat.beq t a=false:=by
    cases hb:Nat.beq t a with
    |false=>rfl
    |true=>exact absurd (w10 hb) e
   simp [hb,e]
theorem qn {ρ:Type} (live:List Nat):∀(e:List (Nat×V)) (K:List (Nat×V)->ρ),z82 live e K=K (WU live e)
 |[],K=>rfl
 |(t,x)::r,K=>by
  simp only [z82,WU,any_beq]
  cases h:live.contains t<;>simp [qn live r]
def setEnv {ρ:Type} (st:St) (d:Option Nat) (v:V) (K:List (Nat×V)->ρ):ρ:=
 match d with
 |some d=>z5M st.env d v K
 |none=>K st.env
theorem Zp {ρ:Type} (st:St) (d:Option Nat) (v:V) (K:List (Nat×V)->ρ):setEnv st d v K=K (match d with|some d=>Ym st.env d v|none=>st.env):=by
 cases d<;>simp only [setEnv,z1u]
def Qm {ρ:Type} (b:Bool) (K:Bool->ρ):ρ:=match b with|true=>K true|false=>K false
theorem Wf {ρ:Type} (b:Bool) (K:Bool->ρ):Qm b K=K b:=by cases b<;>rfl
def St.z6H {ρ:Type} (st:St) (e:List (Nat×V)) (K:St->ρ):ρ:=match st with|⟨_,⟨sto,nx⟩⟩=>K ⟨e,⟨sto,nx⟩⟩
theorem St.ZH {ρ:Type} (st:St) (e:List (Nat×V)) (K:St->ρ):st.z6H e K=K ⟨e,st.s⟩:=rfl
def z9E (gc:Bool) (st:St) (op:AOp):Option (V×List Bool):=
 match op with
 | .pick c (.c (.t (.bool true))) b=>
  match rd gc st c with
  |(.t (.bool cb),p1)=>
   match rd (gc&&!cb) st b with
   |(.t (.bool xb),p3)=>some (.t (.bool (cb||xb)),p1++([]++p3))
   |_=>zk gc st op
  |_=>zk gc st op
 | .pick c a (.c (.t (.bool false)))=>
  match rd gc st c with
  |(.t (.bool cb),p1)=>
   match rd (gc&&cb) st a with
   |(.t (.bool xa),p2)=>some (.t (.bool (cb&&xa)),p1++(p2++[]))
   |_=>zk gc st op
  |_=>zk gc st op
 | .eqb true x y=>
  match rd gc st x with
  |(.t (.bool a),p1)=>
   match rd gc st y with
   |(.t (.bool b),p2)=>some (.t (.bool (!(a==b))),p1++p2)
   |_=>zk gc st op
  |_=>zk gc st op
 | .eqb false x y=>
  match rd gc st x with
  |(.t (.bool a),p1)=>
   match rd gc st y with
   |(.t (.bool b),p2)=>some (.t (.bool (a==b)),p1++p2)
   |_=>zk gc st op
  |_=>zk gc st op
 |op=>zk gc st op
theorem z73 (gc:Bool) (st:St) (op:AOp):z9E gc st op=zk gc st op:=by
 unfold z9E;split
 ·rename_i c b;split
  ·rename_i cb p1 hc;split
   ·rename_i xb p3 hb;simp only [zk,hc,hb];simp only [rd,Ar.v,V.un]
    cases cb<;>rfl
   ·rfl
  ·rfl
 ·rename_i c a _;split
  ·rename_i cb p1 hc;split
   ·rename_i xa p2 ha;simp only [zk,hc,ha];simp only [rd,Ar.v,V.un]
    cases cb<;>rfl
   ·rfl
  ·rfl
 ·split
  ·rename_i h1;split
   ·rename_i h2;simp [zk,h1,h2]
   ·rfl
  ·rfl
 ·split
  ·rename_i h1;split
   ·rename_i h2;simp [zk,h1,h2]
   ·rfl
  ·rfl
 ·rfl
theorem Qi (a:Bool):(!a||(!a||a))=true:=by cases a<;>rfl
theorem Qg (a:Bool):(!a||true)=true:=by cases a<;>rfl
theorem Qk (a b:Bool):(!a||(!(a&&b)||(a&&b)))=true:=by cases a<;>cases b<;>rfl
def z2J (st:St) (d:Option Nat) (op:AOp):Option (List Bool×St×Bool):=
 match z9E true st op with
 |some (v,ps)=>v.force fun v'=>setEnv st d v' fun e=>Qm (Z2 st op) fun l=>st.z6H e fun st'=>some (ps,st',l)
 |none=>none
theorem zd4 {st st':St} {d:Option Nat} {op:AOp} {ps:List Bool} {l:Bool} (h:z2J st d op=some (ps,st',l)):
  ∃v,zk true st op=some (v,ps)/\st'=st.app d {v:=v,rd:=l}/\Z2 st op=l:=by
 unfold z2J at h;rw [z73] at h;split at h
 ·rename_i v ps' hv;simp only [V.force_eq,Zp,Wf,St.ZH,w00,w05] at h;obtain ⟨rfl,h2,h3⟩:=h;refine ⟨v,hv,?_,h3⟩
  rw [←h2];cases d<;>rfl
 ·cases h
variable {draw:Bool} {all:List AO} {after:List (List Nat)} {live:List Nat} {k:List It} {b:Nat} {fl:List (Bool×Bool)} {ops:List AO} {st st':St} {d:Option Nat}
theorem Mid.pure {op:AOp} {ps:List Bool} {l:Bool} (h:z2J st d op=some (ps,st',l)) (hp:Zg ps) (h':Mid P n m R draw all after live k b ((l,false)::fl) ops st'):Mid P n m R draw all after live k b fl (⟨d,none,op⟩::ops) st:=by
 obtain ⟨v,h1,rfl,h3⟩:=zd4 h;unfold Mid at h'⊢;simp only [evR,evO,evU,h1,h3];refine ⟨hp,?_⟩;simpa using h'
theorem Mid.zfb {op:AOp} {l:Bool} (h:z2J st d op=some ([],st',l)) (h':Mid P n m R draw all after live k b ((l,false)::fl) ops st'):Mid P n m R draw all after live k b fl (⟨d,none,op⟩::ops) st:=
 Mid.pure h trivial h'
def yD (want:Bool):V->Option Bool
 | .t (.bool b)=>match want with|true=>some b|false=>some (!b)
 | .gd c (.t (.bool b))=>match want with|true=>some (c&&b)|false=>some (c&&!b)
 | .gd false .top=>some false
 |_=>none
theorem qD (want:Bool) (v:V):yD want v=z51 want v:=by
 unfold yD z51
 cases want<;>split<;>simp_all
def stepG (st:St) (d:Option Nat) (s:Nat) (want:Bool) (op:AOp):Option (List Bool×St×Bool):=
 match yD want (look st.env s) with
 |none=>none
 |some gc=>
  match z9E gc st op with
  |some (v,ps)=>v.force fun v'=>setEnv st d (.gd gc v') fun e=>Qm (Z2 st op) fun l=>st.z6H e fun st'=>some (ps.map (fun p=>!gc||p),st',l)
  |none=>none
theorem Mid.grd {op:AOp} {s:Nat} {want:Bool} {ps:List Bool} {l:Bool} (h:stepG st d s want op=some (ps,st',l)) (hp:Zg ps) (h':Mid P n m R draw all after live k b ((l,false)::fl) ops st'):Mid P n m R draw all after live k b fl (⟨d,some (s,want),op⟩::ops) st:=by
 unfold stepG at h;rw [qD] at h;split at h
 ·cases h
 ·rename_i gc hgc;rw [z73] at h;split at h
  ·rename_i v ps' hv;simp only [V.force_eq,Zp,Wf,St.ZH,w00,w05] at h;obtain ⟨rfl,h2,h3⟩:=h;unfold Mid at h'⊢;simp only [evR,evO,hgc,hv,h3];refine ⟨hp,?_⟩
   have:st'=st.app d {v:= .gd gc v,rd:=l}:=by rw [←h2];cases d<;>rfl
   rw [this] at h';simpa using h'
  ·cases h
theorem Mid.opX {op:AOp} (hn:zk true st op=none) (h:evX P b st (fun o=>Mid P n m R draw all after live k (b+o.n) ((o.rd,!o.ob.isEmpty||decide (0<o.n))::fl) ops (st.app d o)) op):Mid P n m R draw all after live k b fl (⟨d,none,op⟩::ops) st:=by
 unfold Mid at h⊢;simp only [evR,evO,evU,hn];exact .inl (by simpa using h)
theorem Mid.opY {op:AOp} {o:Out} (hn:zk true st op=none) (hy:z1Y st b op o) (h:Mid P n m R draw all after live k (b+o.n) ((o.rd,!o.ob.isEmpty||decide (0<o.n))::fl) ops (st.app d o)):Mid P n m R draw all after live k b fl (⟨d,none,op⟩::ops) st:=by
 unfold Mid at h⊢;simp only [evR,evO,evU,hn]
 exact .inr ⟨o,hy,by simpa using h⟩
def V.z0q:V->V
 | .own _ _ xs=> .t (.lst xs)
 | .fow _ _ _ xs=> .t (.lst xs)
 | .zC=> .t (.lst [])
 |v=>v
def z6V {ρ:Type}:List V->(List V->ρ)->ρ
 |[],K=>K []
 |x::r,K=>x.z0q.zcL fun x'=>z6V r fun r'=>K (x'::r')
theorem z4i {ρ:Type}:∀(l:List V) (K:List V->ρ),z6V l K=K (l.map V.z0q)
 |[],K=>rfl
 |x::r,K=>by simp only [z6V,V.z70,z4i r,w0n]
def V.Qa:V->V
 | .agg cs=> .agg (cs.map V.z0q)
 |v=>v.z0q
def V.z9M {ρ:Type} (v:V) (K:V->ρ):ρ:=
 match v with
 | .agg cs=>z6V cs fun cs'=>K (.agg cs')
 | .own _ _ xs=>K (.t (.lst xs))
 | .zC=>K (.t (.lst []))
 | .tup cs=>qJ cs fun cs'=>K (.tup cs')
 | .t x=>K (.t x)
 | .slc k o l s=>K (.slc k o l s)
 | .ptr k o=>K (.ptr k o)
 | .mp k=>K (.mp k)
 | .fn f cs=>K (.fn f cs)
 | .gd c x=>K (.gd c x)
 | .ub c x=>K (.ub c x)
 | .top=>K .top
 | .fpt k i o=>K (.fpt k i o)
 | .gpt k w o=>K (.gpt k w o)
 | .gsl k w o l s=>K (.gsl k w o l s)
 | .fow _ _ _ xs=>K (.t (.lst xs))
theorem V.z72 {ρ:Type} (v:V) (K:V->ρ):v.z9M K=K v.Qa:=by
 cases v<;>simp only [V.z9M,V.Qa,V.z0q,z4i,qx]
theorem zr.z0q {Λ:L} {u:Value} {x:V} (h:zr Λ u x):zr Λ u x.z0q:=by
 cases h with
 |own h _ _ _ _=>exact .t h
 |zC=>exact .t .nil
 |t h=>exact .t h
 |slc a b c=>exact .slc a b c
 |agg a b=>exact .agg a b
 |tup a b=>exact .tup a b
 |ptr a b=>exact .ptr a b
 |mp a b=>exact .mp a b
 |fn a b=>exact .fn a b
 |gd a b=>exact .gd a b
 |ub a b=>exact .ub a b
 |top=>exact .top
 |fpt a b=>exact .fpt a b
 |gpt a b c d=>exact .gpt a b c d
 |gsl a b c d=>exact .gsl a b c d
 |fow h _ _ _ _=>exact .t h
theorem zr.Qa {Λ:L} {u:Value} {x:V} (h:zr Λ u x):zr Λ u x.Qa:=by
 cases x with
 |agg cs=>
  cases h with
  |agg hs hv=>
   refine .agg (by simpa using hs) fun j v c h1 h2=>?_;rw [w0c,w06] at h2;obtain ⟨c',h3,rfl⟩:=h2;exact (hv j v c' h1 h3).z0q
 |_=>exact h.z0q
def Qj (vs vs':List V):Prop:=vs.length=vs'.length/\∀(Λ:L) (j:Nat) (u:Value) (x y:V),vs[j]?=some x->vs'[j]?=some y->zr Λ u x->zr Λ u y
theorem Qj.pure (vs:List V):Qj vs (vs.map V.Qa):=by
 refine ⟨by simp,fun Λ j u x y h1 h2 h=>?_⟩
 rw [w0c,h1] at h2;simp at h2;subst h2;exact h.Qa
theorem Qj.rfl {vs:List V}:Qj vs vs:=⟨Eq.refl _,fun Λ j u x y h1 h2 h=>by rw [h1] at h2;simp at h2;subst h2;exact h⟩
theorem Qj.app {a b c d:List V} (h:Qj a b) (k:Qj c d):Qj (a++c) (b++d):=by
 refine ⟨by simp [h.1,k.1],fun Λ j u x y h1 h2 hr=>?_⟩
 by_cases hj:j<a.length
 ·rw [w0a hj] at h1;rw [w0a (by rw [←h.1];exact hj)] at h2;exact h.2 Λ j u x y h1 h2 hr
 ·rw [w0b (by omega)] at h1;rw [w0b (by rw [←h.1];omega),←h.1] at h2;exact k.2 Λ _ u x y h1 h2 hr
theorem wc.le {f:FuncId} {vs vs':List V} {base:Nat} {sto:List (Nat×zd)} {out:Out} (hl:Qj vs vs') (h:wc P f vs' base sto out):wc P f vs base sto out:=
 ⟨h.1,h.2.1,fun Λ args h1 h2 h3 h4 h5=>h.2.2 Λ args h1 h2 h3 (h4.trans hl.1) fun j v x hj hx=>by
  have hlt:j<vs.length:=by rw [hl.1];exact (w02.1 hx).1
  have hv:=w0f hlt
  exact hl.2 Λ j v _ x hv hx (h5 j v _ hj hv)⟩
theorem z0d.le {f:FuncId} {vs vs':List V} {base:Nat} {sto:List (Nat×zd)} {K:Out->Prop} (hl:Qj vs vs') (h:z0d P f vs' base sto K):z0d P f vs base sto K:=by
 obtain ⟨out,h1,h2⟩:=h;refine ⟨out,?_,h2⟩;split
 ·rename_i e;rw [e] at h1;exact fun s hs=>wc.le hl (h1 s hs)
 ·rename_i e
  have h1':∀s,wc P f vs' base s out:=by simpa [e] using h1
  exact fun s=>wc.le hl (h1' s)
theorem qe.le {f:FuncId} {vs vs':List V} {base:Nat} {sto:List (Nat×zd)} {K:Out->Prop} (hl:Qj vs vs') (h:qe P f vs' base sto K):qe P f vs base sto K:=by
 obtain ⟨out,h1,h2⟩:=h;refine ⟨out,?_,h2⟩;split
 ·rename_i e;rw [e] at h1;exact wc.le hl h1
 ·rename_i e
  have h1':∀s,wc P f vs' base s out:=by simpa [e] using h1
  exact fun s=>wc.le hl (h1' s)
def z0r {α:Type} (st:St):List Ar->(List V->α)->α
 |[],K=>K []
 |x::r,K=>V.z9M (x.u st) fun v=>z0r st r fun vs=>K (v::vs)
theorem Wy {α:Type} (st:St):∀(l:List Ar) (K:List V->α),z0r st l K=K ((yk st l).map V.Qa)
 |[],K=>rfl
 |x::r,K=>by simp only [z0r,V.z72,Wy st r,yk,w0n]
def zP {α:Type} (st:St) (d:Option Nat) (v:V) (K:St->α):α:=v.force fun v'=>setEnv st d v' fun e=>st.z6H e K
theorem Mid.call {f:FuncId} {args:List Ar} {vs:List V} {x:V} (h:z6 P f vs ⟨[],0⟩ {v:=x}) (hv:z0r st args some=some vs) (hb:V.bds 0 vs=true) (hx:x.bd 0=true) (hs:zP st d x some=some st')
  (h':Mid P n m R draw all after live k b ((false,false)::fl) ops st'):Mid P n m R draw all after live k b fl (⟨d,none,.call f args⟩::ops) st:=by
 rw [Wy] at hv;simp at hv;refine Mid.opX Z ?_;simp only [evX];refine z0d.le (Qj.pure _) ?_;rw [hv];refine zdW h hb hx ?_;simp only [zP,V.force_eq,Zp,St.ZH,w00] at hs
 have:st'=st.app d {v:=x}:=by rw [←hs];cases d<;>rfl
 rw [this] at h';exact h'
theorem Mid.z7a {f:FuncId} {args:List Ar} {vs:List V} {x:V} (h:z6 P f vs ⟨st.s.sto,b⟩ {v:=x,rd:=true}) (hv:z0r st args some=some vs) (hb:V.bds b vs=true) (hsb:Z1 b st.s.sto=true) (hs:zP st d x some=some st')
  (h':Mid P n m R draw all after live k b ((true,false)::fl) ops st'):Mid P n m R draw all after live k b fl (⟨d,none,.call f args⟩::ops) st:=by
 rw [Wy] at hv;simp at hv;refine Mid.opX Z ?_;simp only [evX];refine z0d.le (Qj.pure _) ?_;rw [hv];refine zcj h hb hsb ?_;simp only [zP,V.force_eq,Zp,St.ZH,w00] at hs
 have:st'=st.app d {v:=x,rd:=true}:=by rw [←hs];cases d<;>rfl
 rw [this] at h';exact h'
theorem Mid.z6q {f:FuncId} {caps:List (Nat×Nat)} {y:Ar} {args:List Ar} {vs:List V} {x:V} (hf:y.u st= .fn f caps) (h:z6 P f (vs++Qv caps) ⟨st.s.sto,b⟩ {v:=x,rd:=true}) (hv:z0r st args some=some vs) (hb:V.bds b (vs++Qv caps)=true) (hsb:Z1 b st.s.sto=true) (hs:zP st d x some=some st')
  (h':Mid P n m R draw all after live k b ((true,false)::fl) ops st'):Mid P n m R draw all after live k b fl (⟨d,none,.z13 y args⟩::ops) st:=by
 rw [Wy] at hv;simp at hv;refine Mid.opX Z ?_;simp only [evX,hf];refine qe.le ((Qj.pure _).app .rfl) ?_;rw [hv];refine zaB h hb hsb ?_;simp only [zP,V.force_eq,Zp,St.ZH,w00] at hs
 have:st'=st.app d {v:=x,rd:=true}:=by rw [←hs];cases d<;>rfl
 rw [this] at h';exact h'
theorem Mid.z0V {f:FuncId} {y:Ar} {args:List Ar} {vs:List V} {x:V} (hf:y.u st= .t (.fn f)) (h:z6 P f vs ⟨[],0⟩ {v:=x}) (hv:z0r st args some=some vs) (hb:V.bds 0 vs=true) (hx:x.bd 0=true) (hs:zP st d x some=some st')
  (h':Mid P n m R draw all after live k b ((false,false)::fl) ops st'):Mid P n m R draw all after live k b fl (⟨d,none,.z13 y args⟩::ops) st:=by
 rw [Wy] at hv;simp at hv;refine Mid.opX Z ?_;simp only [evX,hf];refine qe.le (Qj.pure _) ?_;rw [hv];refine zbn h hb hx ?_;simp only [zP,V.force_eq,Zp,St.ZH,w00] at hs
 have:st'=st.app d {v:=x}:=by rw [←hs];cases d<;>rfl
 rw [this] at h';exact h'
def unK {α:Type} (gc:Bool) (v:V) (K:V->List Bool->α):α:=
 match v with
 | .gd c x=>x.z9M fun x'=>K x' [!gc||c]
 | .agg cs=>z6V cs fun cs'=>K (.agg cs') []
 | .tup cs=>qJ cs fun cs'=>K (.tup cs') []
 | .t x=>K (.t x) []
 | .zC=>K (.t (.lst [])) []
 | .own _ _ xs=>K (.t (.lst xs)) []
 | .slc k o l s=>K (.slc k o l s) []
 | .ptr k o=>K (.ptr k o) []
 | .mp k=>K (.mp k) []
 | .fn f cs=>K (.fn f cs) []
 | .ub c d=>K (.ub c d) []
 | .top=>K .top []
 | .fpt k i o=>K (.fpt k i o) []
 | .gpt k w o=>K (.gpt k w o) []
 | .gsl k w o l s=>K (.gsl k w o l s) []
 | .fow _ _ _ xs=>K (.t (.lst xs)) []
theorem zgc {α:Type} (gc:Bool) (v:V) (K:V->List Bool->α):unK gc v K=K (v.un gc).1.Qa (v.un gc).2:=by
 cases v<;>simp only [unK,z4i,qx,V.z72,V.un,V.Qa,V.z0q]
def z4V {α:Type} (gc:Bool) (st:St):List Ar->(List V->List Bool->α)->α
 |[],K=>K [] []
 |x::r,K=>unK gc (x.v st) fun v p=>z4V gc st r fun vs ps=>K (v::vs) (p++ps)
theorem qB {a b:List Bool}:Zg (a++b)↔Zg a/\Zg b:=by
 induction a with
 |nil=>simp [Zg]
 |cons x r ih=>simp [Zg,ih,and_assoc]
theorem zca {st:St}:∀{l:List Ar} {vs:List V} {ps:List Bool},z4V true st l (fun vs ps=>some (vs,ps))=some (vs,ps)->Zg ps->(yk st l).map V.Qa=vs:=by
 have key:∀(l:List Ar) {ρ:Type} (K:List V->List Bool->ρ),∃vs ps,z4V true st l K=K vs ps/\(Zg ps->(yk st l).map V.Qa=vs):=by
  intro l
  induction l with
  |nil=>intro ρ K;exact ⟨[],[],rfl,fun _=>rfl⟩
  |cons x r ih=>
   intro ρ K;simp only [z4V,zgc];obtain ⟨vs,ps,h1,h2⟩:=ih fun vs ps=>K (((x.v st).un true).1.Qa::vs) (((x.v st).un true).2++ps);refine ⟨_,_,h1,fun hp=>?_⟩;rw [qB] at hp;simp only [yk,w0n,h2 hp.2,Ar.u];congr 1;congr 1
   cases hv:x.v st<;>simp only [V.un,V.ug] at*
   rename_i c y;have:=hp.1;rw [hv] at this;simp [V.un,Zg] at this;simp [this]
 intro l vs ps h hp;obtain ⟨vs',ps',h1,h2⟩:=key l fun vs ps=>some (vs,ps);rw [h1] at h;simp at h;obtain ⟨rfl,rfl⟩:=h;exact h2 hp
theorem Mid.Qr {f:FuncId} {s:Nat} {want gc:Bool} {args:List Ar} {vs:List V} {ps:List Bool} {x:V} (hg:yD want (look st.env s)=some gc) (hv:z4V gc st args (fun vs ps=>some (vs,ps))=some (vs,ps)) (hp:Zg (ps.map fun p=>!gc||p)) (h:gc=true->∃vs',vs=vs'/\z6 P f vs' ⟨[],0⟩ {v:=x}/\V.bds 0 vs'=true) (hx:x.bd 0=true) (hs:zP st d (.gd gc x) some=some st')
  (h':Mid P n m R draw all after live k b ((false,false)::fl) ops st'):Mid P n m R draw all after live k b fl (⟨d,some (s,want),.call f args⟩::ops) st:=by
 rw [qD] at hg;simp only [zP,V.force_eq,Zp,St.ZH,w00] at hs
 have:st'=st.app d {v:= .gd gc x}:=by rw [←hs];cases d<;>rfl
 rw [this] at h';unfold Mid at h'⊢;simp only [evR,evO,hg,zk];refine .inl ⟨{v:=x},?_,⟨rfl,rfl⟩,?_⟩
 ·intro hgc;simp only [w0h,w0x];intro s;obtain ⟨vs',e1,e2,e3⟩:=h hgc;subst hgc
  have hpp:Zg ps:=by
   have:∀l:List Bool,Zg (l.map fun p=>!true||p)->Zg l:=by
    intro l
    induction l with
    |nil=>exact fun h=>h
    |cons a r ih=>intro h;exact ⟨by simpa using h.1,ih h.2⟩
   exact this ps hp
  refine wc.le (Qj.pure _) ?_;rw [zca hv hpp,e1];exact e2.pure e3 hx
 ·simpa using h'
def z6E {α:Type} (live:List Nat) (b:Nat) (st:St) (K:St->α):α:=match st with|⟨env,⟨sto,_⟩⟩=>z82 live env fun e=>K ⟨e,⟨sto,b⟩⟩
theorem Mid.done (h:z6E live b st some=some st') (hr:z5e draw all after fl.reverse st.env) (h':Run P n m R k st'):Mid P n m R draw all after live k b fl [] st:=by
 obtain ⟨env,⟨sto,nx⟩⟩:=st;simp only [z6E,qn,w00] at h;subst h;exact ⟨hr,h'⟩
theorem Mid.z0m (h:z6E live b st some=some st') (h':Run P n m R k st'):Mid P n m R false all after live k b fl [] st:=
 Mid.done h (fun h=>by cases h) h'
def zd.force {ρ:Type} (o:zd) (K:zd->ρ):ρ:=
 match o with
 | .cells cs=>qJ cs fun cs'=>K (.cells cs')
 | .map kag es s=>K (.map kag es s)
 | .arr n=>K (.arr n)
 | .iter q s u c=>K (.iter q s u c)
 | .gro w cs=>qJ cs fun cs'=>K (.gro w cs')
 | .yL os=>K (.yL os)
 | .y8 ns=>K (.y8 ns)
 | .WN a I=>K (.WN a I)
theorem zd.force_eq {ρ:Type} (o:zd) (K:zd->ρ):o.force K=K o:=by
 cases o<;>simp only [zd.force,qx]
def z6J {ρ:Type}:List (Nat×zd)->List (Nat×zd)->(List (Nat×zd)->ρ)->ρ
 |s,[],K=>K s
 |s,(k,o)::r,K=>o.force fun o'=>z5M s k o' fun s'=>z6J s' r K
theorem z59 {ρ:Type}:∀(r s:List (Nat×zd)) (K:List (Nat×zd)->ρ),z6J s r K=K (Zf s r)
 |[],s,K=>rfl
 |(k,o)::r,s,K=>by simp only [z6J,zd.force_eq,z1u,z59 r,Zf]
def z8r {α ρ:Type}:List α->(List α->ρ)->ρ
 |[],K=>K []
 |x::r,K=>z8r r fun r'=>K (x::r')
theorem z4T {α ρ:Type}:∀(l:List α) (K:List α->ρ),z8r l K=K l
 |[],K=>rfl
 |x::r,K=>z4T r _
def z3a {α ρ:Type}:List (List α)->(List (List α)->ρ)->ρ
 |[],K=>K []
 |x::r,K=>z8r x fun x'=>z3a r fun r'=>K (x'::r')
theorem z3F {α ρ:Type}:∀(l:List (List α)) (K:List (List α)->ρ),z3a l K=K l
 |[],K=>rfl
 |x::r,K=>by simp only [z3a,z4T];exact z3F r _
def z2K {ρ:Type} (b:Nat) (st:St) (d:Option Nat) (o:Out) (K:Nat->St->ρ):ρ:=
 q8 (b+o.n) fun b'=>o.v.force fun v'=>setEnv st d v' fun e=>z6J st.s.sto o.ob fun sto=>match st with|⟨_,⟨_,nx⟩⟩=>K b' ⟨e,⟨sto,nx⟩⟩
theorem z3Z {ρ:Type} (b:Nat) (st:St) (d:Option Nat) (o:Out) (K:Nat->St->ρ):z2K b st d o K=K (b+o.n) (st.app d o):=by
 obtain ⟨env,⟨sto,nx⟩⟩:=st;simp only [z2K,wq,V.force_eq,Zp,z59]
 cases d<;>rfl
def z8k (b:Nat) (st:St):AOp->Option Out
 | .st n x v=>
  match x.u st with
  | .ptr k o=>
   match zj st.s.sto k with
   |some (.cells cs)=>
    match (v.u st).parts with
    |some vs=>bif Nat.beq vs.length n&&Nat.ble (o+n) cs.length&&vs.all V.Zm then some {v:= .top,ob:=[(k,.cells (setAt cs o vs))],rd:=true} else none
    |none=>none
   |_=>none
  |_=>none
 | .box n x=>
  match (x.u st).parts with
  |some vs=>bif Nat.beq vs.length n&&vs.all V.Zm then some {v:= .ptr b 0,ob:=[(b,.cells vs)],n:=1} else none
  |none=>none
 | .alloc zs=>some {v:= .ptr b 0,ob:=[(b,.cells zs)],n:=1}
 | .bsl ow sz zs ps=>
  match ZA st sz zs ps with
  |some xs=>z3a xs fun xs=>bif ZQ sz xs then (match ow with|true=>(match xs with|[]=>some {v:= .zC}|y::ys=>some {v:= .own b sz (y::ys),ob:=[(b,.arr (y::ys).length)],n:=1})|false=>some {v:= .t (.lst xs)}) else none
  |none=>none
 |_=>none
theorem zcT {P:Program} {b:Nat} {st:St} {op:AOp} {o:Out} {K:Out->Prop} (h:z8k b st op=some o) (hk:K o):evX P b st K op:=by
 unfold z8k at h;split at h
 ·rename_i nn x v;simp only [evX];split at h
  ·rename_i k oo hx;rw [hx];simp only;split at h
   ·rename_i cs hc;rw [hc];simp only;split at h
    ·rename_i vs hv;rw [hv];simp only
     cases hh:(Nat.beq vs.length nn&&Nat.ble (oo+nn) cs.length&&vs.all V.Zm) with
     |false=>rw [hh] at h;simp at h
     |true=>
      rw [hh] at h;simp at h;subst h;simp only [w07] at hh;refine ⟨⟨?_,hh.2⟩,hk⟩;have h1:=w10 hh.1.1;have h2:=w11 hh.1.2;simp [h1,h2]
    ·cases h
   ·cases h
  ·cases h
 ·rename_i nn x;simp only [evX];split at h
  ·rename_i vs hv;rw [hv];simp only
   cases hh:(Nat.beq vs.length nn&&vs.all V.Zm) with
   |false=>rw [hh] at h;simp at h
   |true=>
    rw [hh] at h;simp at h;subst h;simp only [w07] at hh;refine ⟨⟨?_,hh.2⟩,hk⟩;have h1:=w10 hh.1;simp [h1]
  ·cases h
 ·simp at h;subst h;exact hk
 ·rename_i ow sz zs ps;simp only [evX];split at h
  ·rename_i xs hv;rw [hv];simp only [z3F] at h⊢
   cases hh:ZQ sz xs with
   |false=>rw [hh] at h;simp at h
   |true=>
    rw [hh] at h;refine ⟨rfl,?_⟩
    cases ow with
    |false=>simp at h;subst h;exact hk
    |true=>
     left
     cases xs with
     |nil=>simp at h;subst h;exact hk
     |cons y ys=>simp at h;subst h;exact hk
  ·cases h
 ·cases h
def z9N (b:Nat) (st:St) (d:Option Nat) (op:AOp):Option (Nat×St×Bool×Bool):=
 match z8k b st op with
 |some o=>Qm o.rd fun r=>Qm (!o.ob.isEmpty||decide (0<o.n)) fun c=>z2K b st d o fun b' st'=>some (b',st',r,c)
 |none=>none
theorem z8z {st:St} {op:AOp} {b:Nat} {o:Out} (h:z8k b st op=some o):zk true st op=none:=by
 cases op<;>first |rfl|(simp [z8k] at h)
variable {b':Nat}
theorem Mid.eff {op:AOp} {r c:Bool} (h:z9N b st d op=some (b',st',r,c)) (h':Mid P n m R draw all after live k b' ((r,c)::fl) ops st'):Mid P n m R draw all after live k b fl (⟨d,none,op⟩::ops) st:=by
 unfold z9N at h;split at h
 ·rename_i o ho;simp only [Wf,z3Z,w00,w05] at h;obtain ⟨rfl,rfl,rfl,rfl⟩:=h;exact Mid.opX (z8z ho) (zcT ho h')
 ·cases h
theorem Mid.zfu {sz:Nat} {zs xs:List (List T)} {ps:List (Nat×Ar)} {ow:Bool} (hx:ZA st sz zs ps=some xs) (ha:ZQ sz xs=true) (hs:zP st d (.t (.lst xs)) some=some st')
  (h':Mid P n m R draw all after live k b ((false,false)::fl) ops st'):Mid P n m R draw all after live k b fl (⟨d,none,.bsl ow sz zs ps⟩::ops) st:=by
 simp only [zP,V.force_eq,Zp,St.ZH,w00] at hs
 have e:st'=st.app d {v:= .t (.lst xs)}:=by rw [←hs];cases d<;>rfl
 refine Mid.opX Z ?_;simp only [evX,hx];refine ⟨ha,?_⟩
 have hk:Mid P n m R draw all after live k (b+0) ((false,!([]:List (Nat×zd)).isEmpty||decide (0<0))::fl) ops (st.app d {v:= .t (.lst xs)}):=by
  rw [e] at h';simpa using h'
 cases ow with
 |true=>exact .inr hk
 |false=>exact hk
theorem Mid.zga {sz by_ j s nn:Nat} {x y:Ar} {xs ys:List (List T)} (hx:x.u st= .own j s xs) (hy:(y.u st).zw=some (.lst ys)) (hn:zj st.s.sto j=some (.arr nn)) (he:nn=xs.length) (hs:Nat.beq s sz=true) (hl:ZQ sz ys=true)
  (h1:(xs.length+ys.length)*by_<=140737488355328) (h2:xs.length+ys.length<=9223372036854775807)
  (hst:z2K b st d {v:= .own j sz (xs++ys),ob:=[(j,.arr (xs.length+ys.length))],rd:=true} (fun b' st'=>some (b',st'))=some (b',st'))
  (h':Mid P n m R draw all after live k b' ((true,true)::fl) ops st'):Mid P n m R draw all after live k b fl (⟨d,none,.app sz by_ x y⟩::ops) st:=by
 refine Mid.opX Z ?_;have hs':=w10 hs;simp only [z3Z,w00,w05] at hst;obtain ⟨rfl,rfl⟩:=hst;simp only [evX,hx,hy,hn];exact ⟨hs',he,hl,h1,h2,h'⟩
theorem Mid.appMap {α:Type} (f:α->List T) (l1 l2:List α) {sz by_ j s nn:Nat} {x y:Ar} (hx:x.u st= .own j s (l1.map f)) (hy:(y.u st).zw=some (.lst (l2.map f))) (hn:zj st.s.sto j=some (.arr nn)) (he:nn=l1.length) (hs:Nat.beq s sz=true) (hl:∀x,(f x).length=sz)
  (h1:(l1.length+l2.length)*by_<=140737488355328) (h2:l1.length+l2.length<=9223372036854775807)
  (hst:z2K b st d {v:= .own j sz ((l1++l2).map f),ob:=[(j,.arr (l1++l2).length)],rd:=true} (fun b' st'=>some (b',st'))=some (b',st'))
  (h':Mid P n m R draw all after live k b' ((true,true)::fl) ops st'):Mid P n m R draw all after live k b fl (⟨d,none,.app sz by_ x y⟩::ops) st:=
 Mid.zga hx hy hn (by simpa using he) hs (by simp [ZQ,hl]) (by simpa using h1) (by simpa using h2) (by rw [←hst];simp) h'
theorem Mid.zaF {α:Type} (f:α->List T) (l2:List α) {sz by_:Nat} {x y:Ar} (hx:x.u st= .zC) (hy:(y.u st).zw=some (.lst (l2.map f))) (hl:∀x,(f x).length=sz)
  (h1:l2.length*by_<=140737488355328) (h2:l2.length<=9223372036854775807)
  (hst:z2K b st d {v:= .own b sz (l2.map f),ob:=[(b,.arr l2.length)],n:=1} (fun b' st'=>some (b',st'))=some (b',st'))
  (h':Mid P n m R draw all after live k b' ((false,true)::fl) ops st'):Mid P n m R draw all after live k b fl (⟨d,none,.app sz by_ x y⟩::ops) st:=by
 refine Mid.opX Z ?_;simp only [z3Z,w00,w05] at hst;obtain ⟨rfl,rfl⟩:=hst;simp only [evX,hx,hy]
 exact ⟨by simp [ZQ,hl],by simpa using h1,by simpa using h2,by simpa using h'⟩
theorem Yc {gc:Bool} {x:Ar} {v:V} {p:List Bool} {t:T} (hx:rd gc st x=(v,p)) (hv:v.zw=some t):wj (x.v st)=false:=by
 unfold rd at hx;generalize x.v st=u at hx⊢
 cases u<;>simp only [V.un,w05] at hx<;>obtain ⟨rfl,_⟩:=hx<;>simp_all [V.zw,wj]
 rename_i c y _
 cases y<;>simp_all
theorem Mid.elem {sz:Nat} {x i:Ar} {v:V} {p1 p2:List Bool} {kd:IntKind} {z:Int} {xs:List (List T)} {c:List T} (hx:rd true st x=(v,p1)) (hv:v.zw=some (.lst xs)) (hi:rd true st i=(.t (.int kd z),p2)) (hc:xs[z.toNat]?=some c) (hl:(Nat.beq c.length sz&&!(Nat.beq sz 0))=true) (h0:0<=z) (hp:Zg (p1++p2))
  (hs:zP st d (.t (.ptr c)) some=some st') (h':Mid P n m R draw all after live k b ((false,false)::fl) ops st'):Mid P n m R draw all after live k b fl (⟨d,none,.ia sz x i⟩::ops) st:=by
 have hl1:c.length=sz/\sz≠0:=by
  simp only [w07] at hl;refine ⟨w10 hl.1,?_⟩;rintro rfl;simp at hl
 have hev:zk true st (.ia sz x i)=some (.t (.ptr c),p1++(p2++[decide (0<=z)])):=by
  simp only [zk,hx,hi]
  cases v<;>simp_all [V.zw]
 simp only [zP,V.force_eq,Zp,St.ZH,w00] at hs
 have e:st'=st.app d {v:= .t (.ptr c)}:=by rw [←hs];cases d<;>rfl
 rw [e] at h';unfold Mid at h'⊢;simp only [evR,evO,evU,hev,Z2,Yc hx hv]
 refine ⟨?_,by simpa using h'⟩
 have hpa:∀(a b:List Bool),Zg (a++b)↔Zg a/\Zg b:=by
  intro a b
  induction a with
  |nil=>simp [Zg]
  |cons x r ih=>simp [Zg,ih,and_assoc]
 rw [hpa] at hp;simp [hpa,hp.1,hp.2,Zg,h0]
theorem Mid.val {op:AOp} {v:V} {ps:List Bool} (hev:zk true st op=some (v,ps)) (hl:Z2 st op=false) (hp:Zg ps) (hs:zP st d v some=some st')
  (h':Mid P n m R draw all after live k b ((false,false)::fl) ops st'):Mid P n m R draw all after live k b fl (⟨d,none,op⟩::ops) st:=by
 simp only [zP,V.force_eq,Zp,St.ZH,w00] at hs
 have e:st'=st.app d {v:=v}:=by rw [←hs];cases d<;>rfl
 rw [e] at h';unfold Mid at h'⊢;simp only [evR,evO,evU,hev,hl]
 exact ⟨hp,by simpa using h'⟩
theorem Mid.zhB {x y:Ar} {i jn:Nat} {j:Int} (hx:rd true st x=(.t (.int .i64 i),[])) (hy:rd true st y=(.t (.int .i64 j),[])) (hj:q8 j.toNat some=some jn) (hjn:j=(jn:Int)) (h2:i+jn<=9223372036854775807) (hs:zP st d (.t (.int .i64 ((i+jn:Nat):Int))) some=some st')
  (h':Mid P n m R draw all after live k b ((false,false)::fl) ops st'):Mid P n m R draw all after live k b fl (⟨d,none,.bin .add x y⟩::ops) st:=
 Mid.val (v:= .t (.int .i64 ((i+jn:Nat):Int))) (ps:=[]) (by subst hjn;simp only [zk,hx,hy,z3I];simp;exact wrap64 (by omega) (by omega)) rfl trivial hs h'
theorem Mid.zhc {x y:Ar} {i j:Int} (hx:rd true st x=(.t (.int .i64 i),[])) (hy:rd true st y=(.t (.int .i64 j),[])) (h1:-9223372036854775808<=i+j) (h2:i+j<=9223372036854775807) (hs:zP st d (.t (.int .i64 (i+j))) some=some st')
  (h':Mid P n m R draw all after live k b ((false,false)::fl) ops st'):Mid P n m R draw all after live k b fl (⟨d,none,.bin .add x y⟩::ops) st:=
 Mid.val (v:= .t (.int .i64 (i+j))) (ps:=[]) (by simp only [zk,hx,hy,z3I];simp [wrap64 h1 h2]) rfl trivial hs h'
theorem Mid.zgA {x y:Ar} {i j:Int} (hx:rd true st x=(.t (.int .i64 i),[])) (hy:rd true st y=(.t (.int .i64 j),[])) (h1:-9223372036854775808<=i - j) (h2:i - j<=9223372036854775807) (hs:zP st d (.t (.int .i64 (i - j))) some=some st')
  (h':Mid P n m R draw all after live k b ((false,false)::fl) ops st'):Mid P n m R draw all after live k b fl (⟨d,none,.bin .sub x y⟩::ops) st:=
 Mid.val (v:= .t (.int .i64 (i - j))) (ps:=[]) (by simp only [zk,hx,hy,z3I];simp [wrap64 h1 h2]) rfl trivial hs h'
theorem Mid.zgd {α:Type} {f:α->List T} {l:List α} {x:Ar} {v:V} (hx:rd true st x=(v,[])) (hv:v.zw=some (.lst (l.map f))) (hs:zP st d (.t (.int .i64 l.length)) some=some st')
  (h':Mid P n m R draw all after live k b ((false,false)::fl) ops st'):Mid P n m R draw all after live k b fl (⟨d,none,.len x⟩::ops) st:=by
 refine Mid.val (v:= .t (.int .i64 l.length)) (ps:=[]) ?_ (Yc hx hv) trivial hs h';simp only [zk,hx]
 cases v<;>simp_all [V.zw]
theorem Mid.zb {α:Type} {f:α->List T} {l:List α} {e:α} {sz j:Nat} {x i:Ar} {v:V} {kd:IntKind} (hx:rd true st x=(v,[])) (hv:v.zw=some (.lst (l.map f))) (hi:rd true st i=(.t (.int kd j),[])) (hc:l[j]?=some e) (hl:(Nat.beq (f e).length sz&&!(Nat.beq sz 0))=true)
  (hs:zP st d (.t (.ptr (f e))) some=some st') (h':Mid P n m R draw all after live k b ((false,false)::fl) ops st'):Mid P n m R draw all after live k b fl (⟨d,none,.ia sz x i⟩::ops) st:=
 Mid.elem hx hv hi (by simp [hc]) hl (by simp) trivial hs h'
theorem Mid.byte {x i:Ar} {kd:IntKind} {j:Nat} {s:List UInt8} {c:UInt8} (hx:rd true st x=(.t (.str s),[])) (hi:rd true st i=(.t (.int kd j),[])) (hc:s[j]?=some c)
  (hs:zP st d (.t (.int .u8 c.toNat)) some=some st') (h':Mid P n m R draw all after live k b ((false,false)::fl) ops st'):Mid P n m R draw all after live k b fl (⟨d,none,.ixs x i⟩::ops) st:=
 Mid.val (v:= .t (.int .u8 c.toNat)) (ps:=[true]) (by simp only [zk,hx,hi];simp [hc]) rfl ⟨rfl,trivial⟩ hs h'
theorem Mid.zbz {op:AOp} {s:Nat} {want gc:Bool} {v:V} {ps:List Bool} (hg:yD want (look st.env s)=some gc) (hev:zk gc st op=some (v,ps)) (hl:Z2 st op=false) (hp:Zg (ps.map fun p=>!gc||p)) (hs:zP st d (.gd gc v) some=some st')
  (h':Mid P n m R draw all after live k b ((false,false)::fl) ops st'):Mid P n m R draw all after live k b fl (⟨d,some (s,want),op⟩::ops) st:=by
 rw [qD] at hg;simp only [zP,V.force_eq,Zp,St.ZH,w00] at hs
 have e:st'=st.app d {v:= .gd gc v}:=by rw [←hs];cases d<;>rfl
 rw [e] at h';unfold Mid at h'⊢;simp only [evR,evO,hg,hev,hl]
 exact ⟨hp,by simpa using h'⟩
theorem Mid.zgK {s:Nat} {want gc:Bool} {x i:Ar} {kd:IntKind} {j:Nat} {str:List UInt8} {c:UInt8} {p1 p2:List Bool} (hg:yD want (look st.env s)=some gc) (hx:rd gc st x=(.t (.str str),p1)) (hi:rd gc st i=(.t (.int kd j),p2)) (hc:str[j]?=some c)
  (hp1:Zg (p1.map fun p=>!gc||p)) (hp2:Zg (p2.map fun p=>!gc||p))
  (hs:zP st d (.gd gc (.t (.int .u8 c.toNat))) some=some st') (h':Mid P n m R draw all after live k b ((false,false)::fl) ops st'):Mid P n m R draw all after live k b fl (⟨d,some (s,want),.ixs x i⟩::ops) st:=
 Mid.zbz (v:= .t (.int .u8 c.toNat)) (ps:=p1++(p2++[true])) hg (by simp only [zk,hx,hi];simp [hc]) rfl (by simp only [w24,qB];exact ⟨hp1,hp2,by simp [Zg]⟩) hs h'
theorem Mid.zev {α:Type} {f:α->List T} {l:List α} {s:Nat} {want gc:Bool} {x:Ar} {v:V} {p1:List Bool} (hg:yD want (look st.env s)=some gc) (hx:rd gc st x=(v,p1)) (hv:v.zw=some (.lst (l.map f))) (hp1:Zg (p1.map fun p=>!gc||p)) (hs:zP st d (.gd gc (.t (.int .i64 l.length))) some=some st')
  (h':Mid P n m R draw all after live k b ((false,false)::fl) ops st'):Mid P n m R draw all after live k b fl (⟨d,some (s,want),.len x⟩::ops) st:=by
 refine Mid.zbz (v:= .t (.int .i64 l.length)) (ps:=p1) hg ?_ (Yc hx hv) hp1 hs h';simp only [zk,hx]
 cases v<;>simp_all [V.zw]
theorem Mid.zch {α:Type} {f:α->List T} {l:List α} {e:α} {sz j:Nat} {s:Nat} {want gc:Bool} {x i:Ar} {v:V} {kd:IntKind} {p1 p2:List Bool} (hg:yD want (look st.env s)=some gc) (hx:rd gc st x=(v,p1)) (hv:v.zw=some (.lst (l.map f))) (hi:rd gc st i=(.t (.int kd j),p2)) (hc:l[j]?=some e) (hl:(Nat.beq (f e).length sz&&!(Nat.beq sz 0))=true)
  (hp1:Zg (p1.map fun p=>!gc||p)) (hp2:Zg (p2.map fun p=>!gc||p)) (hs:zP st d (.gd gc (.t (.ptr (f e)))) some=some st') (h':Mid P n m R draw all after live k b ((false,false)::fl) ops st'):Mid P n m R draw all after live k b fl (⟨d,some (s,want),.ia sz x i⟩::ops) st:=by
 have hl1:(f e).length=sz/\sz≠0:=by
  simp only [w07] at hl;refine ⟨w10 hl.1,?_⟩;rintro rfl;simp at hl
 refine Mid.zbz (v:= .t (.ptr (f e))) (ps:=p1++(p2++[true])) hg ?_ (Yc hx hv) (by simp only [w24,qB];exact ⟨hp1,hp2,by simp [Zg]⟩) hs h';simp only [zk,hx,hi]
 cases v<;>simp_all [V.zw]
theorem Mid.zfq {s:Nat} {want gc:Bool} {x y:Ar} {i j:Int} {p1 p2:List Bool} (hg:yD want (look st.env s)=some gc) (hx:rd gc st x=(.t (.int .i64 i),p1)) (hy:rd gc st y=(.t (.int .i64 j),p2)) (h1:-9223372036854775808<=i - j) (h2:i - j<=9223372036854775807)
  (hp1:Zg (p1.map fun p=>!gc||p)) (hp2:Zg (p2.map fun p=>!gc||p)) (hs:zP st d (.gd gc (.t (.int .i64 (i - j)))) some=some st')
  (h':Mid P n m R draw all after live k b ((false,false)::fl) ops st'):Mid P n m R draw all after live k b fl (⟨d,some (s,want),.bin .sub x y⟩::ops) st:=
 Mid.zbz (v:= .t (.int .i64 (i - j))) (ps:=p1++(p2++[])) hg (by simp only [zk,hx,hy,z3I];simp [wrap64 h1 h2]) rfl (by simp only [w24,qB];exact ⟨hp1,hp2,trivial⟩) hs h'
theorem Mid.zgZ {α:Type} {f:α->List T} {l:List α} {sz:Nat} {x hi:Ar} {v:V} {kd:IntKind} {j:Nat} (hx:rd true st x=(v,[])) (hv:v.zw=some (.lst (l.map f))) (hh:rd true st hi=(.t (.int kd j),[])) (hj:j<=l.length) (hsz:∀x,(f x).length=sz) (hs:zP st d (.t (.lst ((l.take j).map f))) some=some st')
  (h':Mid P n m R draw all after live k b ((false,false)::fl) ops st'):Mid P n m R draw all after live k b fl (⟨d,none,.sll sz x none (some hi)⟩::ops) st:=
 Mid.val (v:= .t (.lst ((l.take j).map f))) (ps:=[true,true,true,true]) (by simp only [zk,hx,hv,bnd,hh];simp [hj,ZQ,hsz]) (Yc hx hv) ⟨rfl,rfl,rfl,rfl,trivial⟩ hs h'
theorem Mid.zao {α:Type} {f:α->List T} {l:List α} {sz:Nat} {x lo:Ar} {v:V} {kd:IntKind} {j:Nat} (hx:rd true st x=(v,[])) (hv:v.zw=some (.lst (l.map f))) (hh:rd true st lo=(.t (.int kd j),[])) (hj:j<=l.length) (hsz:∀x,(f x).length=sz) (hs:zP st d (.t (.lst ((l.drop j).map f))) some=some st')
  (h':Mid P n m R draw all after live k b ((false,false)::fl) ops st'):Mid P n m R draw all after live k b fl (⟨d,none,.sll sz x (some lo) none⟩::ops) st:=
 Mid.val (v:= .t (.lst ((l.drop j).map f))) (ps:=[true,true,true,true]) (by simp only [zk,hx,hv,bnd,hh];simp [hj,ZQ,hsz,w1l]) (Yc hx hv) ⟨rfl,rfl,rfl,rfl,trivial⟩ hs h'
theorem Mid.W4 {op:AOp} {s:Nat} {want gc:Bool} {l:Bool} (hg:yD want (look st.env s)=some gc) (hf:gc=false) (hn:zk gc st op=none) (hl:Z2 st op=l) (hs:zP st d (.gd false .top) some=some st')
  (h':Mid P n m R draw all after live k b ((l,false)::fl) ops st'):Mid P n m R draw all after live k b fl (⟨d,some (s,want),op⟩::ops) st:=by
 rw [qD] at hg;subst hl;simp only [zP,V.force_eq,Zp,St.ZH,w00] at hs
 have e:st'=st.app d {v:= .gd false .top,rd:=Z2 st op}:=by rw [←hs];cases d<;>rfl
 rw [e] at h';unfold Mid at h'⊢;simp only [evR,evO,hg,hn]
 refine z8U (fun h=>by rw [hf] at h;cases h) (fun _=>?_)
 simpa using h'
theorem z2L {α:Type} {k:Nat} {o:α}:∀{a b:List (Nat×α)},zj a k=some o->zj (a++b) k=some o
 |[],b,h=>by simp [zj] at h
 |(j,x)::r,b,h=>by
  simp only [w1y,zj] at h⊢;split
  ·rename_i e;simpa [e] using h
  ·rename_i e;simp only [e,w0x] at h;exact z2L h
theorem z3.we {s:S} {st:St} {rs:List Qh} {x r:V} {rd:Bool} {ex:List (Nat×zd)} (hr:z2F st rs=some r) (he:st.s.sto=s.sto++ex) (hn:Nat.ble s.nxt st.s.nxt=true) (hs:Z1 s.nxt s.sto=true) (h:LeR s.nxt st.s r x):z3 s {v:=x,rd:=rd} rs .ret st:=by
 refine ⟨r,hr,w11 hn,h,.same fun k o hk=>⟨?_,Wu hs k o hk⟩⟩;rw [he];exact z2L hk
theorem Run.list {α β:Type} {k k':List It} {c:zL} {st:St} (l:List α) (stf:Nat->β->St) (Inv:List α->Nat->β->Prop) (j:Nat) (b0:β) (hk:ZW 200 k= .c (.loop c)::k') (h0:Inv l 0 b0)
  (h1:Nat.ble m j=true) (h2:Nat.ble j st.s.nxt=true) (h3:Nat.ble j (stf 0 b0).s.nxt=true) (he:LeE j (stf 0 b0).s.nxt st.env (stf 0 b0).env) (hs:LeS j (stf 0 b0).s.nxt st.s.sto (stf 0 b0).s.sto)
  (hend:∀b,Inv [] l.length b->Run P n m R (.c c:: .lp c::k') (stf l.length b))
  (hstep:∀(i:Nat) (x:α) (r:List α) (b:β),l[i]?=some x->i<l.length->l.drop (i+1)=r->Inv (x::r) i b->(∀b',Inv r (i+1) b'->Run P n m R (.lp c::k') (stf (i+1) b'))->Run P n m R (.c c:: .lp c::k') (stf i b)):
  Run P n m R k st:=by
 refine Run.loop hk (Run.qT j Z ?_ h1 h2 h3 he hs)
 have key:∀(r:List α) (i:Nat) (b:β),l.drop i=r->i<=l.length->Inv r i b->Run P n m R (.lp c::k') (stf i b):=by
  intro r
  induction r with
  |nil=>
   intro i b hd hi hb;have:=zcI hd
   have e:i=l.length:=by omega
   subst e;exact Run.wY (hend b hb)
  |cons x r ih=>
   intro i b hd hi hb;obtain ⟨e1,e2,e3⟩:=y9 hd;exact Run.wY (hstep i x r b e1 e3 e2 hb fun b' hb'=>ih (i+1) b' e2 (by omega) hb')
 exact key l 0 b0 Z (Nat.zero_le _) h0
theorem Run.zhb {β:Type} {k k':List It} {c:zL} {st:St} (stf:β->St) (Inv:β->Prop) (μ:β->Nat) (j:Nat) (b0:β) (hk:ZW 200 k= .c (.loop c)::k') (h0:Inv b0)
  (h1:Nat.ble m j=true) (h2:Nat.ble j st.s.nxt=true) (h3:Nat.ble j (stf b0).s.nxt=true) (he:LeE j (stf b0).s.nxt st.env (stf b0).env) (hs:LeS j (stf b0).s.nxt st.s.sto (stf b0).s.sto)
  (hstep:∀(b:β),Inv b->(∀b',μ b'<μ b->Inv b'->Run P n m R (.lp c::k') (stf b'))->Run P n m R (.c c:: .lp c::k') (stf b)):Run P n m R k st:=by
 refine Run.loop hk (Run.qT j Z ?_ h1 h2 h3 he hs)
 have key:∀(f:Nat) (b:β),μ b<f->Inv b->Run P n m R (.lp c::k') (stf b):=by
  intro f
  induction f with
  |zero=>intro b h;omega
  |succ f ih=>intro b h hb;exact Run.wY (hstep b hb fun b' hlt hb'=>ih b' (by omega) hb')
 exact key (μ b0+1) b0 (by omega) h0
theorem z47 {α:Type} {f:α->List T} {sz:Nat} (h:∀x,(f x).length=sz) (l:List α):ZQ sz (l.map f)=true:=by
 simp [ZQ,h]
inductive Cfg where
 |run (k:List It) (st:St)
 |mid (draw:Bool) (all:List AO) (after:List (List Nat)) (live:List Nat) (k:List It) (b:Nat) (fl:List (Bool×Bool)) (ops:List AO) (st:St)
def Go (P:Program) (n m:Nat) (R:St->Prop):Cfg->Prop
 | .run k st=>Run P n m R k st
 | .mid draw all after live k b fl ops st=>Mid P n m R draw all after live k b fl ops st
def AOp.zgD:AOp->Bool
 | .ia _ _ _=>true
 | .zcw _ _ _ _=>true
 | .ixs _ _=>true
 | .ixa _ _ _ _ _=>true
 | .len _=>true
 | .bin .add _ _=>true
 | .bin .sub _ _=>true
 | .bin .mul _ _=>true
 | .bin .quo _ _=>true
 | .bin .rem _ _=>true
 | .sls _ _ _=>true
 | .sll _ _ _ _=>true
 | .z94 _=>true
 | .app _ _ _ _=>true
 | .z97 _ _ _ _=>true
 | .nw _=>true
 | .call _ _=>true
 | .z13 _ _=>true
 |_=>false
def WZ {ρ:Type}:Nat->Cfg->List (List Bool)->(Cfg->List (List Bool)->ρ)->ρ
 |0,c,ps,K=>K c ps
 |f+1,.run k st,ps,K=>
  match ZW 200 k with
  | .c (.region draw ops after live)::k'=>q8 st.s.nxt fun b=>WZ f (.mid draw ops after live k' b [] ops st) ps K
  |k'=>K (.run k' st) ps
 |f+1,.mid draw all after live k b fl [] st,ps,K=>
  match draw with
  |false=>z6E live b st fun st'=>WZ f (.run k st') ps K
  |true=>z6E live b st fun st'=>WZ f (.run k st') ([indep all after fl.reverse st.env]::ps) K
 |f+1,.mid draw all after live k b fl (⟨d,g,op⟩::ops) st,ps,K=>
  match op.zgD with
  |true=>K (.mid draw all after live k b fl (⟨d,g,op⟩::ops) st) ps
  |false=>
   match g with
   |none=>
    match z9N b st d op with
    |some (b',st',r,c)=>WZ f (.mid draw all after live k b' ((r,c)::fl) ops st') ps K
    |none=>
     match z2J st d op with
     |some ([],st',l)=>WZ f (.mid draw all after live k b ((l,false)::fl) ops st') ps K
     |some (p::q,st',l)=>WZ f (.mid draw all after live k b ((l,false)::fl) ops st') ((p::q)::ps) K
     |none=>K (.mid draw all after live k b fl (⟨d,none,op⟩::ops) st) ps
   |some (s,want)=>
    match stepG st d s want op with
    |some ([],st',l)=>WZ f (.mid draw all after live k b ((l,false)::fl) ops st') ps K
    |some (p::q,st',l)=>WZ f (.mid draw all after live k b ((l,false)::fl) ops st') ((p::q)::ps) K
    |none=>K (.mid draw all after live k b fl (⟨d,some (s,want),op⟩::ops) st) ps
def z2v:List (List Bool)->Prop
 |[]=>True
 |p::r=>Zg p/\z2v r
theorem w8 {ρ:Type}:∀(f:Nat) (c:Cfg) (ps:List (List Bool)) (K:Cfg->List (List Bool)->ρ),∃c' ps',WZ f c ps K=K c' ps'/\(z2v ps'->z2v ps/\(Go P n m R c'->Go P n m R c))
 |0,c,ps,K=>⟨c,ps,rfl,fun h=>⟨h,fun h=>h⟩⟩
 |f+1,.run k st,ps,K=>by
  simp only [WZ];split
  ·rename_i draw ops after live k' hk;simp only [wq];obtain ⟨c',ps',h1,h2⟩:=w8 f (.mid draw ops after live k' st.s.nxt [] ops st) ps K;refine ⟨c',ps',h1,fun h=>⟨(h2 h).1,fun hg=>Run.region hk (wq _ _) ((h2 h).2 hg)⟩⟩
  ·exact ⟨_,_,rfl,fun h=>⟨h,fun hg=>Run.adv 200 Z hg⟩⟩
 |f+1,.mid draw all after live k b fl [] st,ps,K=>by
  cases draw with
  |false=>
   simp only [WZ];obtain ⟨env,⟨sto,nx⟩⟩:=st;simp only [z6E,qn];obtain ⟨c',ps',h1,h2⟩:=w8 f (.run k ⟨WU live env,⟨sto,b⟩⟩) ps K;exact ⟨c',ps',h1,fun h=>⟨(h2 h).1,fun hg=>Mid.z0m (st':=⟨WU live env,⟨sto,b⟩⟩) (by simp only [z6E,qn]) ((h2 h).2 hg)⟩⟩
  |true=>
   simp only [WZ];obtain ⟨env,⟨sto,nx⟩⟩:=st;simp only [z6E,qn];obtain ⟨c',ps',h1,h2⟩:=w8 f (.run k ⟨WU live env,⟨sto,b⟩⟩) ([indep all after fl.reverse env]::ps) K;refine ⟨c',ps',h1,fun h=>?_⟩;obtain ⟨⟨g1,g2⟩,g3⟩:=h2 h;exact ⟨g2,fun hg=>Mid.done (st':=⟨WU live env,⟨sto,b⟩⟩) (by simp only [z6E,qn]) (fun _=>g1.1) (g3 hg)⟩
 |f+1,.mid draw all after live k b fl (⟨d,g,op⟩::ops) st,ps,K=>by
  simp only [WZ];split
  ·exact ⟨_,_,rfl,fun h=>⟨h,fun h=>h⟩⟩
  ·split
   ·split
    ·rename_i b' st' r c he;obtain ⟨c',ps',h1,h2⟩:=w8 f (.mid draw all after live k b' ((r,c)::fl) ops st') ps K;exact ⟨c',ps',h1,fun h=>⟨(h2 h).1,fun hg=>Mid.eff he ((h2 h).2 hg)⟩⟩
    ·split
     ·rename_i st' l hs;obtain ⟨c',ps',h1,h2⟩:=w8 f (.mid draw all after live k b ((l,false)::fl) ops st') ps K;exact ⟨c',ps',h1,fun h=>⟨(h2 h).1,fun hg=>Mid.zfb hs ((h2 h).2 hg)⟩⟩
     ·rename_i p q st' l hs;obtain ⟨c',ps',h1,h2⟩:=w8 f (.mid draw all after live k b ((l,false)::fl) ops st') ((p::q)::ps) K;exact ⟨c',ps',h1,fun h=>⟨(h2 h).1.2,fun hg=>Mid.pure hs (h2 h).1.1 ((h2 h).2 hg)⟩⟩
     ·exact ⟨_,_,rfl,fun h=>⟨h,fun h=>h⟩⟩
   ·split
    ·rename_i st' l hs;obtain ⟨c',ps',h1,h2⟩:=w8 f (.mid draw all after live k b ((l,false)::fl) ops st') ps K;exact ⟨c',ps',h1,fun h=>⟨(h2 h).1,fun hg=>Mid.grd hs trivial ((h2 h).2 hg)⟩⟩
    ·rename_i p q st' l hs;obtain ⟨c',ps',h1,h2⟩:=w8 f (.mid draw all after live k b ((l,false)::fl) ops st') ((p::q)::ps) K;exact ⟨c',ps',h1,fun h=>⟨(h2 h).1.2,fun hg=>Mid.grd hs (h2 h).1.1 ((h2 h).2 hg)⟩⟩
    ·exact ⟨_,_,rfl,fun h=>⟨h,fun h=>h⟩⟩
def Cfg.zgE:Cfg->Bool
 | .run k _=>match ZW 200 k with| .c (.region _ _ _ _)::_=>true|_=>false
 | .mid _ _ _ _ _ _ _ [] _=>true
 | .mid _ _ _ _ _ b _ (⟨d,g,op⟩::_) st=>
  match op.zgD with
  |true=>false
  |false=>
   match g with
   |none=>match z9N b st d op with|some _=>true|none=>match z2J st d op with|some _=>true|none=>false
   |some (s,want)=>match stepG st d s want op with|some _=>true|none=>false
def Q8 (f:Nat) (c:Cfg):Option (Cfg×List (List Bool)):=
 match c.zgE with
 |true=>WZ f c [] fun c' ps=>some (c',ps)
 |false=>none
theorem Go.Q8 {f:Nat} {c c':Cfg} {ps:List (List Bool)} (h:Q8 f c=some (c',ps)) (hp:z2v ps) (h':Go P n m R c'):Go P n m R c:=by
 unfold Go.GB.Q8 at h;split at h
 ·obtain ⟨c2,ps2,h1,h2⟩:=w8 (P:=P) (n:=n) (m:=m) (R:=R) f c [] fun c' ps=>some (c',ps);rw [h1] at h;simp at h;obtain ⟨rfl,rfl⟩:=h;exact (h2 hp).2 h'
 ·cases h
theorem Run.Q8 {f:Nat} {k:List It} {st:St} {c':Cfg} {ps:List (List Bool)} (h:Q8 f (.run k st)=some (c',ps)) (hp:z2v ps) (h':Go P n m R c'):Run P n m R k st:=Go.Q8 (c:= .run k st) h hp h'
theorem Mid.Q8 {f:Nat} {c':Cfg} {ps:List (List Bool)} (h:Q8 f (.mid draw all after live k b fl ops st)=some (c',ps)) (hp:z2v ps) (h':Go P n m R c'):Mid P n m R draw all after live k b fl ops st:=Go.Q8 (c:= .mid draw all after live k b fl ops st) h hp h'
attribute [irreducible] Run Mid
end
section
variable {P:Program} {n m:Nat} {R:St->Prop}
variable {draw:Bool} {all:List AO} {after:List (List Nat)} {live:List Nat} {k:List It} {b:Nat} {fl:List (Bool×Bool)} {ops:List AO} {st st':St} {d:Option Nat} {b':Nat}
theorem fR {k:List It} {st:St} {c':Cfg} {ps:List (List Bool)} (h:Q8 200 (.run k st)=some (c',ps)) (h':Go P n m R c') (hp:z2v ps:=by (repeat' (first |exact trivial|exact w12 _|exact Qi _|exact Qg _|exact grd3 _ _|exact Qk _ _|refine And.intro ?_ ?_|exact rfl|(simp;done)|(simp<;>omega)));done):Run P n m R k st:=
 Run.Q8 h hp h'
theorem fM {c':Cfg} {ps:List (List Bool)} (h:Q8 200 (.mid draw all after live k b fl ops st)=some (c',ps)) (h':Go P n m R c') (hp:z2v ps:=by (repeat' (first |exact trivial|exact w12 _|exact Qi _|exact Qg _|exact grd3 _ _|exact Qk _ _|refine And.intro ?_ ?_|exact rfl|(simp;done)|(simp<;>omega)));done):Mid P n m R draw all after live k b fl ops st:=
 Mid.Q8 h hp h'
theorem aL {x y:Ar} {i jn:Nat} {j:Int} (hx:rd true st x=(.t (.int .i64 i),[])) (hy:rd true st y=(.t (.int .i64 j),[])) (hj:q8 j.toNat some=some jn) (hjn:j=(jn:Int)) (hs:zP st d (.t (.int .i64 ((i+jn:Nat):Int))) some=some st') (h':Mid P n m R draw all after live k b ((false,false)::fl) ops st') (h2:i+jn<=9223372036854775807:=by omega):Mid P n m R draw all after live k b fl (⟨d,none,.bin .add x y⟩::ops) st:=
 Mid.zhB hx hy hj hjn h2 hs h'
theorem a64 {x y:Ar} {i j:Int} (hx:rd true st x=(.t (.int .i64 i),[])) (hy:rd true st y=(.t (.int .i64 j),[])) (hs:zP st d (.t (.int .i64 (i+j))) some=some st') (h':Mid P n m R draw all after live k b ((false,false)::fl) ops st') (h1:-9223372036854775808<=i+j:=by omega) (h2:i+j<=9223372036854775807:=by omega):Mid P n m R draw all after live k b fl (⟨d,none,.bin .add x y⟩::ops) st:=
 Mid.zhc hx hy h1 h2 hs h'
theorem s64 {x y:Ar} {i j:Int} (hx:rd true st x=(.t (.int .i64 i),[])) (hy:rd true st y=(.t (.int .i64 j),[])) (hs:zP st d (.t (.int .i64 (i - j))) some=some st') (h':Mid P n m R draw all after live k b ((false,false)::fl) ops st') (h1:-9223372036854775808<=i - j:=by omega) (h2:i - j<=9223372036854775807:=by omega):Mid P n m R draw all after live k b fl (⟨d,none,.bin .sub x y⟩::ops) st:=
 Mid.zgA hx hy h1 h2 hs h'
theorem lM {α:Type} {f:α->List T} {l:List α} {x:Ar} {v:V} (hx:rd true st x=(v,[])) (hv:v.zw=some (.lst (l.map f))) (hs:zP st d (.t (.int .i64 l.length)) some=some st') (h':Mid P n m R draw all after live k b ((false,false)::fl) ops st'):Mid P n m R draw all after live k b fl (⟨d,none,.len x⟩::ops) st:=
 Mid.zgd hx hv hs h'
theorem lTo {α:Type} {f:α->List T} {l:List α} {sz:Nat} {x hi:Ar} {v:V} {kd:IntKind} {j:Nat} (hx:rd true st x=(v,[])) (hv:v.zw=some (.lst (l.map f))) (hh:rd true st hi=(.t (.int kd j),[])) (hs:zP st d (.t (.lst ((l.take j).map f))) some=some st') (h':Mid P n m R draw all after live k b ((false,false)::fl) ops st') (hj:j<=l.length:=by omega) (hsz:∀x,(f x).length=sz:=by intros;rfl):Mid P n m R draw all after live k b fl (⟨d,none,.sll sz x none (some hi)⟩::ops) st:=
 Mid.zgZ hx hv hh hj hsz hs h'
theorem zgv {α:Type} {f:α->List T} {l:List α} {sz:Nat} {x lo:Ar} {v:V} {kd:IntKind} {j:Nat} (hx:rd true st x=(v,[])) (hv:v.zw=some (.lst (l.map f))) (hh:rd true st lo=(.t (.int kd j),[])) (hs:zP st d (.t (.lst ((l.drop j).map f))) some=some st') (h':Mid P n m R draw all after live k b ((false,false)::fl) ops st') (hj:j<=l.length:=by omega) (hsz:∀x,(f x).length=sz:=by intros;rfl):Mid P n m R draw all after live k b fl (⟨d,none,.sll sz x (some lo) none⟩::ops) st:=
 Mid.zao hx hv hh hj hsz hs h'
theorem lMG {α:Type} {f:α->List T} {l:List α} {s:Nat} {want gc:Bool} {x:Ar} {v:V} {p1:List Bool} (hg:yD want (look st.env s)=some gc) (hx:rd gc st x=(v,p1)) (hv:v.zw=some (.lst (l.map f))) (hs:zP st d (.gd gc (.t (.int .i64 l.length))) some=some st') (h':Mid P n m R draw all after live k b ((false,false)::fl) ops st') (hp1:Zg (p1.map fun p=>!gc||p):=by (repeat' (first |exact trivial|exact w12 _|exact Qi _|exact Qg _|exact grd3 _ _|exact Qk _ _|refine And.intro ?_ ?_|exact rfl|(simp;done)|(simp<;>omega)));done):Mid P n m R draw all after live k b fl (⟨d,some (s,want),.len x⟩::ops) st:=
 Mid.zev hg hx hv hp1 hs h'
theorem zgR {s:Nat} {want gc:Bool} {x y:Ar} {i j:Int} {p1 p2:List Bool} (hg:yD want (look st.env s)=some gc) (hx:rd gc st x=(.t (.int .i64 i),p1)) (hy:rd gc st y=(.t (.int .i64 j),p2)) (hs:zP st d (.gd gc (.t (.int .i64 (i - j)))) some=some st') (h':Mid P n m R draw all after live k b ((false,false)::fl) ops st') (h1:-9223372036854775808<=i - j:=by omega) (h2:i - j<=9223372036854775807:=by omega) (hp1:Zg (p1.map fun p=>!gc||p):=by (repeat' (first |exact trivial|exact w12 _|exact Qi _|exact Qg _|exact grd3 _ _|exact Qk _ _|refine And.intro ?_ ?_|exact rfl|(simp;done)|(simp<;>omega)));done) (hp2:Zg (p2.map fun p=>!gc||p):=by (repeat' (first |exact trivial|exact w12 _|exact Qi _|exact Qg _|exact grd3 _ _|exact Qk _ _|refine And.intro ?_ ?_|exact rfl|(simp;done)|(simp<;>omega)));done):Mid P n m R draw all after live k b fl (⟨d,some (s,want),.bin .sub x y⟩::ops) st:=
 Mid.zfq hg hx hy h1 h2 hp1 hp2 hs h'
theorem p0 {op:AOp} {l:Bool} (h:z2J st d op=some ([],st',l)) (h':Mid P n m R draw all after live k b ((l,false)::fl) ops st'):Mid P n m R draw all after live k b fl (⟨d,none,op⟩::ops) st:=
 Mid.zfb h h'
theorem gr {op:AOp} {s:Nat} {want:Bool} {ps:List Bool} {l:Bool} (h:stepG st d s want op=some (ps,st',l)) (h':Mid P n m R draw all after live k b ((l,false)::fl) ops st') (hp:Zg ps:=by (repeat' (first |exact trivial|exact w12 _|exact Qi _|exact Qg _|exact grd3 _ _|exact Qk _ _|refine And.intro ?_ ?_|exact rfl|(simp;done)|(simp<;>omega)));done):Mid P n m R draw all after live k b fl (⟨d,some (s,want),op⟩::ops) st:=
 Mid.grd h hp h'
theorem pu {op:AOp} {ps:List Bool} {l:Bool} (h:z2J st d op=some (ps,st',l)) (h':Mid P n m R draw all after live k b ((l,false)::fl) ops st') (hp:Zg ps:=by (repeat' (first |exact trivial|exact w12 _|exact Qi _|exact Qg _|exact grd3 _ _|exact Qk _ _|refine And.intro ?_ ?_|exact rfl|(simp;done)|(simp<;>omega)));done):Mid P n m R draw all after live k b fl (⟨d,none,op⟩::ops) st:=
 Mid.pure h hp h'
theorem byG {s:Nat} {want gc:Bool} {x i:Ar} {kd:IntKind} {j:Nat} {str:List UInt8} {c:UInt8} {p1 p2:List Bool} (hg:yD want (look st.env s)=some gc) (hx:rd gc st x=(.t (.str str),p1)) (hi:rd gc st i=(.t (.int kd j),p2)) (hc:str[j]?=some c) (hs:zP st d (.gd gc (.t (.int .u8 c.toNat))) some=some st') (h':Mid P n m R draw all after live k b ((false,false)::fl) ops st') (hp1:Zg (p1.map fun p=>!gc||p):=by (repeat' (first |exact trivial|exact w12 _|exact Qi _|exact Qg _|exact grd3 _ _|exact Qk _ _|refine And.intro ?_ ?_|exact rfl|(simp;done)|(simp<;>omega)));done) (hp2:Zg (p2.map fun p=>!gc||p):=by (repeat' (first |exact trivial|exact w12 _|exact Qi _|exact Qg _|exact grd3 _ _|exact Qk _ _|refine And.intro ?_ ?_|exact rfl|(simp;done)|(simp<;>omega)));done):Mid P n m R draw all after live k b fl (⟨d,some (s,want),.ixs x i⟩::ops) st:=
 Mid.zgK hg hx hi hc hp1 hp2 hs h'
theorem elG {α:Type} {f:α->List T} {l:List α} {e:α} {sz j:Nat} {s:Nat} {want gc:Bool} {x i:Ar} {v:V} {kd:IntKind} {p1 p2:List Bool} (hg:yD want (look st.env s)=some gc) (hx:rd gc st x=(v,p1)) (hv:v.zw=some (.lst (l.map f))) (hi:rd gc st i=(.t (.int kd j),p2)) (hc:l[j]?=some e) (hl:(Nat.beq (f e).length sz&&!(Nat.beq sz 0))=true) (hs:zP st d (.gd gc (.t (.ptr (f e)))) some=some st') (h':Mid P n m R draw all after live k b ((false,false)::fl) ops st') (hp1:Zg (p1.map fun p=>!gc||p):=by (repeat' (first |exact trivial|exact w12 _|exact Qi _|exact Qg _|exact grd3 _ _|exact Qk _ _|refine And.intro ?_ ?_|exact rfl|(simp;done)|(simp<;>omega)));done) (hp2:Zg (p2.map fun p=>!gc||p):=by (repeat' (first |exact trivial|exact w12 _|exact Qi _|exact Qg _|exact grd3 _ _|exact Qk _ _|refine And.intro ?_ ?_|exact rfl|(simp;done)|(simp<;>omega)));done):Mid P n m R draw all after live k b fl (⟨d,some (s,want),.ia sz x i⟩::ops) st:=
 Mid.zch hg hx hv hi hc hl hp1 hp2 hs h'
theorem caG {f:FuncId} {s:Nat} {want gc:Bool} {args:List Ar} {vs:List V} {ps:List Bool} {x:V} (hg:yD want (look st.env s)=some gc) (hv:z4V gc st args (fun vs ps=>some (vs,ps))=some (vs,ps)) (h:gc=true->∃vs',vs=vs'/\z6 P f vs' ⟨[],0⟩ {v:=x}/\V.bds 0 vs'=true) (hx:x.bd 0=true) (hs:zP st d (.gd gc x) some=some st') (h':Mid P n m R draw all after live k b ((false,false)::fl) ops st') (hp:Zg (ps.map fun p=>!gc||p):=by (repeat' (first |exact trivial|exact w12 _|exact Qi _|exact Qg _|exact grd3 _ _|exact Qk _ _|refine And.intro ?_ ?_|exact rfl|(simp;done)|(simp<;>omega)));done):Mid P n m R draw all after live k b fl (⟨d,some (s,want),.call f args⟩::ops) st:=
 Mid.Qr hg hv hp h hx hs h'
theorem apM {α:Type} (f:α->List T) (l1:List α) (l2:List α) {sz by_ j s nn:Nat} {x y:Ar} (hx:x.u st= .own j s (l1.map f)) (hy:(y.u st).zw=some (.lst (l2.map f))) (hn:zj st.s.sto j=some (.arr nn)) (hs:Nat.beq s sz=true) (hst:z2K b st d {v:= .own j sz ((l1++l2).map f),ob:=[(j,.arr (l1++l2).length)],rd:=true} (fun b' st'=>some (b',st'))=some (b',st')) (h':Mid P n m R draw all after live k b' ((true,true)::fl) ops st') (he:nn=l1.length:=by first |rfl|simp) (hl:∀x,(f x).length=sz:=by intros;rfl) (h1:(l1.length+l2.length)*by_<=140737488355328:=by simp;omega) (h2:l1.length+l2.length<=9223372036854775807:=by simp;omega):Mid P n m R draw all after live k b fl (⟨d,none,.app sz by_ x y⟩::ops) st:=
 Mid.appMap f l1 l2 hx hy hn he hs hl h1 h2 hst h'
theorem apN {α:Type} (f:α->List T) (l2:List α) {sz by_:Nat} {x y:Ar} (hx:x.u st= .zC) (hy:(y.u st).zw=some (.lst (l2.map f))) (hst:z2K b st d {v:= .own b sz (l2.map f),ob:=[(b,.arr l2.length)],n:=1} (fun b' st'=>some (b',st'))=some (b',st')) (h':Mid P n m R draw all after live k b' ((false,true)::fl) ops st') (hl:∀x,(f x).length=sz:=by intros;rfl) (h1:l2.length*by_<=140737488355328:=by simp;omega) (h2:l2.length<=9223372036854775807:=by simp;omega):Mid P n m R draw all after live k b fl (⟨d,none,.app sz by_ x y⟩::ops) st:=
 Mid.zaF f l2 hx hy hl h1 h2 hst h'
theorem zl {k k':List It} {c:zL} {st st':St} (j:Nat) (hk:ZW 200 k= .lp c::k') (h:Run P n m R (.lp c::k') st') (h1:Nat.ble m j=true) (h2:Nat.ble j st.s.nxt=true) (h3:Nat.ble j st'.s.nxt=true) (he:LeE j st'.s.nxt st.env st'.env:=by repeat' (first |exact trivial|exact LeX.t|exact LeX.top|exact LeX.Z6 (w11 rfl) (w11 rfl)|exact LeX.yR|exact LeX.yS|exact LeX.same rfl|exact LeX.tEq (by simp)|exact LeX.ZT (by simp) (w11 rfl)|exact LeX.nilGsl (w11 rfl)|exact LeX.fowT|exact LeX.z1r (by first |rfl|omega|simp) (by first |rfl|omega|simp) (by first |rfl|omega|(simp;done)|(simp;omega)) (w11 rfl)|exact LeX.fowEq (by first |rfl|omega) (by simp) (w11 rfl)|exact LeO.z0f (by first |rfl|omega|simp) (zA.gE (by first |rfl|simp) (fun _=>rfl))|refine LeO.z0f (by first |rfl|omega) ?_|exact zA.gE (by first |rfl|simp) (fun _=>rfl)|exact LeO.y8 (by first |rfl|simp)|exact LeX.tEq (by congr 1<;>omega)|exact Or.inr ⟨w11 rfl,w11 rfl,rfl⟩|refine Or.inl ⟨w11 rfl,_,rfl,?_⟩|refine LeO.cells ?_|exact LeO.arr rfl|exact LeO.arr (by simp)|exact LeO.mE (by first |rfl|simp) (by first |exact Or.inl rfl|exact Or.inr rfl)|exact LeO.cE (by first |rfl|simp)|exact zA.cE (by first |rfl|simp)|refine LeO.map (by first |rfl|simp) ?_ (by first |exact Or.inl rfl|exact Or.inr rfl)|exact LeO.iter (by first |rfl|simp) (w11 rfl)|refine zA.cons ?_ ?_|exact zA.nil|refine And.intro ?_ ?_)) (hs:LeS j st'.s.nxt st.s.sto st'.s.sto:=by repeat' (first |exact trivial|exact LeX.t|exact LeX.top|exact LeX.Z6 (w11 rfl) (w11 rfl)|exact LeX.yR|exact LeX.yS|exact LeX.same rfl|exact LeX.tEq (by simp)|exact LeX.ZT (by simp) (w11 rfl)|exact LeX.nilGsl (w11 rfl)|exact LeX.fowT|exact LeX.z1r (by first |rfl|omega|simp) (by first |rfl|omega|simp) (by first |rfl|omega|(simp;done)|(simp;omega)) (w11 rfl)|exact LeX.fowEq (by first |rfl|omega) (by simp) (w11 rfl)|exact LeO.z0f (by first |rfl|omega|simp) (zA.gE (by first |rfl|simp) (fun _=>rfl))|refine LeO.z0f (by first |rfl|omega) ?_|exact zA.gE (by first |rfl|simp) (fun _=>rfl)|exact LeO.y8 (by first |rfl|simp)|exact LeX.tEq (by congr 1<;>omega)|exact Or.inr ⟨w11 rfl,w11 rfl,rfl⟩|refine Or.inl ⟨w11 rfl,_,rfl,?_⟩|refine LeO.cells ?_|exact LeO.arr rfl|exact LeO.arr (by simp)|exact LeO.mE (by first |rfl|simp) (by first |exact Or.inl rfl|exact Or.inr rfl)|exact LeO.cE (by first |rfl|simp)|exact zA.cE (by first |rfl|simp)|refine LeO.map (by first |rfl|simp) ?_ (by first |exact Or.inl rfl|exact Or.inr rfl)|exact LeO.iter (by first |rfl|simp) (w11 rfl)|refine zA.cons ?_ ?_|exact zA.nil|refine And.intro ?_ ?_)):Run P n m R k st:=
 Run.qT j hk h h1 h2 h3 he hs
theorem yM {k k':List It} {c:zL} {st st':St} (j:Nat) (hk:ZW 200 k= .c c::k') (h:Run P n m R (.c c::k') st') (h1:Nat.ble m j=true) (h2:Nat.ble j st.s.nxt=true) (h3:Nat.ble j st'.s.nxt=true) (he:LeE j st'.s.nxt st.env st'.env:=by repeat' (first |exact trivial|exact LeX.t|exact LeX.top|exact LeX.Z6 (w11 rfl) (w11 rfl)|exact LeX.yR|exact LeX.yS|exact LeX.same rfl|exact LeX.tEq (by simp)|exact LeX.ZT (by simp) (w11 rfl)|exact LeX.nilGsl (w11 rfl)|exact LeX.fowT|exact LeX.z1r (by first |rfl|omega|simp) (by first |rfl|omega|simp) (by first |rfl|omega|(simp;done)|(simp;omega)) (w11 rfl)|exact LeX.fowEq (by first |rfl|omega) (by simp) (w11 rfl)|exact LeO.z0f (by first |rfl|omega|simp) (zA.gE (by first |rfl|simp) (fun _=>rfl))|refine LeO.z0f (by first |rfl|omega) ?_|exact zA.gE (by first |rfl|simp) (fun _=>rfl)|exact LeO.y8 (by first |rfl|simp)|exact LeX.tEq (by congr 1<;>omega)|exact Or.inr ⟨w11 rfl,w11 rfl,rfl⟩|refine Or.inl ⟨w11 rfl,_,rfl,?_⟩|refine LeO.cells ?_|exact LeO.arr rfl|exact LeO.arr (by simp)|exact LeO.mE (by first |rfl|simp) (by first |exact Or.inl rfl|exact Or.inr rfl)|exact LeO.cE (by first |rfl|simp)|exact zA.cE (by first |rfl|simp)|refine LeO.map (by first |rfl|simp) ?_ (by first |exact Or.inl rfl|exact Or.inr rfl)|exact LeO.iter (by first |rfl|simp) (w11 rfl)|refine zA.cons ?_ ?_|exact zA.nil|refine And.intro ?_ ?_)) (hs:LeS j st'.s.nxt st.s.sto st'.s.sto:=by repeat' (first |exact trivial|exact LeX.t|exact LeX.top|exact LeX.Z6 (w11 rfl) (w11 rfl)|exact LeX.yR|exact LeX.yS|exact LeX.same rfl|exact LeX.tEq (by simp)|exact LeX.ZT (by simp) (w11 rfl)|exact LeX.nilGsl (w11 rfl)|exact LeX.fowT|exact LeX.z1r (by first |rfl|omega|simp) (by first |rfl|omega|simp) (by first |rfl|omega|(simp;done)|(simp;omega)) (w11 rfl)|exact LeX.fowEq (by first |rfl|omega) (by simp) (w11 rfl)|exact LeO.z0f (by first |rfl|omega|simp) (zA.gE (by first |rfl|simp) (fun _=>rfl))|refine LeO.z0f (by first |rfl|omega) ?_|exact zA.gE (by first |rfl|simp) (fun _=>rfl)|exact LeO.y8 (by first |rfl|simp)|exact LeX.tEq (by congr 1<;>omega)|exact Or.inr ⟨w11 rfl,w11 rfl,rfl⟩|refine Or.inl ⟨w11 rfl,_,rfl,?_⟩|refine LeO.cells ?_|exact LeO.arr rfl|exact LeO.arr (by simp)|exact LeO.mE (by first |rfl|simp) (by first |exact Or.inl rfl|exact Or.inr rfl)|exact LeO.cE (by first |rfl|simp)|exact zA.cE (by first |rfl|simp)|refine LeO.map (by first |rfl|simp) ?_ (by first |exact Or.inl rfl|exact Or.inr rfl)|exact LeO.iter (by first |rfl|simp) (w11 rfl)|refine zA.cons ?_ ?_|exact zA.nil|refine And.intro ?_ ?_)):Run P n m R k st:=
 Run.zhf j hk h h1 h2 h3 he hs
theorem zu {α β:Type} {k k':List It} {c:zL} {st:St} (l:List α) (stf:Nat->β->St) (Inv:List α->Nat->β->Prop) (j:Nat) (b0:β) (hk:ZW 200 k= .c (.loop c)::k') (h0:Inv l 0 b0) (h1:Nat.ble m j=true) (h2:Nat.ble j st.s.nxt=true) (h3:Nat.ble j (stf 0 b0).s.nxt=true) (hend:∀b,Inv [] l.length b->Run P n m R (.c c:: .lp c::k') (stf l.length b)) (hstep:∀(i:Nat) (x:α) (r:List α) (b:β),l[i]?=some x->i<l.length->l.drop (i+1)=r->Inv (x::r) i b->(∀b',Inv r (i+1) b'->Run P n m R (.lp c::k') (stf (i+1) b'))->Run P n m R (.c c:: .lp c::k') (stf i b)) (he:LeE j (stf 0 b0).s.nxt st.env (stf 0 b0).env:=by repeat' (first |exact trivial|exact LeX.t|exact LeX.top|exact LeX.Z6 (w11 rfl) (w11 rfl)|exact LeX.yR|exact LeX.yS|exact LeX.same rfl|exact LeX.tEq (by simp)|exact LeX.ZT (by simp) (w11 rfl)|exact LeX.nilGsl (w11 rfl)|exact LeX.fowT|exact LeX.z1r (by first |rfl|omega|simp) (by first |rfl|omega|simp) (by first |rfl|omega|(simp;done)|(simp;omega)) (w11 rfl)|exact LeX.fowEq (by first |rfl|omega) (by simp) (w11 rfl)|exact LeO.z0f (by first |rfl|omega|simp) (zA.gE (by first |rfl|simp) (fun _=>rfl))|refine LeO.z0f (by first |rfl|omega) ?_|exact zA.gE (by first |rfl|simp) (fun _=>rfl)|exact LeO.y8 (by first |rfl|simp)|exact LeX.tEq (by congr 1<;>omega)|exact Or.inr ⟨w11 rfl,w11 rfl,rfl⟩|refine Or.inl ⟨w11 rfl,_,rfl,?_⟩|refine LeO.cells ?_|exact LeO.arr rfl|exact LeO.arr (by simp)|exact LeO.mE (by first |rfl|simp) (by first |exact Or.inl rfl|exact Or.inr rfl)|exact LeO.cE (by first |rfl|simp)|exact zA.cE (by first |rfl|simp)|refine LeO.map (by first |rfl|simp) ?_ (by first |exact Or.inl rfl|exact Or.inr rfl)|exact LeO.iter (by first |rfl|simp) (w11 rfl)|refine zA.cons ?_ ?_|exact zA.nil|refine And.intro ?_ ?_)) (hs:LeS j (stf 0 b0).s.nxt st.s.sto (stf 0 b0).s.sto:=by repeat' (first |exact trivial|exact LeX.t|exact LeX.top|exact LeX.Z6 (w11 rfl) (w11 rfl)|exact LeX.yR|exact LeX.yS|exact LeX.same rfl|exact LeX.tEq (by simp)|exact LeX.ZT (by simp) (w11 rfl)|exact LeX.nilGsl (w11 rfl)|exact LeX.fowT|exact LeX.z1r (by first |rfl|omega|simp) (by first |rfl|omega|simp) (by first |rfl|omega|(simp;done)|(simp;omega)) (w11 rfl)|exact LeX.fowEq (by first |rfl|omega) (by simp) (w11 rfl)|exact LeO.z0f (by first |rfl|omega|simp) (zA.gE (by first |rfl|simp) (fun _=>rfl))|refine LeO.z0f (by first |rfl|omega) ?_|exact zA.gE (by first |rfl|simp) (fun _=>rfl)|exact LeO.y8 (by first |rfl|simp)|exact LeX.tEq (by congr 1<;>omega)|exact Or.inr ⟨w11 rfl,w11 rfl,rfl⟩|refine Or.inl ⟨w11 rfl,_,rfl,?_⟩|refine LeO.cells ?_|exact LeO.arr rfl|exact LeO.arr (by simp)|exact LeO.mE (by first |rfl|simp) (by first |exact Or.inl rfl|exact Or.inr rfl)|exact LeO.cE (by first |rfl|simp)|exact zA.cE (by first |rfl|simp)|refine LeO.map (by first |rfl|simp) ?_ (by first |exact Or.inl rfl|exact Or.inr rfl)|exact LeO.iter (by first |rfl|simp) (w11 rfl)|refine zA.cons ?_ ?_|exact zA.nil|refine And.intro ?_ ?_)):Run P n m R k st:=
 Run.list l stf Inv j b0 hk h0 h1 h2 h3 he hs hend hstep
theorem z9k {β:Type} {k k':List It} {c:zL} {st:St} (stf:β->St) (Inv:β->Prop) (μ:β->Nat) (j:Nat) (b0:β) (hk:ZW 200 k= .c (.loop c)::k') (h0:Inv b0) (h1:Nat.ble m j=true) (h2:Nat.ble j st.s.nxt=true) (h3:Nat.ble j (stf b0).s.nxt=true) (hstep:∀(b:β),Inv b->(∀b',μ b'<μ b->Inv b'->Run P n m R (.lp c::k') (stf b'))->Run P n m R (.c c:: .lp c::k') (stf b)) (he:LeE j (stf b0).s.nxt st.env (stf b0).env:=by repeat' (first |exact trivial|exact LeX.t|exact LeX.top|exact LeX.Z6 (w11 rfl) (w11 rfl)|exact LeX.yR|exact LeX.yS|exact LeX.same rfl|exact LeX.tEq (by simp)|exact LeX.ZT (by simp) (w11 rfl)|exact LeX.nilGsl (w11 rfl)|exact LeX.fowT|exact LeX.z1r (by first |rfl|omega|simp) (by first |rfl|omega|simp) (by first |rfl|omega|(simp;done)|(simp;omega)) (w11 rfl)|exact LeX.fowEq (by first |rfl|omega) (by simp) (w11 rfl)|exact LeO.z0f (by first |rfl|omega|simp) (zA.gE (by first |rfl|simp) (fun _=>rfl))|refine LeO.z0f (by first |rfl|omega) ?_|exact zA.gE (by first |rfl|simp) (fun _=>rfl)|exact LeO.y8 (by first |rfl|simp)|exact LeX.tEq (by congr 1<;>omega)|exact Or.inr ⟨w11 rfl,w11 rfl,rfl⟩|refine Or.inl ⟨w11 rfl,_,rfl,?_⟩|refine LeO.cells ?_|exact LeO.arr rfl|exact LeO.arr (by simp)|exact LeO.mE (by first |rfl|simp) (by first |exact Or.inl rfl|exact Or.inr rfl)|exact LeO.cE (by first |rfl|simp)|exact zA.cE (by first |rfl|simp)|refine LeO.map (by first |rfl|simp) ?_ (by first |exact Or.inl rfl|exact Or.inr rfl)|exact LeO.iter (by first |rfl|simp) (w11 rfl)|refine zA.cons ?_ ?_|exact zA.nil|refine And.intro ?_ ?_)) (hs:LeS j (stf b0).s.nxt st.s.sto (stf b0).s.sto:=by repeat' (first |exact trivial|exact LeX.t|exact LeX.top|exact LeX.Z6 (w11 rfl) (w11 rfl)|exact LeX.yR|exact LeX.yS|exact LeX.same rfl|exact LeX.tEq (by simp)|exact LeX.ZT (by simp) (w11 rfl)|exact LeX.nilGsl (w11 rfl)|exact LeX.fowT|exact LeX.z1r (by first |rfl|omega|simp) (by first |rfl|omega|simp) (by first |rfl|omega|(simp;done)|(simp;omega)) (w11 rfl)|exact LeX.fowEq (by first |rfl|omega) (by simp) (w11 rfl)|exact LeO.z0f (by first |rfl|omega|simp) (zA.gE (by first |rfl|simp) (fun _=>rfl))|refine LeO.z0f (by first |rfl|omega) ?_|exact zA.gE (by first |rfl|simp) (fun _=>rfl)|exact LeO.y8 (by first |rfl|simp)|exact LeX.tEq (by congr 1<;>omega)|exact Or.inr ⟨w11 rfl,w11 rfl,rfl⟩|refine Or.inl ⟨w11 rfl,_,rfl,?_⟩|refine LeO.cells ?_|exact LeO.arr rfl|exact LeO.arr (by simp)|exact LeO.mE (by first |rfl|simp) (by first |exact Or.inl rfl|exact Or.inr rfl)|exact LeO.cE (by first |rfl|simp)|exact zA.cE (by first |rfl|simp)|refine LeO.map (by first |rfl|simp) ?_ (by first |exact Or.inl rfl|exact Or.inr rfl)|exact LeO.iter (by first |rfl|simp) (w11 rfl)|refine zA.cons ?_ ?_|exact zA.nil|refine And.intro ?_ ?_)):Run P n m R k st:=
 Run.zhb stf Inv μ j b0 hk h0 h1 h2 h3 he hs hstep
end
theorem leSA {m m':Nat} {s s':List (Nat×zd)} (h:LeS m m' s s':=by repeat' (first |exact trivial|exact LeX.t|exact LeX.top|exact LeX.Z6 (Nat.le_of_ble_eq_true rfl) (Nat.le_of_ble_eq_true rfl)|exact LeX.yR|exact LeX.yS|exact LeX.same rfl|exact LeX.tEq (by simp)|exact LeX.ZT (by simp) (Nat.le_of_ble_eq_true rfl)|exact LeX.tEq (by congr 1<;>omega)|exact Or.inr ⟨Nat.le_of_ble_eq_true rfl,Nat.le_of_ble_eq_true rfl,rfl⟩|refine Or.inl ⟨Nat.le_of_ble_eq_true rfl,_,rfl,?_⟩|refine LeO.cells ?_|exact LeO.arr rfl|exact LeO.arr (by simp)|exact LeO.mE (by first |rfl|simp) (by first |exact Or.inl rfl|exact Or.inr rfl)|exact LeO.cE (by first |rfl|simp)|exact zA.cE (by first |rfl|simp)|refine LeO.map (by first |rfl|simp) ?_ (by first |exact Or.inl rfl|exact Or.inr rfl)|exact LeO.iter (by first |rfl|simp) (Nat.le_of_ble_eq_true rfl)|refine zA.cons ?_ ?_|exact zA.nil|refine And.intro ?_ ?_)):LeS m m' s s':=h
theorem leEA {m m':Nat} {s s':List (Nat×V)} (h:LeE m m' s s':=by repeat' (first |exact trivial|exact LeX.t|exact LeX.top|exact LeX.Z6 (Nat.le_of_ble_eq_true rfl) (Nat.le_of_ble_eq_true rfl)|exact LeX.yR|exact LeX.yS|exact LeX.same rfl|exact LeX.tEq (by simp)|exact LeX.ZT (by simp) (Nat.le_of_ble_eq_true rfl)|exact LeX.tEq (by congr 1<;>omega)|exact Or.inr ⟨Nat.le_of_ble_eq_true rfl,Nat.le_of_ble_eq_true rfl,rfl⟩|refine Or.inl ⟨Nat.le_of_ble_eq_true rfl,_,rfl,?_⟩|refine LeO.cells ?_|exact LeO.arr rfl|exact LeO.arr (by simp)|exact LeO.mE (by first |rfl|simp) (by first |exact Or.inl rfl|exact Or.inr rfl)|exact LeO.cE (by first |rfl|simp)|exact zA.cE (by first |rfl|simp)|refine LeO.map (by first |rfl|simp) ?_ (by first |exact Or.inl rfl|exact Or.inr rfl)|exact LeO.iter (by first |rfl|simp) (Nat.le_of_ble_eq_true rfl)|refine zA.cons ?_ ?_|exact zA.nil|refine And.intro ?_ ?_)):LeE m m' s s':=h
structure wX {κ:Type} (ks:List KSh) (ek:κ->List T):Prop where
 ok:∀x,Zd ks (ek x)=true
 eq:∀x y,ZY (ek x) (ek y)=true->x=y
 refl:∀x,ZY (ek x) (ek x)=true
section
variable {κ ν:Type} [DecidableEq κ]
def wa (k:κ):List (κ×ν)->Option ν
 |[]=>none
 |e::r=>if k=e.1 then some e.2 else wa k r
def WL (k:κ) (v:ν):List (κ×ν)->List (κ×ν)
 |[]=>[(k,v)]
 |e::r=>if k=e.1 then (k,v)::r else e::WL k v r
theorem z5d (k k':κ) (v:ν):∀(l:List (κ×ν)),wa k' (WL k v l)=if k'=k then some v else wa k' l
 |[]=>by simp [WL,wa]
 |e::r=>by
  simp only [WL];by_cases h:k=e.1
  ·subst h;simp only [w17,wa]
   split<;>simp_all
  ·simp only [h,w0x,wa,z5d k k' v r];by_cases h2:k'=e.1
   ·subst h2;have:¬ e.1=k:=fun h'=>h h'.symm;simp [this]
   ·simp [h2]
variable {ks:List KSh} {ek:κ->List T} {ev:ν->T}
theorem wX.iff (he:wX ks ek) (x y:κ):ZY (ek x) (ek y)=decide (x=y):=by
 by_cases h:x=y
 ·subst h;simp [he.refl]
 ·cases hk:ZY (ek x) (ek y) with
  |false=>simp [h]
  |true=>exact absurd (he.eq x y hk) h
theorem zas (he:wX ks ek) (k:κ):∀(l:List (κ×ν)),z4B (ek k) (mE ek ev l)=(wa k l).map fun v=> .t (ev v)
 |[]=>rfl
 |e::r=>by
  have:=zas he k r;simp only [mE] at this;simp only [mE,w0n,z4B,he.iff,wa,w0j,this]
  split<;>rfl
theorem z9T (he:wX ks ek) (k:κ) (v:ν):∀(l:List (κ×ν)),z4I (ek k) (.t (ev v)) (mE ek ev l)=mE ek ev (WL k v l)
 |[]=>rfl
 |e::r=>by
  have:=z9T he k v r;simp only [mE] at this;simp only [mE,w0n,z4I,he.iff,WL,w0j,this]
  split<;>rfl
theorem z21 (he:wX ks ek) (l:List (κ×ν)):yg ks (mE ek ev l)=true:=by
 simp [yg,mE,he.ok]
theorem z7c (he:wX ks ek) (k:κ):∀(l:List (κ×ν)),ZZ (ek k) (mE ek ev l)=l.findIdx? (fun e=>decide (k=e.1))
 |[]=>rfl
 |e::r=>by
  have:=z7c he k r;simp only [mE] at this;simp only [mE,w0n,ZZ,he.iff,this,List.findIdx?_cons]
end
def z39 {ρ:Type}:List (Nat×zd)->List (Nat×zd)->(List (Nat×zd)->ρ)->ρ
 |s,[],K=>K s
 |s,(k,o)::r,K=>z5M s k o fun s'=>z39 s' r K
theorem z4n {ρ:Type}:∀(r s:List (Nat×zd)) (K:List (Nat×zd)->ρ),z39 s r K=K (Zf s r)
 |[],s,K=>rfl
 |(k,o)::r,s,K=>by simp only [z39,z1u,z4n r,Zf]
def wA {ρ:Type} (b:Nat) (st:St) (d:Option Nat) (o:Out) (K:Nat->St->ρ):ρ:=
 q8 (b+o.n) fun b'=>o.v.force fun v'=>setEnv st d v' fun e=>z39 st.s.sto o.ob fun sto=>match st with|⟨_,⟨_,nx⟩⟩=>K b' ⟨e,⟨sto,nx⟩⟩
theorem yr {ρ:Type} (b:Nat) (st:St) (d:Option Nat) (o:Out) (K:Nat->St->ρ):wA b st d o K=K (b+o.n) (st.app d o):=by
 obtain ⟨env,⟨sto,nx⟩⟩:=st;simp only [wA,wq,V.force_eq,Zp,z4n]
 cases d<;>rfl
section
variable {P:Program} {n m:Nat} {R:St->Prop}
variable {draw:Bool} {all:List AO} {after:List (List Nat)} {live:List Nat} {k:List It} {b:Nat} {fl:List (Bool×Bool)} {ops:List AO} {st st':St} {d:Option Nat} {b':Nat}
theorem Mid.zfC {op:AOp} {v:V} {ps:List Bool} (hev:zk true st op=some (v,ps)) (hl:Z2 st op=true) (hp:Zg ps) (hs:zP st d v some=some st')
  (h':Mid P n m R draw all after live k b ((true,false)::fl) ops st'):Mid P n m R draw all after live k b fl (⟨d,none,op⟩::ops) st:=by
 simp only [zP,V.force_eq,Zp,St.ZH,w00] at hs
 have e:st'=st.app d {v:=v,rd:=true}:=by rw [←hs];cases d<;>rfl
 rw [e] at h';unfold Mid at h'⊢;simp only [evR,evO,evU,hev,hl]
 exact ⟨hp,by simpa using h'⟩
theorem zbG {gc:Bool} {v:V} {q:Nat} {p:List Bool} (h:v.un gc=(.mp q,p)):yC v=true:=by
 cases v<;>simp [V.un] at h<;>simp_all [yC]
theorem z9u {gc:Bool} {v:V} {q o:Nat} {p:List Bool} (h:v.un gc=(.ptr q o,p)):yC v=true:=by
 cases v<;>simp [V.un] at h<;>simp_all [yC]
section
variable {κ ν:Type} [DecidableEq κ] {ks:List KSh} {kag:Bool} {ek:κ->List T} {ev:ν->T} {l:List (κ×ν)} {sx:Option (Nat×List Nat)} {zv vk:V} {q:Nat} {z:ν} {x y:Ar} {p1 p2:List Bool}
theorem Mid.zh2 (k':κ) (hx:rd true st x=(.mp q,[])) (hq:zj st.s.sto q=some (.map kag (mE ek ev l) sx)) (hk:rd true st y=(vk,[])) (hc:z0g ks kag vk=some (ek k')) (hz:zv= .t (ev z)) (he:wX ks ek)
  (hs:zP st d (.t (ev ((wa k' l).getD z))) some=some st')
  (h':Mid P n m R draw all after live k b ((true,false)::fl) ops st'):Mid P n m R draw all after live k b fl (⟨d,none,.nw (.lookup ks kag zv false x y)⟩::ops) st:=by
 subst hz;refine Mid.zfC (v:= .t (ev ((wa k' l).getD z))) (ps:=[true,true]) ?_ (zbG hx) ⟨rfl,rfl,trivial⟩ hs h';simp only [zk,Zq,hx,hk,hc,hq,zas he,z21 he]
 cases wa k' l<;>simp [okV]
theorem Mid.zfA {w:ν} {zz:Ar} (k':κ) (hx:x.u st= .mp q) (hq:zj st.s.sto q=some (.map kag (mE ek ev l) sx)) (hc:z0g ks kag (y.u st)=some (ek k')) (hw:zz.u st= .t (ev w)) (he:wX ks ek)
  (hst:wA b st d {v:= .top,ob:=[(q,.map kag (mE ek ev (WL k' w l)) none)],rd:=true} (fun b' st'=>some (b',st'))=some (b',st'))
  (h':Mid P n m R draw all after live k b' ((true,true)::fl) ops st'):Mid P n m R draw all after live k b fl (⟨d,none,.nw (.zda ks kag x y zz)⟩::ops) st:=by
 refine Mid.opX Z ?_;simp only [yr,w00,w05] at hst;obtain ⟨rfl,rfl⟩:=hst;simp only [evX,yi,hx,hc,hq,hw,z9T he];exact ⟨⟨trivial,z21 he l⟩,h'⟩
end
theorem Mid.zfD {κ ν:Type} (ek:κ->List T) (ev:ν->T) {kag vag:Bool} (hst:wA b st d {v:= .mp b,ob:=[(b,.map kag (mE ek ev []) (some (0,[])))],n:=1} (fun b' st'=>some (b',st'))=some (b',st'))
  (h':Mid P n m R draw all after live k b' ((false,true)::fl) ops st'):Mid P n m R draw all after live k b fl (⟨d,none,.z3t kag vag⟩::ops) st:=by
 refine Mid.opX Z ?_;simp only [yr,w00,w05] at hst;obtain ⟨rfl,rfl⟩:=hst;simp only [evX];exact h'
theorem Sat.zcC {c:zL} {Q:YZ->St->Prop} {q:Nat} {kag:Bool} {es:List (List T×V)} (hq:zj st.s.sto q=some (.map kag es none))
  (h:∀(cl:Nat) (bs:List Nat),bs.length=es.length->bs.Nodup->(∀s,s∈bs->s<cl)->Sat P n m c {env:=st.env,s:={sto:=Ym st.s.sto q (.map kag es (some (cl,bs))),nxt:=st.s.nxt}} Q):Sat P n m c st Q:=by
 intro code h1 h2 h3 C Λ a h4 h5 h6 h7 h8;obtain ⟨hl,bl,ents,clock,e1,e2,e3⟩:=h7.s.sto q _ hq
 have hnd:(ents.toList.map (·.born)).Nodup:=by
  rw [List.nodup_iff_pairwise_ne,List.pairwise_iff_getElem];intro i j hi hj hij he;simp only [w0r,w1o] at hi hj
  have h1:ents[i]?=some ents[i]:=by simp [hi]
  have h2:ents[j]?=some ents[j]:=by simp [hj]
  simp only [List.getElem_map,Array.getElem_toList] at he;have:=e3.apart i j _ _ h1 h2 he;omega
 have:=h clock (ents.toList.map (·.born)) (by simp [e3.size]) hnd (fun s hs=>by
  simp only [w0m] at hs;obtain ⟨e,he,rfl⟩:=hs;obtain ⟨i,hi,hx⟩:=List.mem_iff_getElem.1 he
  have hi':i<ents.size:=by simpa using hi
  exact e3.born i e (by simp [hi',←hx]))
 refine this code h1 h2 h3 C Λ a h4 h5 h6 ⟨h7.kp,h7.size,h7.defers,h7.env,⟨fun k o hk=>?_,h7.s.inj,h7.s.new,h7.s.bnd,h7.s.frz,h7.s.YX,h7.s.Yu,h7.s.z2g⟩⟩ h8;simp only [Zb] at hk;by_cases e:q=k
 ·subst e;simp at hk;subst hk
  exact ⟨hl,bl,ents,clock,e1,e2,⟨e3.size,e3.at_,e3.born,e3.apart,fun c bs h=>by simp at h;exact h⟩⟩
 ·simp only [e,w0x] at hk;exact h7.s.sto k o hk
theorem Run.zcC {kk:List It} {c:zL} {q:Nat} {kag:Bool} {es:List (List T×V)} (hk:ZW 200 k= .c c::kk) (hq:zj st.s.sto q=some (.map kag es none))
  (h:∀(cl:Nat) (bs:List Nat),bs.length=es.length->bs.Nodup->(∀s,s∈bs->s<cl)->Run P n m R (.c c::kk) {env:=st.env,s:={sto:=Ym st.s.sto q (.map kag es (some (cl,bs))),nxt:=st.s.nxt}}):Run P n m R k st:=by
 refine Run.adv 200 hk ?_;unfold Run at h⊢;simp only [ZE] at h⊢;exact Sat.zcC hq h
theorem z7n {ν:Type} (ev:ν->T):∀(l:List ν),(cE ev l).mapM V.zw=some (l.map ev)
 |[]=>rfl
 |x::r=>by have:=z7n ev r;simp only [cE] at this;simp [cE,V.zw,this]
theorem z3.chg {s:S} {out:Out} {rs:List Qh} {r:V} (hr:z2F st rs=some r) (hn:Nat.ble (s.nxt+out.n) st.s.nxt=true) (h:LeR (s.nxt+out.n) st.s r out.v) (hs:LeS (s.nxt+out.n) (s.nxt+out.n) st.s.sto (Zf s.sto out.ob)):z3 s out rs .ret st:=
 ⟨r,hr,w11 hn,h,.le hs⟩
def W3 (r:List Nat) (b j:Nat):Nat:=match r[j]? with|some k=>k|none=>b+(j - r.length)
def zbB (r:List Nat) (b n k:Nat):Option Nat:=
 match r.findIdx? (fun x=>Nat.beq x k) with
 |some j=>some j
 |none=>if b<=k/\k<b+n then some (r.length+(k - b)) else none
def z0G:List Nat->Bool
 |[]=>true
 |x::r=>!(r.any (Nat.beq x))&&z0G r
theorem z5b:∀{r:List Nat},z0G r=true->r.Nodup
 |[],_=>List.nodup_nil
 |x::r,h=>by
  simp only [z0G,w07,w21] at h;refine w15.2 ⟨fun hm=>?_,z5b h.2⟩
  have:r.any (Nat.beq x)=true:=w1v.2 ⟨x,hm,by simp⟩
  rw [this] at h;cases h.1
theorem zdu {r:List Nat} {b n:Nat} (h1:z0G r=true) (h2:r.all (fun k=>Nat.blt k b)=true):Rn (W3 r b) (zbB r b n) r.length b n:=by
 have hnd:=z5b h1
 have hlt:∀k,k∈r->k<b:=by
  intro k hk;have:=w0i.1 h2 k hk;simpa [Nat.blt_eq] using this
 have beq:∀x k,Nat.beq x k=decide (x=k):=by
  intro x k;by_cases e:x=k
  ·subst e;simp
  ·cases hb:Nat.beq x k with
   |false=>simp [e]
   |true=>exact absurd (w10 hb) e
 refine ⟨fun k j h=>?_,fun j hj=>?_,fun j hj=>?_,fun j hj hj'=>?_⟩
 ·unfold zbB at h;split at h
  ·rename_i i hi;simp at h;subst h;rw [List.findIdx?_eq_some_iff_getElem] at hi;obtain ⟨hi,h3,_⟩:=hi
   refine ⟨?_,by omega⟩
   simp [W3,hi];exact w10 h3
  ·split at h
   ·rename_i hh;simp at h;subst h
    refine ⟨?_,by omega⟩
    simp [W3];omega
   ·cases h
 ·unfold W3;by_cases hl:j<r.length
  ·simp only [w0f hl];unfold zbB
   have:r.findIdx? (fun x=>Nat.beq x r[j])=some j:=by
    rw [List.findIdx?_eq_some_iff_getElem]
    refine ⟨hl,by simp,fun i hi=>?_⟩
    rw [beq];simp only [w0j];exact fun e=>absurd ((List.getElem_inj hnd).1 e) (by omega)
   rw [this]
  ·rw [w19 (by omega)];simp only;unfold zbB
   have:r.findIdx? (fun x=>Nat.beq x (b+(j - r.length)))=none:=by
    rw [List.findIdx?_eq_none_iff];intro x hx;have:=hlt x hx;rw [beq];simp;omega
   rw [this];simp only;rw [w0e (by omega)];congr 1;omega
 ·simp only [W3,w0f hj];exact hlt _ (List.getElem_mem _)
 ·simp only [W3,w19 (by omega:r.length<=j)]
def zcD (ρ:Nat->Nat) (sto s1:List (Nat×zd)):Nat->Prop
 |0=>True
 |j+1=>zj sto (ρ j)=(zj s1 j).map (zd.ren ρ)/\zcD ρ sto s1 j
theorem z6N {ρ:Nat->Nat} {sto s1:List (Nat×zd)}:∀{m:Nat},zcD ρ sto s1 m->∀j,j<m->zj sto (ρ j)=(zj s1 j).map (zd.ren ρ)
 |0,_,j,hj=>by omega
 |m+1,h,j,hj=>by
  by_cases e:j=m
  ·subst e;exact h.1
  ·exact z6N h.2 j (by omega)
def zb6 (s1:List (Nat×zd)) (m n:Nat):List (Nat×zd)->Bool
 |[]=>true
 |(k,_)::r=>Nat.blt k (m+n)&&(s1.any (fun e=>Nat.beq e.1 k)||Nat.ble m k)&&zb6 s1 m n r
theorem zdJ {s:List (Nat×zd)} {k:Nat} (h:s.any (fun e=>Nat.beq e.1 k)=true):zj s k≠none:=by
 induction s with
 |nil=>simp at h
 |cons e r ih=>
  obtain ⟨j,o⟩:=e;simp only [w1d,Bool.or_eq_true] at h;simp only [zj];split
  ·simp
  ·rename_i hne
   rcases h with h|h
   ·exact absurd (w10 h) hne
   ·exact ih h
theorem z3e {s1:List (Nat×zd)} {m n:Nat}:∀{ob:List (Nat×zd)},zb6 s1 m n ob=true->∀k o,(k,o)∈ob->k<m+n/\(zj s1 k≠none∨m<=k)
 |[],_,k,o,h=>by cases h
 |(j,x)::r,h,k,o,hk=>by
  simp only [zb6,w07,Bool.or_eq_true] at h
  rcases w0t.1 hk with e|hk
  ·cases e
   refine ⟨by simpa [Nat.blt_eq] using h.1.1,?_⟩
   rcases h.1.2 with h|h
   ·exact .inl (zdJ h)
   ·exact .inr (w11 h)
  ·exact z3e h.2 k o hk
def z2G (ρ:Nat->Nat):List (Nat×zd)->List (Nat×zd)
 |[]=>[]
 |(k,o)::r=>(ρ k,o.ren ρ)::z2G ρ r
theorem z1l (ρ:Nat->Nat):∀(l:List (Nat×zd)),z2G ρ l=l.map fun e=>(ρ e.1,e.2.ren ρ)
 |[]=>rfl
 |(k,o)::r=>by simp [z2G,z1l ρ r]
theorem Mid.yH {f:FuncId} {args:List Ar} {vs vs':List V} {s1:List (Nat×zd)} {m1:Nat} {out:Out} {v':V} {ob':List (Nat×zd)} {cc:Bool} (r:List Nat) (h:z6 P f vs ⟨s1,m1⟩ out) (hr:(z0G r&&(r.all (fun k=>Nat.blt k b))&&Nat.beq r.length m1)=true)
  (hv:z0r st args some=some vs') (hvs:V.wb (W3 r b) vs=vs') (hb:V.bds m1 vs=true) (hs1:Z1 m1 s1=true) (hsub:zcD (W3 r b) st.s.sto s1 m1) (hob:zb6 s1 m1 out.n out.ob=true)
  (hv':out.v.ren (W3 r b)=v') (hob':z2G (W3 r b) out.ob=ob') (hcc:Qm (!ob'.isEmpty||decide (0<out.n)) some=some cc)
  (hst:wA b st d {v:=v',ob:=ob',n:=out.n,rd:=true} (fun b' st'=>some (b',st'))=some (b',st'))
  (h':Mid P n m R draw all after live k b' ((true,cc)::fl) ops st'):Mid P n m R draw all after live k b fl (⟨d,none,.call f args⟩::ops) st:=by
 simp only [w07] at hr;obtain ⟨⟨hr1,hr2⟩,hr3⟩:=hr;have hm:r.length=m1:=w10 hr3;subst hm;rw [Wy] at hv;simp at hv;refine Mid.opX Z ?_;simp only [evX];refine z0d.le (Qj.pure _) ?_;rw [hv,←hvs]
 have hat:FnL P f (V.wb (W3 r b) vs) b st.s.sto {v:=v',ob:=ob',n:=out.n,rd:=true}:=by
  intro s' hk;have hrn:=zdu (n:=out.n) hr1 hr2;have:=z6.ren hrn h hb hs1 (fun j hj=>(hk _ (hrn.low j hj)).trans (z6N hsub j hj)) (z3e hob);rw [hv',←z1l,hob'] at this;exact this
 simp only [Wf,w00] at hcc;simp only [yr,w00,w05] at hst;obtain ⟨rfl,rfl⟩:=hst
 refine ⟨{v:=v',ob:=ob',n:=out.n,rd:=true},by simp only [w17];exact hat,?_⟩
 simp only [hcc];exact h'
theorem Mid.Ql {f:FuncId} {args:List Ar} {vs vs':List V} {s1:List (Nat×zd)} {m1:Nat} {x:V} (r:List Nat) (h:z6 P f vs ⟨s1,m1⟩ {v:=x,rd:=true}) (hr:(z0G r&&(r.all (fun k=>Nat.blt k b))&&Nat.beq r.length m1)=true)
  (hv:z0r st args some=some vs') (hvs:V.wb (W3 r b) vs=vs') (hb:V.bds m1 vs=true) (hs1:Z1 m1 s1=true) (hsub:zcD (W3 r b) st.s.sto s1 m1)
  (hst:zP st d (x.ren (W3 r b)) some=some st')
  (h':Mid P n m R draw all after live k b ((true,false)::fl) ops st'):Mid P n m R draw all after live k b fl (⟨d,none,.call f args⟩::ops) st:=by
 refine Mid.yH r h hr hv hvs hb hs1 hsub Z Z Z Z (b':=b) (st':=st.app d {v:=x.ren (W3 r b),rd:=true}) (by simp only [yr];rfl) ?_;simp only [zP,V.force_eq,Zp,St.ZH,w00] at hst
 have e:st'=st.app d {v:=x.ren (W3 r b),rd:=true}:=by rw [←hst];cases d<;>rfl
 rw [e] at h';exact h'
end
end Go.GB
namespace Go.GB
open Go.ChangeMaps (setBlock)
section
variable {P:Program} {o:Oper} {st:St}
theorem z6X {w w1:World} {b:Nat} {ob:Obj} (h:w1=w∨w1=w.drew):YH w (setBlock w1 b ob) b:=by
 rcases h with rfl|rfl
 ·exact ⟨rfl,rfl,rfl,by simp [setBlock],fun c hc=>by simp [setBlock,Ne.symm hc]⟩
 ·exact ⟨rfl,rfl,rfl,by show (w.heap.setIfInBounds b ob).size=w.heap.size;simp,fun c hc=>by show (w.heap.setIfInBounds b ob)[c]?=w.heap[c]?;simp [Ne.symm hc]⟩
theorem zg1 {x:Operand} {x':Ar} {k q c:Nat} {seen bs:List Nat} {kag:Bool} {es:List (List T×V)} (hop:o.op= .next x false) (hx:opA x=some x') (hxv:x'.u st= .ptr k 0)
  (hit:zj st.s.sto k=some (.iter q c seen c)) (hes:zj st.s.sto q=some (.map kag es (some (c,bs)))) {C:Ctx} {Λ:L} {a:Act} {next:Act->World->Prop} {Q:Exit->Act->World->Prop} (hr:Rel C Λ st a)
  (h0:(∀s,s∈bs->s∈seen)->∀v,zr Λ v (.tup [.t (.bool false)])->next (a.put o.dst v) Λ.w)
  (h1:∀(i:Nat) (e:List T×V) (s:Nat),es[i]?=some e->bs[i]?=some s->s∉seen->∀v (Λ':L),Kp Λ Λ'->Λ'.nxt=Λ.nxt->zT Λ' (st.s.app {v:= .top,ob:=[(k,.iter q c (seen++[s]) c)]})->
   zr Λ' v (.tup [.t (.bool true),z2Y kag e.1,e.2])->(∀k,ZU Λ k->ZU Λ' k)->next (a.put o.dst v) Λ'.w):o.wp P a Λ.w next Q:=by
 have hx1:=hr.opu hx;rw [hxv] at hx1;generalize hex:a.eval x=u at hx1;obtain ⟨hkn,b,bm,e1,e2,e3,e4⟩:=hr.s.sto k _ hit;obtain ⟨ents,clock,hh,hM⟩:=hr.s.Wr hes e3;obtain ⟨rfl,k2⟩:=hM.known c bs rfl
 have hold:∀y∈ents.toList,y.born<clock:=by
  intro y hy;obtain ⟨i,hi⟩:=w0v.1 hy;exact hM.born i y (by simpa using hi)
 cases hx1 with
 |@ptr b' _ _ hkl hb'=>
  obtain rfl:=hr.s.inj b' b k hb' e1
  rcases run_next_at (P:=P) Λ.w o.type b' bm clock clock seen.toArray ents clock e2 hh hold (w09 _) with ⟨g0,hrun⟩|⟨e,he,w1,hw1,hrun⟩
  ·have hrun':(execOp a.eval o).run P Λ.w= .ok (.value (.tuple #[.bool false])) Λ.w:=by
    simp only [execOp,hop,hex];simp only [Sem.run_bind,hrun,Result.andThen_ok,Sem.run_pure]
   unfold Oper.wp;rw [hrun'];refine h0 (fun s hs=>?_) _ (.tup Z fun j u d h1 h2=>?_)
   ·rw [←k2] at hs;obtain ⟨y,hy,rfl⟩:=w0m.1 hs;have:=all_seen ents seen.toArray g0 y hy;simpa using this
   ·match j,h1,h2 with
    |0,h1,h2=>simp at h1 h2;subst h1;subst h2;exact .t (.bool _)
  ·obtain ⟨hem,hes'⟩:=mem_left he;obtain ⟨i,hi⟩:=w0v.1 hem
   have hi':ents[i]?=some e:=by simpa using hi
   have hil:i<es.length:=by rw [←hM.size];exact (w1s.1 hi').1
   have hee:es[i]?=some es[i]:=by simp [hil]
   have hbb:bs[i]?=some e.born:=by rw [←k2,w0c,hi];rfl
   have hns:e.born∉seen:=by simpa using hes'
   obtain ⟨q1,q2⟩:=hM.at_ i e _ hi' hee
   have hrun':(execOp a.eval o).run P Λ.w= .ok (.value (.tuple #[.bool true,e.key,e.val])) (setBlock w1 b' (.mapIter (some bm) clock (seen.toArray.push e.born) clock)):=by
    simp only [execOp,hop,hex];simp only [Sem.run_bind,hrun,Result.andThen_ok,Sem.run_pure]
   unfold Oper.wp;rw [hrun'];have hwr:=z6X (w:=Λ.w) (w1:=w1) (b:=b') (ob:= .mapIter (some bm) clock (seen.toArray.push e.born) clock) hw1;have hkp:=Kp.wrote hwr hb'
   have hat:(setBlock w1 b' (.mapIter (some bm) clock (seen.toArray.push e.born) clock)).heap[b']?=some (.mapIter (some bm) clock (seen++[e.born]).toArray clock):=by
    have hlt:b'<Λ.w.heap.size:=z1F e2
    rw [show (seen++[e.born]).toArray=seen.toArray.push e.born from by simp]
    rcases hw1 with rfl|rfl
    ·show (Λ.w.heap.setIfInBounds b' _)[b']?=_;simp [hlt]
    ·show (Λ.w.heap.setIfInBounds b' _)[b']?=_;simp [hlt]
   refine h1 i _ _ hee hbb hns _ _ hkp Z ?_ (.tup Z fun j u d h1 h2=>?_) (fun k h=>⟨h.obj,h.arr,h.fro,h.fob,h.far,h.frf⟩)
   ·refine hr.s.step hkp Z (fun j ob hj=>?_) hr.s.inj (fun c hc=>hr.s.new c (by rw [hwr.size] at hc;exact hc)) hr.s.bnd hr.s.frz (Z7.wrote hwr hb');simp only [S.app,Zf] at hj;rw [Zb] at hj;split at hj
    ·rename_i e;subst e;simp at hj;subst hj;exact .inr ⟨hkn,b',bm,hb',hat,e3,e4⟩
    ·rename_i hne;refine .inl ⟨hj,fun c hc=>?_,rfl⟩
     have:c≠b':=by rintro rfl;rw [hb'] at hc;simp at hc;exact hne hc
     exact hwr.old c this
   ·match j,h1,h2 with
    |0,h1,h2=>simp at h1 h2;subst h1;subst h2;exact .t (.bool _)
    |1,h1,h2=>simp at h1 h2;subst h1;subst h2;exact q1.z2Y.mono hkp
    |2,h1,h2=>simp at h1 h2;subst h1;subst h2;exact q2.mono hkp
theorem zeL {ops:Array Oper} {d:Nat} {x:Ar} (h:z4G P ops o=some ⟨some d,none,.nw (.nxt x)⟩):o.guard=none/\o.dst=some d/\∃y,o.op= .next y false/\opA y=some x:=by
 unfold z4G at h;split at h
 ·cases h
 ·rename_i op hop;split at h
  ·rename_i hg;simp only [w00,AO.mk.injEq,true_and] at h;obtain ⟨h1,rfl⟩:=h;refine ⟨hg,h1,?_⟩
   rcases We hop with h2|⟨nop,h2,h3⟩
   ·exfalso;unfold ZV at h2
    (repeat' split at h2)<;>simp [w01] at h2
    all_goals try (obtain ⟨_,_,_,_,h2⟩:=h2;split at h2<;>simp [w01] at h2;done)
   ·simp only [AOp.nw.injEq] at h2;subst h2;unfold z86 at h3
    (repeat' split at h3)<;>simp [w01] at h3
    exact ⟨_,by assumption,h3⟩
  ·split at h<;>simp at h
theorem Sat.nxt {n m:Nat} {Q:YZ->St->Prop} {d:Nat} {x:Ar} {rest:List AO} {after:List (List Nat)} {live:List Nat} {k q c:Nat} {seen bs:List Nat} {kag:Bool} {es:List (List T×V)} (hxv:x.u st= .ptr k 0)
  (hit:zj st.s.sto k=some (.iter q c seen c)) (hes:zj st.s.sto q=some (.map kag es (some (c,bs))))
  (h0:(∀s,s∈bs->s∈seen)->evR P st.s.nxt (st.app (some d) {v:= .tup [.t (.bool false)]}) rest [(true,true)] (fun b st' fl=>z5e false [] [] fl st'.env/\Q .normal (z2B live b st')))
  (h1:∀(i:Nat) (e:List T×V) (s:Nat),es[i]?=some e->bs[i]?=some s->s∉seen->
   evR P st.s.nxt (st.app (some d) {v:= .tup [.t (.bool true),z2Y kag e.1,e.2],ob:=[(k,.iter q c (seen++[s]) c)]}) rest [(true,true)] (fun b st' fl=>z5e false [] [] fl st'.env/\Q .normal (z2B live b st'))):
  Sat P n m (.region false (⟨some d,none,.nw (.nxt x)⟩::rest) after live) st Q:=by
 intro code g1 g2 g3 C Λ a g4 g5 g6 g7 g8;have:=ZJ g1;simp only [zL.bare] at this;obtain ⟨id,os,rfl,hres,haft,_⟩:=this
 have hd:zae C os:=by
  intro j p d hp hpd;simp only [codeOk,Array.all_eq_true'] at g2;have:=g2 p (Array.mem_of_getElem? hp);rw [hpd] at this;rw [g5];simpa using this
 obtain ⟨hlen,hat⟩:=Qx hres
 have h0lt:0<os.size:=by rw [←w1o,hlen];simp
 have ho:os[0]?=some os[0]:=by simp [h0lt]
 obtain ⟨q1,q2,y,q3,q4⟩:=zeL (hat 0 os[0] _ (by simp) rfl);have hdn:d<C.n:=hd 0 _ d ho q2
 have hfree:∀k,st.s.nxt<=k->ZU Λ k/\zj st.s.sto k=none:=by
  intro k hk;refine ⟨g7.s.free (by omega),?_⟩
  cases ha:zj st.s.sto k with
  |none=>rfl
  |some o=>have:=(g7.s.sto k o ha).1;omega
 refine wp_region ?_;rw [List.range_eq_range',←w1o,hlen,w0d,List.range'_succ,wpOps_cons]
 have hw:Region.wanted os[0] (yielded os a.tmps)=true:=by simp [Region.wanted,q1]
 simp only [wpOp,ho,hw,w17];refine .inl ?_
 have fin:∀(st1:St) (Λ1:L) (a1:Act),Rel C Λ1 st1 a1->Λ1.nxt=Λ.nxt->(∀k,st.s.nxt<=k->ZU Λ1 k/\zj st1.s.sto k=none)->
   evR P st.s.nxt st1 rest [(true,true)] (fun b st' fl=>z5e false [] [] fl st'.env/\Q .normal (z2B live b st'))->wpOps P os (z8R C Q) (List.range' (0+1) rest.length) a1 Λ1.w:=by
  intro st1 Λ1 a1 hr1 hn1 hf1 h;obtain ⟨outs,b',st',hch,hq⟩:=z2h h;have hle:=Ch.le hch;have hr':=hr1.up (m:=b') (by omega)
  exact z6U (Q:=z8R C Q) g4 hd hres b' rest 1 st.s.nxt st1 outs (Λ1.up b') a1 Z hch hr' Z (w09 _) (fun k k1 k2=>⟨⟨(hf1 k k1).1.obj,(hf1 k k1).1.arr,(hf1 k k1).1.fro,(hf1 k k1).1.fob,(hf1 k k1).1.far,(hf1 k k1).1.frf⟩,(hf1 k k1).2⟩)
   fun a' Λ' k1 k2=>⟨.normal,_,Λ',rfl,hq.2,k1.ZX live b',k2,rfl⟩
 refine zg1 q3 q4 hxv hit hes g7 (fun hs v hv=>?_) (fun i e s he hb hn v Λ' k1 k2 k3 k4 k5=>?_)
 ·have:=g7.step (Λ':=Λ) (Kp.refl _) (d:=some d) (fun z hz=>by simp at hz;subst hz;exact hdn) (v:=v) (o:={v:= .tup [.t (.bool false)]}) hv g7.s
  rw [q2];exact fin _ Λ _ this Z hfree (h0 hs)
 ·have:=g7.step k1 (d:=some d) (fun z hz=>by simp at hz;subst hz;exact hdn) (v:=v) (o:={v:= .tup [.t (.bool true),z2Y kag e.1,e.2],ob:=[(k,.iter q c (seen++[s]) c)]}) k4 k3
  rw [q2];refine fin _ Λ' _ this k2 (fun j hj=>?_) (h1 i e s he hb hn);obtain ⟨f1,f2⟩:=hfree j hj;refine ⟨k5 j f1,?_⟩;show zj (Ym st.s.sto k _) j=none;rw [Zb];split
  ·rename_i e;subst e;rw [hit] at f2;cases f2
  ·exact f2
theorem Run.nxt {n m:Nat} {R:St->Prop} {κ ν:Type} {ek:κ->List T} {ev:ν->T} {b d:Nat} {x:Ar} {rest:List AO} {after:List (List Nat)} {live:List Nat} {K K':List It} {k q c:Nat} {seen bs:List Nat} {kag:Bool} {l:List (κ×ν)}
  (hk:ZW 200 K= .c (.region false (⟨some d,none,.nw (.nxt x)⟩::rest) after live)::K') (hb:q8 st.s.nxt some=some b) (hxv:x.u st= .ptr k 0)
  (hit:zj st.s.sto k=some (.iter q c seen c)) (hes:zj st.s.sto q=some (.map kag (mE ek ev l) (some (c,bs))))
  (h0:(∀s,s∈bs->s∈seen)->Mid P n m R false [] [] live K' b [(true,true)] rest (st.app (some d) {v:= .tup [.t (.bool false)]}))
  (h1:∀(i:Nat) (e:κ×ν) (s:Nat),l[i]?=some e->bs[i]?=some s->s∉seen->
   Mid P n m R false [] [] live K' b [(true,true)] rest (st.app (some d) {v:= .tup [.t (.bool true),z2Y kag (ek e.1),.t (ev e.2)],ob:=[(k,.iter q c (seen++[s]) c)]})):Run P n m R K st:=by
 rw [wq] at hb;simp at hb;subst hb;refine Run.adv 200 hk ?_;unfold Run;simp only [ZE];unfold Mid at h0 h1;unfold Run at h0 h1;refine Sat.nxt hxv hit hes h0 (fun i e s he hbs hn=>?_);simp only [mE,w0c,w06] at he;obtain ⟨z,hz,rfl⟩:=he;exact h1 i z s hz hbs hn
end
end Go.GB
namespace Go.GB
section
variable {P:Program} {n m:Nat} {R:St->Prop} {draw:Bool} {all:List AO} {after:List (List Nat)} {live:List Nat} {k:List It} {b b':Nat} {fl:List (Bool×Bool)} {ops:List AO} {st st':St} {d:Option Nat}
variable {κ ν:Type} {ks:List KSh} {kag:Bool} {ek:κ->List T} {ev:ν->T} {l:List (κ×ν)} {sx:Option (Nat×List Nat)} {q:Nat} {x y:Ar}
theorem Mid.zeT {c:Nat} {bs:List Nat} {es:List (List T×V)} (hx:x.u st= .mp q) (hq:zj st.s.sto q=some (.map kag es (some (c,bs))))
  (hst:wA b st d {v:= .ptr b 0,ob:=[(b,.iter q c [] c)],n:=1,rd:=true} (fun b' st'=>some (b',st'))=some (b',st'))
  (h':Mid P n m R draw all after live k b' ((true,true)::fl) ops st'):Mid P n m R draw all after live k b fl (⟨d,none,.Qq x⟩::ops) st:=by
 refine Mid.opX Z ?_;simp only [yr,w00,w05] at hst;obtain ⟨rfl,rfl⟩:=hst;simp only [evX,hx,hq];exact h'
theorem z6W {z:Nat} {e:κ×ν}:∀{l:List (κ×ν)} {bs:List Nat} {i:Nat},l[i]?=some e->bs[i]?=some z->bs.Nodup->z1A z (mE ek ev l) bs=some (ek e.1,.t (ev e.2))
 |[],_,i,h,_,_=>by simp at h
 |_::_,[],i,_,h,_=>by simp at h
 |w::r,s::bs,0,h1,h2,_=>by
  simp at h1 h2;subst h1;subst h2;simp [mE,z1A]
 |w::r,s::bs,i+1,h1,h2,hn=>by
  have hm:z∈bs:=zMG (by simpa using h2)
  have hne:¬ s=z:=by rintro rfl;exact (w15.1 hn).1 hm
  have:=z6W (l:=r) (bs:=bs) (i:=i) (by simpa using h1) (by simpa using h2) (w15.1 hn).2;simp only [mE,w0n,z1A,hne,w0x];exact this
theorem Mid.zgx {kk s c i z:Nat} {seen bs:List Nat} {e:κ×ν} (hx:rd true st x=(.ptr kk 0,[])) (hit:zj st.s.sto kk=some (.iter q s seen c)) (hq:zj st.s.sto q=some (.map kag (mE ek ev l) (some (c,bs))))
  (hz:seen.getLast?=some z) (hl:l[i]?=some e) (hb:bs[i]?=some z) (hn:bs.Nodup) (hs:zP st d (.tup [z2Y kag (ek e.1),.t (ev e.2)]) some=some st')
  (h':Mid P n m R draw all after live k b ((true,false)::fl) ops st'):Mid P n m R draw all after live k b fl (⟨d,none,.nw (.z7v x)⟩::ops) st:=by
 refine Mid.zfC (v:= .tup [z2Y kag (ek e.1),.t (ev e.2)]) (ps:=[true,true]) ?_ (z9u hx) ⟨rfl,rfl,trivial⟩ hs h';simp only [zk,Zq,hx,hit,hq,hz,z6W (i:=i) (z:=z) hl hb hn];simp [hn]
theorem zh1 {α:Type} {f:α->List T} {l:List α} {sz s:Nat} {want gc:Bool} {x hi:Ar} {v:V} {kd:IntKind} {j:Nat} {p1 p2:List Bool} (hg:yD want (look st.env s)=some gc) (hx:rd gc st x=(v,p1)) (hv:v.zw=some (.lst (l.map f))) (hh:rd gc st hi=(.t (.int kd j),p2)) (hs:zP st d (.gd gc (.t (.lst ((l.take j).map f)))) some=some st')
  (h':Mid P n m R draw all after live k b ((false,false)::fl) ops st') (hj:j<=l.length:=by omega) (hsz:∀x,(f x).length=sz:=by intros;rfl) (hp1:Zg (p1.map fun p=>!gc||p):=by (repeat' (first |exact trivial|exact w12 _|exact Qi _|exact Qg _|exact grd3 _ _|exact Qk _ _|refine And.intro ?_ ?_|exact rfl|(simp;done)|(simp<;>omega)));done) (hp2:Zg (p2.map fun p=>!gc||p):=by (repeat' (first |exact trivial|exact w12 _|exact Qi _|exact Qg _|exact grd3 _ _|exact Qk _ _|refine And.intro ?_ ?_|exact rfl|(simp;done)|(simp<;>omega)));done):Mid P n m R draw all after live k b fl (⟨d,some (s,want),.sll sz x none (some hi)⟩::ops) st:=
 Mid.zbz (v:= .t (.lst ((l.take j).map f))) (ps:=p1++([]++(p2++[true,true,true,true]))) hg (by simp only [zk,hx,hv,bnd,hh];simp [hj,ZQ,hsz]) (Yc hx hv) (by simp only [w24,qB];exact ⟨hp1,trivial,hp2,by simp [Zg]⟩) hs h'
theorem lF1 {α:Type} {f:α->List T} {l:List α} {sz:Nat} {x lo:Ar} {v:V} {kd:IntKind} (hx:rd true st x=(v,[])) (hv:v.zw=some (.lst (l.map f))) (hh:rd true st lo=(.t (.int kd 1),[])) (hs:zP st d (.t (.lst ((l.drop 1).map f))) some=some st')
  (h':Mid P n m R draw all after live k b ((false,false)::fl) ops st') (hj:1<=l.length:=by first |omega|(simp;done)|(simp<;>omega)) (hsz:∀x,(f x).length=sz:=by intros;rfl):Mid P n m R draw all after live k b fl (⟨d,none,.sll sz x (some lo) none⟩::ops) st:=
 Mid.zao (j:=1) hx hv hh hj hsz hs h'
section
variable [DecidableEq κ]
def wh (k:κ):List (κ×ν)->List (κ×ν)
 |[]=>[]
 |e::r=>if k=e.1 then r else e::wh k r
theorem z8p (he:wX ks ek) (k:κ):∀(l:List (κ×ν)),z0o (ek k) (mE ek ev l)=mE ek ev (wh k l)
 |[]=>rfl
 |e::r=>by
  have:=z8p he k r;simp only [mE] at this;simp only [mE,w0n,z0o,he.iff,wh,w0j,this]
  split<;>rfl
theorem Mid.zgU (k':κ) (hx:x.u st= .mp q) (hq:zj st.s.sto q=some (.map kag (mE ek ev l) sx)) (hc:z0g ks kag (y.u st)=some (ek k')) (he:wX ks ek)
  (hst:wA b st d {v:= .top,ob:=[(q,.map kag (mE ek ev (wh k' l)) (z4Z (l.findIdx? (fun e=>decide (k'=e.1))) sx))],rd:=true} (fun b' st'=>some (b',st'))=some (b',st'))
  (h':Mid P n m R draw all after live k b' ((true,true)::fl) ops st'):Mid P n m R draw all after live k b fl (⟨d,none,.nw (.zaK ks kag x y)⟩::ops) st:=by
 refine Mid.opX Z ?_;simp only [yr,w00,w05] at hst;obtain ⟨rfl,rfl⟩:=hst;simp only [evX,yi,hx,hc,hq,z8p he,z7c he];exact ⟨⟨trivial,z21 he l⟩,h'⟩
theorem Mid.zhp {i c:Nat} {bs:List Nat} {e:κ×ν} (hx:x.u st= .mp q) (hq:zj st.s.sto q=some (.map kag (mE ek ev l) (some (c,bs)))) (hl:l[i]?=some e) (hn:(l.map (·.1)).Nodup) (hc:z0g ks kag (y.u st)=some (ek e.1)) (he:wX ks ek)
  (hst:wA b st d {v:= .top,ob:=[(q,.map kag (mE ek ev (l.eraseIdx i)) (some (c,bs.eraseIdx i)))],rd:=true} (fun b' st'=>some (b',st'))=some (b',st'))
  (h':Mid P n m R draw all after live k b' ((true,true)::fl) ops st'):Mid P n m R draw all after live k b fl (⟨d,none,.nw (.zaK ks kag x y)⟩::ops) st:=by
 have key:∀(l:List (κ×ν)) (i:Nat),l[i]?=some e->(l.map (·.1)).Nodup->wh e.1 l=l.eraseIdx i/\l.findIdx? (fun w=>decide (e.1=w.1))=some i:=by
  intro l
  induction l with
  |nil=>intro i h _;simp at h
  |cons w r ih=>
   intro i h hn;simp only [w0n,w15] at hn
   cases i with
   |zero=>simp at h;subst h;simp [wh,List.findIdx?_cons]
   |succ i=>
    have h':r[i]?=some e:=by simpa using h
    have hne:¬ e.1=w.1:=by
     intro heq;exact hn.1 (w0m.2 ⟨e,zMG h',heq⟩)
    obtain ⟨h1,h2⟩:=ih i h' hn.2;simp [wh,hne,h1,List.findIdx?_cons,h2]
 obtain ⟨h1,h2⟩:=key l i hl hn;refine Mid.zgU e.1 hx hq hc he ?_ h';rw [h1,h2];exact hst
theorem z0z {k k':κ}:∀{l:List (κ×ν)},(l.map (·.1)).Nodup->wa k' (wh k l)=if k'=k then none else wa k' l
 |[],_=>by simp [wh,wa]
 |e::r,hn=>by
  simp only [w0n,w15] at hn;have ih:=z0z (k:=k) (k':=k') hn.2
  have hnone:wa e.1 r=none:=by
   have:∀(r:List (κ×ν)),e.1∉r.map (·.1)->wa e.1 r=none:=by
    intro r
    induction r with
    |nil=>intro _;rfl
    |cons w r ih2=>
     intro h;simp only [w0n,w0t,not_or] at h;simp only [wa];rw [w0g h.1];exact ih2 h.2
   exact this r hn.1
  simp only [wh];by_cases h:k=e.1
  ·subst h;simp only [w17,wa];by_cases h2:k'=e.1
   ·subst h2;simp [hnone]
   ·simp [h2]
  ·simp only [h,w0x,wa,ih];by_cases h2:k'=e.1
   ·subst h2;have:¬ e.1=k:=fun h'=>h h'.symm;simp [this]
   ·simp [h2]
theorem z5H {k:κ} {v:ν}:∀{l:List (κ×ν)},(l.map (·.1)).Nodup->((WL k v l).map (·.1)).Nodup/\∀y,y∈(WL k v l).map (·.1)↔y=k∨y∈l.map (·.1)
 |[],_=>by simp [WL]
 |e::r,hn=>by
  simp only [w0n,w15] at hn;obtain ⟨h1,h2⟩:=z5H (k:=k) (v:=v) hn.2;simp only [WL];split
  ·rename_i h;subst h;simp only [w0n,w15]
   exact ⟨hn,fun y=>by simp⟩
  ·rename_i h;simp only [w0n,w15];refine ⟨⟨fun hm=>?_,h1⟩,fun y=>?_⟩
   ·rcases (h2 _).1 hm with h'|h'
    ·exact h h'.symm
    ·exact hn.1 h'
   ·simp only [w0t,h2];constructor
    ·rintro (h|h|h)
     ·exact .inr (.inl h)
     ·exact .inl h
     ·exact .inr (.inr h)
    ·rintro (h|h|h)
     ·exact .inr (.inl h)
     ·exact .inl h
     ·exact .inr (.inr h)
end
end
section
variable {P:Program} {n m:Nat} {R:St->Prop} {draw:Bool} {all:List AO} {after:List (List Nat)} {live:List Nat} {k:List It} {b b':Nat} {fl:List (Bool×Bool)} {ops:List AO} {st st':St} {d:Option Nat}
def za9 {α:Type} (st:St):List Ar->(List V->α)->α
 |[],K=>K []
 |x::r,K=>(x.u st).force fun v=>za9 st r fun vs=>K (v::vs)
theorem z76 {α:Type} (st:St):∀(l:List Ar) (K:List V->α),za9 st l K=K (yk st l)
 |[],K=>rfl
 |x::r,K=>by simp only [za9,V.force_eq,z76 st r,yk]
theorem Mid.zdS {f:FuncId} {args:List Ar} {vs vs':List V} {s1:List (Nat×zd)} {m1:Nat} {out:Out} {v':V} {ob':List (Nat×zd)} {cc:Bool} (r:List Nat) (h:z6 P f vs ⟨s1,m1⟩ out) (hr:(z0G r&&(r.all (fun k=>Nat.blt k b))&&Nat.beq r.length m1)=true)
  (hv:za9 st args some=some vs') (hvs:V.wb (W3 r b) vs=vs') (hb:V.bds m1 vs=true) (hs1:Z1 m1 s1=true) (hsub:zcD (W3 r b) st.s.sto s1 m1) (hob:zb6 s1 m1 out.n out.ob=true)
  (hv':out.v.ren (W3 r b)=v') (hob':z2G (W3 r b) out.ob=ob') (hcc:Qm (!ob'.isEmpty||decide (0<out.n)) some=some cc)
  (hst:wA b st d {v:=v',ob:=ob',n:=out.n,rd:=true} (fun b' st'=>some (b',st'))=some (b',st'))
  (h':Mid P n m R draw all after live k b' ((true,cc)::fl) ops st'):Mid P n m R draw all after live k b fl (⟨d,none,.call f args⟩::ops) st:=by
 simp only [w07] at hr;obtain ⟨⟨hr1,hr2⟩,hr3⟩:=hr;have hm:r.length=m1:=w10 hr3;subst hm;rw [z76] at hv;simp at hv;refine Mid.opX Z ?_;simp only [evX];rw [hv,←hvs]
 have hat:FnL P f (V.wb (W3 r b) vs) b st.s.sto {v:=v',ob:=ob',n:=out.n,rd:=true}:=by
  intro s' hk;have hrn:=zdu (n:=out.n) hr1 hr2;have:=z6.ren hrn h hb hs1 (fun j hj=>(hk _ (hrn.low j hj)).trans (z6N hsub j hj)) (z3e hob);rw [hv',←z1l,hob'] at this;exact this
 simp only [Wf,w00] at hcc;simp only [yr,w00,w05] at hst;obtain ⟨rfl,rfl⟩:=hst
 refine ⟨{v:=v',ob:=ob',n:=out.n,rd:=true},by simp only [w17];exact hat,?_⟩
 simp only [hcc];exact h'
end
end Go.GB
namespace Go.GB
variable {P:Program}
theorem z6.wk {f:FuncId} {vs vs':List V} {s s':S} {out out':Out} (h:z6 P f vs' s' out') (hm:s.nxt<=s'.nxt) (hv:zA s.nxt s'.nxt vs vs') (hs:LeS s.nxt s'.nxt s.sto s'.sto)
  (hn:s.nxt+out.n=s'.nxt+out'.n) (ho:Zf s'.sto out'.ob=Zf s.sto out.ob) (hx:out'.v=out.v):z6 P f vs s out:=by
 refine ⟨h.1,fun Λ args h1 h2 h3 h4=>?_⟩;have hl:=hv.length
 have:=h.2 (Λ.cut s.nxt s'.nxt) args (h1.qT (by omega) hm hs) rfl (by omega) (fun j v x a1 a2=>by
  have hj:j<vs.length:=by rw [hl];exact (w02.1 a2).1
  have hc:=w0f hj
  exact (hv.at j _ x hc a2).cut hm (by omega) (h4 j v _ a1 hc))
 refine Calls.mono this ?_;rintro e w' ⟨v,Λ',e1,e2,e3,e4,e5,e6⟩
 exact ⟨v,Λ',e1,e2,((Kp.refl Λ).cut (by omega) hm).trans e3,by omega,by rw [←ho];exact e5,by rw [←hx];exact e6⟩
section
variable {n m:Nat} {R:St->Prop} {draw:Bool} {all:List AO} {after:List (List Nat)} {live:List Nat} {k:List It} {b b':Nat} {fl:List (Bool×Bool)} {ops:List AO} {st st':St} {d:Option Nat}
end
end Go.GB
namespace Go.GB
theorem z98 {l:Nat->Lab} {w:World} {b off cap sz:Nat} {arr:Array Value} {e:TypeId} {fz:Nat×Nat} {xs:List (List T)} (hb:w.heap[b]?=some (.cells arr e fz)) (hcap:xs.length<=cap)
  (hsz:∀(i:Nat) (c:List T),xs[i]?=some c->c.length=sz) (hr:∀o,Rd l b o)
  (hx:∀(j:Nat) (x:T),xs.flatten[j]?=some x->∃v,arr[off+j]?=some v/\zI l w v x):zI l w (.slice (some ⟨b,off,none⟩) xs.length cap) (.lst xs):=by
 refine .lst _ cap sz xs b off (fun i j=>arr.toList.getD (off+(i*sz+j)) undef) hcap hsz (fun _ _ _ _ _ _=>rfl) (fun _ _ _ _ _ _=>hr _) ?_ ?_
 ·intro i j c x h1 h2;obtain ⟨v,h3,_⟩:=hx (i*sz+j) x (Yp xs hsz i j c x h1 h2);rw [cell_of_row w b _ arr e fz hb,w1e,h3];simp [h3]
 ·intro i j c x h1 h2;obtain ⟨v,h3,h4⟩:=hx (i*sz+j) x (Yp xs hsz i j c x h1 h2);simpa [h3] using h4
def LeZ (s:S) (m m':Nat) (x x':V):Prop:=∀(Λ:L) (v:Value),m<=Λ.nxt->zT Λ s->zr Λ v x->zr (Λ.cut m m') v x'
theorem LeZ.le {s:S} {m m':Nat} {x x':V} (hm:m<=m') (h:LeX m m' x x'):LeZ s m m' x x':=fun _ _ h1 _ h2=>h.cut hm h1 h2
theorem LeZ.gsl {s:S} {m m' k ver off len sz:Nat} {cs:List V} {ts:List T} {xs:List (List T)} (hk:m<=k) (hs:zj s.sto k=some (.gro ver cs)) (hle:off+len*sz<=cs.length) (hts:((cs.drop off).take (len*sz)).mapM V.zw=some ts) (hxs:xs.flatten=ts) (hn:xs.length=len) (hl:ZQ sz xs=true):
  LeZ s m m' (.gsl k ver off len sz) (.t (.lst xs)):=by
 intro Λ v hm hr hv;subst hn;generalize hlen:xs.length=len at hv hts hle
 cases hv with
 |gsl hv hkn hn0 h=>
  have h0:Λ.frf k 0=ver:=(hr.sto k _ hs).2.1
  rcases h h0.symm with ⟨⟨a,rfl⟩,e⟩|⟨b,cap,N,rfl,hc,hcur,hN,hN2⟩
  ·rw [e] at hlen;have:xs=[]:=w0q.1 hlen;subst this;exact .t .nil
  ·obtain ⟨arr,e,h2,h3,h4⟩:=hr.z0U hs hcur;obtain ⟨k1,k2⟩:=z0P _ ts hts;obtain ⟨i,hlab,_⟩:=hcur
   have hlab':(Λ.cut m m').lab b= .fix none:=by simp [L.cut,hlab];omega
   subst hlen
   refine .t (z98 (sz:=sz) (b:=b) (w:=(Λ.cut m m').w) h2 hc (Wn hl) (fun o=>by simp [Rd,hlab']) fun j x hj=>?_)
   rw [hxs] at hj;have hjl:j<ts.length:=(w02.1 hj).1;rw [←k1,w26,List.length_drop] at hjl
   have hcj:((cs.drop off).take (xs.length*sz))[j]?=some (cs[off+j]'(by omega)):=by
    rw [w0p,w0e (by omega),w0z,w0f (by omega)]
   have hc1:=k2 j _ x hcj hj
   have harr:off+j<arr.size:=by omega
   exact ⟨arr[off+j],by simp [harr],((h4 (off+j) _ _ (by simp [harr]) (w0f (by omega))).zw hc1).cut⟩
inductive z8O (s:S) (m m':Nat):List V->List V->Prop
 |nil:z8O s m m' [] []
 |cons {x y:V} {xs ys:List V} (h:LeZ s m m' x y) (t:z8O s m m' xs ys):z8O s m m' (x::xs) (y::ys)
theorem z8O.spec {s:S} {m m':Nat} {xs ys:List V} (h:z8O s m m' xs ys):xs.length=ys.length/\∀(j:Nat) (c d:V),xs[j]?=some c->ys[j]?=some d->LeZ s m m' c d:=by
 induction h with
 |nil=>exact ⟨rfl,fun j c d h=>by simp at h⟩
 |cons h _ ih=>
  refine ⟨by simp [ih.1],fun j c d h1 h2=>?_⟩
  cases j with
  |zero=>simp at h1 h2;subst h1;subst h2;exact h
  |succ j=>exact ih.2 j c d (by simpa using h1) (by simpa using h2)
inductive zaX (s:S) (m m':Nat):zd->zd->Prop
 |le {o o':zd} (h:LeO m m' o o'):zaX s m m' o o'
 |cells {cs ds:List V} (h:z8O s m m' cs ds):zaX s m m' (.cells cs) (.cells ds)
 |gro {r:Nat} {cs ds:List V} (h:z8O s m m' cs ds):zaX s m m' (.gro r cs) (.gro r ds)
 |y8 {ns ms:List Nat} (h:∀i:Nat,(ns[i]?).getD 0=(ms[i]?).getD 0):zaX s m m' (.y8 ns) (.y8 ms)
def z8P (s:S) (m m':Nat) (e:List (Nat×V)):List (Nat×V)->Prop
 |[]=>True
 |(t,x)::r=>LeZ s m m' (look e t) x/\z8P s m m' e r
def z7U (s:S) (m m':Nat):List (Nat×zd)->Prop
 |[]=>True
 |(k,o)::r=>((k<m/\∃o',zj s.sto k=some o'/\zaX s m m' o' o)∨(m<=k/\k<m'/\o.fresh=true))/\z7U s m m' r
theorem z8P.at {s:S} {m m':Nat} {e:List (Nat×V)}:∀{e':List (Nat×V)},z8P s m m' e e'->∀t,LeZ s m m' (look e t) (look e' t)
 |[],_,t=>fun _ _ _ _ _=> .top
 |(k,x)::r,h,t=>by
  obtain ⟨h1,h2⟩:=h;by_cases e':k=t
  ·subst e';simpa [look,zj] using h1
  ·have:=z8P.at h2 t;simpa [look,zj,e'] using this
theorem z7U.at {s:S} {m m':Nat}:∀{s':List (Nat×zd)},z7U s m m' s'->∀k o,zj s' k=some o->
  (k<m/\∃o',zj s.sto k=some o'/\zaX s m m' o' o)∨(m<=k/\k<m'/\o.fresh=true)
 |[],_,k,o,h=>by simp [zj] at h
 |(j,x)::r,h,k,o,hk=>by
  obtain ⟨h1,h2⟩:=h;by_cases e':j=k
  ·subst e';simp [zj] at hk;subst hk;exact h1
  ·simp only [zj,e',w0x] at hk;exact z7U.at h2 k o hk
theorem zT.z3j {Λ:L} {s:S} (h:zT Λ s) {s':S} {m m':Nat} (hm0:m<=Λ.nxt) (hm':m<=m') (hs:z7U s m m' s'.sto):zT (Λ.cut m m') s':=by
 have h0:zT (Λ.cut m m') ⟨[],0⟩:=h.qT (s':=⟨[],0⟩) hm0 hm' trivial;refine ⟨fun k o hk=>?_,h0.inj,h0.new,h0.bnd,h0.frz,h0.YX,h0.Yu,h0.z2g⟩
 rcases hs.at k o hk with ⟨hkm,o',ho',hle⟩|hfr
 ·cases hle with
  |le hle=>exact (h.qT (s':=⟨[(k,o)],0⟩) hm0 hm' ⟨.inl ⟨hkm,o',ho',hle⟩,trivial⟩).sto k o (by simp [zj])
  |cells hle=>
   refine ⟨w08 hkm hm',?_⟩;obtain ⟨b,arr,e,e1,e2,e3,e4⟩:=(h.sto k _ ho').2;obtain ⟨q1,q2⟩:=hle.spec
   refine ⟨b,arr,e,yj e1 hkm,e2,by rw [e3];exact q1,fun j v d a1 a2=>?_⟩
   have hlt:j<_:=(w02.1 a2).1;rw [←q1] at hlt;have hc:=w0f hlt;exact q2 j _ d hc a2 Λ v hm0 h (e4 j v _ a1 hc)
  |gro hle=>
   refine ⟨w08 hkm hm',?_⟩;obtain ⟨g0,hr⟩:=(h.sto k _ ho').2;obtain ⟨q1,q2⟩:=hle.spec
   refine ⟨by simp [L.cut,hkm,g0],?_⟩
   rcases hr with ⟨e1,e2⟩|⟨b,arr,e,⟨i,e1,e1'⟩,e2,e3,e4⟩
   ·subst e1;have:=w0q.1 q1.symm;exact .inl ⟨this,fun b i hb=>e2 b i (zN hb).1⟩
   ·refine .inr ⟨b,arr,e,⟨i,W9 e1 hkm,fun b' i' h'=>e1' b' i' (zN h').1⟩,e2,by rw [←q1];exact e3,fun j v d a1 a2=>?_⟩
    have hlt:j<_:=(w02.1 a2).1;rw [←q1] at hlt;have hc:=w0f hlt;exact q2 j _ d hc a2 Λ v hm0 h (e4 j v _ a1 hc)
  |y8 hle=>
   refine ⟨w08 hkm hm',fun i=>?_⟩;have g:=(h.sto k _ ho').2 i;show (Λ.cut m m').frf k i=_;rw [←hle i];simp only [L.cut,hkm,w17];exact g
 ·exact (h.qT (s':=⟨[(k,o)],0⟩) hm0 hm' ⟨.inr hfr,trivial⟩).sto k o (by simp [zj])
theorem Rel.z3j {C:Ctx} {Λ:L} {st:St} {a:Act} (h:Rel C Λ st a) {st':St} {m:Nat} (hm:C.Λ.nxt<=m) (hm0:m<=Λ.nxt) (hm':m<=st'.s.nxt)
  (he:z8P st.s m st'.s.nxt st.env st'.env) (hs:z7U st.s m st'.s.nxt st'.s.sto):Rel C (Λ.cut m st'.s.nxt) st' a:=
 ⟨h.kp.cut hm hm',h.size,h.defers,fun t=>he.at t Λ _ hm0 h.s (h.env t),h.s.z3j hm0 hm' hs⟩
section
variable {P:Program} {n m:Nat} {R:St->Prop} {Q:YZ->St->Prop} {st:St}
theorem Sat.z3j {c:zL} {st':St} (k:Nat) (h:Sat P n m c st' Q) (h1:m<=k) (h2:k<=st.s.nxt) (h3:k<=st'.s.nxt) (he:z8P st.s k st'.s.nxt st.env st'.env) (hs:z7U st.s k st'.s.nxt st'.s.sto):Sat P n m c st Q:=by
 intro code e1 e2 e3 C Λ a e4 e5 e6 e7 e8;exact h code e1 e2 e3 C (Λ.cut k st'.s.nxt) a e4 e5 e6 (e7.z3j (by omega) (by omega) h3 he hs) Z
theorem Run.z3j {k k':List It} {c:zL} {st st':St} (j:Nat) (hk:ZW 200 k= .c c::k') (h:Run P n m R (.c c::k') st') (h1:Nat.ble m j=true) (h2:Nat.ble j st.s.nxt=true) (h3:Nat.ble j st'.s.nxt=true) (he:z8P st.s j st'.s.nxt st.env st'.env) (hs:z7U st.s j st'.s.nxt st'.s.sto):Run P n m R k st:=
 Run.adv 200 hk (by
  simp only [Run,ZE] at h⊢
  exact Sat.z3j j h (w11 h1) (w11 h2) (w11 h3) he hs)
end
def gT {α:Type} (g:α->List T):α->List V:=fun x=>(g x).map V.t
theorem zfm {α:Type} (g:α->List T) (l:List α):gE (gT g) l=((l.map g).flatten).map V.t:=by
 simp only [gE,List.map_flatten,List.map_map];rfl
theorem zdT {α:Type} (g:α->List T) (l:List α):(gE (gT g) l).mapM V.zw=some (l.map g).flatten:=by
 rw [zfm];have:=z7n (fun t:T=>t) (l.map g).flatten;simpa [cE] using this
theorem zft {α:Type} {st:St} {sz:Nat} {y:V} {g:α->List T} {l:List α} (hy:y.zw=some (.lst (l.map g))) (hl:∀x,(g x).length=sz):z30 st sz y=some (gE (gT g) l,l.length):=by
 unfold z30;rw [hy];simp only;rw [z47 hl l,zfm];simp
theorem zbo {α:Type} {f:α->List V} (h:∀x,(f x).all V.Zm=true) (l:List α):(gE f l).all V.Zm=true:=by
 simp only [w0i] at h⊢;intro v hv;simp only [gE,List.mem_flatten,w0m] at hv;obtain ⟨c,⟨x,_,rfl⟩,hv⟩:=hv;exact h x v hv
theorem zbt {α:Type} (g:α->List T) (x:α):(gT g x).all V.Zm=true:=by
 simp [gT,V.Zm]
theorem qE {α:Type} {g:α->List T} {sz:Nat} (h:∀x,(g x).length=sz) (x:α):(gT g x).length=sz:=by simp [gT,h]
theorem z4W (a b:List V):∀(vs:List V) (o:Nat),setAt (a++b) (a.length+o) vs=a++setAt b o vs
 |[],o=>rfl
 |v::r,o=>by
  have:=z4W a (b.set o v) r (o+1);simp only [setAt];rw [List.set_append,w0g (by omega),Nat.add_sub_cancel_left,w1e,this]
theorem z3n (b:List V):∀(vs a:List V) (o:Nat),o+vs.length<=a.length->setAt (a++b) o vs=setAt a o vs++b
 |[],a,o,_=>rfl
 |v::r,a,o,h=>by
  simp only [w0d] at h;have:=z3n b r (a.set o v) (o+1) (by simp;omega);simp only [setAt];rw [List.set_append,w0e (by omega),this]
theorem zcN {α:Type} {f:α->List V} {sz:Nat} (h:∀x,(f x).length=sz) (vs:List V):∀(l:List α) (i j:Nat) (e e':α),l[i]?=some e->j+vs.length<=sz->setAt (f e) j vs=f e'->setAt (gE f l) (i*sz+j) vs=gE f (l.set i e')
 |[],i,j,e,e',hi,_,_=>by simp at hi
 |x::r,0,j,e,e',hi,hj,he=>by
  simp at hi;subst hi;simp only [gE,w0n,w1r,Nat.zero_mul,w0y,List.set_cons_zero];rw [z3n _ _ _ _ (by rw [h];exact hj),he]
 |x::r,i+1,j,e,e',hi,hj,he=>by
  have:=zcN h vs r i j e e' (by simpa using hi) hj he;simp only [gE,w0n,w1r,List.set_cons_succ] at this⊢
  have e2:(i+1)*sz+j=(f x).length+(i*sz+j):=by rw [h,w13];omega
  rw [e2,z4W,this]
theorem LeZ.gE {α:Type} {s:S} {m m' k ver len sz:Nat} (g:α->List T) (l:List α) {l':List α} (hk:m<=k) (hs:zj s.sto k=some (.gro ver (gE (gT g) l'))) (hl:l=l'.take len) (hn:len<=l'.length) (hg:∀x,(g x).length=sz):
  LeZ s m m' (.gsl k ver 0 len sz) (.t (.lst (l.map g))):=by
 subst hl;have hlen:=wF (f:=gT g) (qE hg)
 have e1:((Go.GB.gE (gT g) l').drop 0).take (len*sz)=Go.GB.gE (gT g) (l'.take len):=by
  have hsplit:=z2i (gT g) (l'.take len) (l'.drop len);rw [List.take_append_drop] at hsplit;rw [List.drop_zero,hsplit,List.take_append]
  have e2:(Go.GB.gE (gT g) (l'.take len)).length=len*sz:=by rw [hlen,w26,Nat.min_eq_left hn]
  rw [e2,Nat.sub_self,List.take_zero,w1j,w1l (by omega)]
 refine LeZ.gsl (ts:=((l'.take len).map g).flatten) hk hs ?_ ?_ Z (by simp;omega) (z47 hg _)
 ·rw [hlen,w0y];exact w0s _ hn
 ·rw [e1];exact zdT g _
section
variable {P:Program} {n m:Nat} {R:St->Prop}
variable {draw:Bool} {all:List AO} {after:List (List Nat)} {live:List Nat} {k:List It} {b:Nat} {fl:List (Bool×Bool)} {ops:List AO} {st st':St} {d:Option Nat} {b':Nat}
theorem Mid.zgC {α:Type} (f:α->List V) (l2:List α) {sz by_:Nat} {x y:Ar} (hx:x.u st= .zC) (hy:z30 st sz (y.u st)=some (gE f l2,l2.length)) (hc:∀x,(f x).all V.Zm=true) (h1:l2.length*by_<=140737488355328) (h2:l2.length<=9223372036854775807)
  (hst:wA b st d {v:= .gsl b 1 0 l2.length sz,ob:=[(b,.gro 1 (gE f l2))],n:=1,rd:=true} (fun b' st'=>some (b',st'))=some (b',st'))
  (h':Mid P n m R draw all after live k b' ((true,true)::fl) ops st'):Mid P n m R draw all after live k b fl (⟨d,none,.app sz by_ x y⟩::ops) st:=by
 simp only [yr,w00,w05] at hst;obtain ⟨rfl,rfl⟩:=hst;exact Mid.opY Z (.zc4 hx hy (zbo hc _) h1 h2) h'
theorem z9s {gc:Bool} {x:Ar} {q r o:Nat} {p:List Bool} (hx:rd gc st x=(.gpt q r o,p)):yC (x.v st)=true:=by
 unfold rd at hx;generalize x.v st=u at hx⊢
 cases u<;>simp only [V.un,w05] at hx<;>simp_all [yC]
theorem Mid.ldG {α:Type} {f:α->List V} {l:List α} {e:α} {c:V} (i j:Nat) {sz nn:Nat} {x:Ar} {q ver o:Nat} (hx:rd true st x=(.gpt q ver o,[])) (hq:zj st.s.sto q=some (.gro ver (gE f l))) (hv:0<ver) (ho:o=i*sz+j) (hsz:∀x,(f x).length=sz) (he:l[i]?=some e) (hc:(f e)[j]?=some c) (hs:zP st d c some=some st')
  (h':Mid P n m R draw all after live k b ((true,false)::fl) ops st'):Mid P n m R draw all after live k b fl (⟨d,none,.ld false nn x⟩::ops) st:=by
 have hj:j<sz:=by rw [←hsz e];exact (w02.1 hc).1
 refine Mid.zfC (v:=c) (ps:=[true,true]) ?_ (z9s hx) ⟨rfl,rfl,trivial⟩ hs h';simp only [zk,hx,hq];rw [ho,zfi hsz l i j e he hj,hc];simp [hv]
theorem Mid.stG {α:Type} {f:α->List V} {l:List α} {e:α} (e':α) (i j:Nat) {sz nn:Nat} {x v:Ar} {vs:List V} {q ver o:Nat} (hx:x.u st= .gpt q ver o) (hq:zj st.s.sto q=some (.gro ver (gE f l))) (hv:(v.u st).parts=some vs) (hn:Nat.beq vs.length nn=true) (hc:vs.all V.Zm=true) (ho:o=i*sz+j) (hsz:∀x,(f x).length=sz) (he:l[i]?=some e) (hj:j+nn<=sz) (hset:setAt (f e) j vs=f e')
  (hst:wA b st d {v:= .top,ob:=[(q,.gro ver (gE f (l.set i e')))],rd:=true} (fun b' st'=>some (b',st'))=some (b',st'))
  (h':Mid P n m R draw all after live k b' ((true,true)::fl) ops st'):Mid P n m R draw all after live k b fl (⟨d,none,.st nn x v⟩::ops) st:=by
 simp only [yr,w00,w05] at hst;obtain ⟨rfl,rfl⟩:=hst;have hn':=w10 hn;have hi:i<l.length:=(w02.1 he).1
 have hle:o+nn<=(gE f l).length:=by
  rw [wF hsz,ho];have:(i+1)*sz<=l.length*sz:=w0s _ hi;rw [w13] at this;omega
 refine Mid.opY Z (.stG hx hq Z hv hn' hle hc) ?_;rw [ho,zcN hsz vs l i j e e' he (by rw [hn'];exact hj) hset];exact h'
end
theorem V.zd6 (ρ:Nat->Nat) (a b:List V):V.wb ρ (a++b)=V.wb ρ a++V.wb ρ b:=by
 simp [V.zS]
theorem V.z9P {α:Type} {ρ:Nat->Nat} {f f':α->List V} (h:∀x,V.wb ρ (f x)=f' x):∀(l:List α),V.wb ρ (gE f l)=gE f' l
 |[]=>rfl
 |x::r=>by
  have:=V.z9P h r;simp only [gE] at this;simp only [gE,w0n,w1r,V.zd6,h,this]
theorem zd.Za {α:Type} {ρ:Nat->Nat} {f f':α->List V} (h:∀x,V.wb ρ (f x)=f' x) (r:Nat) (l:List α):(zd.gro r (gE f l)).ren ρ= .gro r (gE f' l):=by
 simp [zd.ren,V.z9P h]
section
variable {P:Program} {n m:Nat} {R:St->Prop}
theorem zr.zgi {Λ:L} {v:Value} {c d:Prop} (h:zr Λ v (.ub c d)):∃b,v= .bool b/\(b=true->c)/\(b=false->d):=by
 cases h with
 |ub h h'=>exact ⟨_,rfl,h,h'⟩
theorem Sat.z44 {Q:YZ->St->Prop} {st:St} {z:Ar} {a b:zL} {c d:Prop} (hz:z.v st= .ub c d) (h1:c->Sat P n m a st Q) (h2:d->Sat P n m b st Q):Sat P n m (.cond z a b) st Q:=by
 intro code k1 k2 k3 C Λ ac k4 k5 k6 k7 k8;have:=ZJ k1;simp only [zL.bare] at this;obtain ⟨e,x,y,rfl,hc,hx,hy⟩:=this;simp only [codeOk,w07] at k2;have hv:=k7.opd hc;rw [hz] at hv;obtain ⟨t,ht,g1,g2⟩:=zr.zgi hv;refine wp_cond ht ?_
 cases t with
 |true=>exact h1 (g1 rfl) x hx k2.1 k3 C Λ ac k4 k5 k6 k7 k8
 |false=>exact h2 (g2 rfl) y hy k2.2 k3 C Λ ac k4 k5 k6 k7 k8
theorem Run.z44 {k k':List It} {z:Ar} {a b:zL} {st:St} {c d:Prop} (hk:ZW 200 k= .c (.cond z a b)::k') (hz:z.v st= .ub c d) (h1:c->Run P n m R (.c a::k') st) (h2:d->Run P n m R (.c b::k') st):Run P n m R k st:=
 Run.adv 200 hk (by
  simp only [Run,ZE] at h1 h2⊢
  exact Sat.z44 hz h1 h2)
variable {draw:Bool} {all:List AO} {after:List (List Nat)} {live:List Nat} {k:List It} {b b':Nat} {fl:List (Bool×Bool)} {ops:List AO} {st st':St} {d:Option Nat}
theorem Mid.zg0 {op:AOp} {sl:Nat} {want gc:Bool} (hg:yD want (look st.env sl)=some gc) (ht:gc=true) (hn:zk true st op=none) (h':Mid P n m R draw all after live k b fl (⟨d,none,op⟩::ops) st):Mid P n m R draw all after live k b fl (⟨d,some (sl,want),op⟩::ops) st:=by
 subst ht;rw [qD] at hg;unfold Mid at h'⊢;simp only [evR,evO,hg,evU,hn] at h'⊢
 exact .inr ⟨fun _=>h',fun h=>by cases h⟩
theorem Run.zeJ {k':List It} {st st':St} (j:Nat) (h:R st') (h1:Nat.ble m j=true) (h2:Nat.ble j st.s.nxt=true) (h3:Nat.ble j st'.s.nxt=true) (he:LeE j st'.s.nxt st.env st'.env) (hs:LeS j st'.s.nxt st.s.sto st'.s.sto):Run P n m R (.c .ret::k') st:=by
 have h':Sat P n m .ret st' (ZE P n m R k'):=Sat.ret (by rw [qz];exact h);have:=Sat.qT j h' (w11 h1) (w11 h2) (w11 h3) he hs;simpa only [Run,ZE] using this
end
end Go.GB
namespace Go.GB
abbrev Str:=List UInt8
def sE (s:Str):List T:=[.str s]
def nE (n:Int):List T:=[.int .i64 n]
theorem z4O:wX [.str] sE:=⟨fun _=>rfl,fun x y h=>by simpa [sE,ZY,T.eqb] using h,fun x=>by simp [sE,ZY,T.eqb]⟩
inductive Val where
 |mk (kind int:Int) (text:Str) (items:List Val) (keys:List Str)
namespace Val
def kind:Val->Int| .mk k _ _ _ _=>k
def int:Val->Int| .mk _ k _ _ _=>k
def text:Val->Str| .mk _ _ k _ _=>k
def items:Val->List Val| .mk _ _ _ k _=>k
def keys:Val->List Str| .mk _ _ _ _ k=>k
mutual
def enc:Val->List T
 | .mk k i t its ks=>[.int .i64 k,.int .i64 i,.str t,.lst (z49 its),.lst (ks.map sE)]
def z49:List Val->List (List T)
 |[]=>[]
 |v::r=>v.enc::z49 r
end
theorem QG:∀l:List Val,z49 l=l.map enc
 |[]=>by simp [z49]
 |v::r=>by simp [z49,QG r]
def cs (v:Val):List T:=[.int .i64 v.kind,.int .i64 v.int,.str v.text,.lst (v.items.map enc),.lst (v.keys.map sE)]
theorem wG (v:Val):v.enc=v.cs:=by
 cases v;simp [enc,cs,kind,int,text,items,keys,QG]
def v (x:Val):V:= .agg [.t (.int .i64 x.kind),.t (.int .i64 x.int),.t (.str x.text),.t (.lst (x.items.map enc)),.t (.lst (x.keys.map sE))]
theorem yd:∀(v:Val) {x:Val},x∈v.items->SizeOf.sizeOf x<SizeOf.sizeOf v
 | .mk k i t its ks,x,h=>by
  have:=List.sizeOf_lt_of_mem h;simp only [items] at this;simp only [Val.mk.sizeOf_spec];omega
end Val
structure Ref where
 name:Str
 za:List Int
structure Arg where
 name:Str
 val:Val
def Arg.enc (a:Arg):List T:=[.str a.name,.int .i64 a.val.kind,.int .i64 a.val.int,.str a.val.text,.lst (a.val.items.map Val.enc),.lst (a.val.keys.map sE)]
structure Dir where
 name:Str
 args:List Arg
def Dir.enc (d:Dir):List T:=[.str d.name,.lst (d.args.map Arg.enc)]
structure Input where
 name:Str
 ty:Ref
 has:Bool
 YL:Val
 zg:List Dir
def Input.enc (x:Input):List T:=[.str x.name,.str x.ty.name,.lst (x.ty.za.map nE),.bool x.has,.int .i64 x.YL.kind,.int .i64 x.YL.int,.str x.YL.text,.lst (x.YL.items.map Val.enc),.lst (x.YL.keys.map sE),.lst (x.zg.map Dir.enc)]
structure Field where
 name:Str
 args:List Input
 ty:Ref
 zg:List Dir
def Field.enc (f:Field):List T:=[.str f.name,.lst (f.args.map Input.enc),.str f.ty.name,.lst (f.ty.za.map nE),.lst (f.zg.map Dir.enc)]
structure zh where
 name:Str
 zg:List Dir
def zh.enc (m:zh):List T:=[.str m.name,.lst (m.zg.map Dir.enc)]
structure Def where
 kind:Int
 name:Str
 implements:List Str
 zg:List Dir
 fields:List Field
 members:List zh
 zi:List Input
def Def.enc (d:Def):List T:=[.int .i64 d.kind,.str d.name,.lst (d.implements.map sE),.lst (d.zg.map Dir.enc),.lst (d.fields.map Field.enc),.lst (d.members.map zh.enc),.lst (d.zi.map Input.enc)]
inductive Yq where
 |mk (key on name:Str) (args:List Arg) (ty:Ref) (label:Str) (initial:Int) (zab:List Yq)
namespace Yq
def key:Yq->Str| .mk k _ _ _ _ _ _ _=>k
def on:Yq->Str| .mk _ k _ _ _ _ _ _=>k
def name:Yq->Str| .mk _ _ k _ _ _ _ _=>k
def args:Yq->List Arg| .mk _ _ _ k _ _ _ _=>k
def ty:Yq->Ref| .mk _ _ _ _ k _ _ _=>k
def label:Yq->Str| .mk _ _ _ _ _ k _ _=>k
def initial:Yq->Int| .mk _ _ _ _ _ _ k _=>k
def zab:Yq->List Yq| .mk _ _ _ _ _ _ _ k=>k
mutual
def enc:Yq->List T
 | .mk k o n a t l i ps=>[.str k,.str o,.str n,.lst (a.map Arg.enc),.str t.name,.lst (t.za.map nE),.str l,.int .i64 i,.lst (z49 ps)]
def z49:List Yq->List (List T)
 |[]=>[]
 |v::r=>v.enc::z49 r
end
theorem QG:∀l:List Yq,z49 l=l.map enc
 |[]=>by simp [z49]
 |v::r=>by simp [z49,QG r]
def cs (v:Yq):List T:=[.str v.key,.str v.on,.str v.name,.lst (v.args.map Arg.enc),.str v.ty.name,.lst (v.ty.za.map nE),.str v.label,.int .i64 v.initial,.lst (v.zab.map enc)]
theorem wG (v:Yq):v.enc=v.cs:=by
 cases v;simp [enc,cs,key,on,name,args,ty,label,initial,zab,QG]
end Yq
def B47:Nat:=140737488355328
inductive Val.Ok:Val->Prop where
 |mk {k i:Int} {t:Str} {its:List Val} {ks:List Str} (h1:its.length*80<=B47) (h2:ks.length*16<=B47) (h3:∀x,x∈its->Val.Ok x) (h4:t.length<=140737488355328) (h5:∀x,x∈ks->x.length<=140737488355328):Val.Ok (.mk k i t its ks)
namespace Val.Ok
theorem il {v:Val} (h:v.Ok):v.items.length*80<=140737488355328:=by cases h with|mk h1 h2 h3=>exact h1
theorem kl {v:Val} (h:v.Ok):v.keys.length*16<=140737488355328:=by cases h with|mk h1 h2 h3=>exact h2
theorem it {v:Val} (h:v.Ok):∀x,x∈v.items->x.Ok:=by cases h with|mk h1 h2 h3=>exact h3
theorem tl {v:Val} (h:v.Ok):v.text.length<=140737488355328:=by cases h with|mk h1 h2 h3 h4=>exact h4
theorem kt {v:Val} (h:v.Ok):∀x,x∈v.keys->x.length<=140737488355328:=by cases h with|mk h1 h2 h3 h4 h5=>exact h5
end Val.Ok
def Val.zero:Val:= .mk 0 0 [] [] []
theorem Val.wI:Val.zero.Ok:= .mk (by decide) (by decide) (by simp) (by decide) (by simp)
def Arg.Ok (a:Arg):Prop:=a.val.Ok
structure Dir.Ok (d:Dir):Prop where
 l:d.args.length<=140737488355328
 a:∀x,x∈d.args->x.Ok
 nm:d.name.length<=140737488355328
structure Ref.Ok (r:Ref):Prop where
 l:r.za.length*8<=140737488355328
 nm:r.name.length<=140737488355328
structure Input.Ok (x:Input):Prop where
 t:x.ty.Ok
 v:x.YL.Ok
 l:x.zg.length<=140737488355328
 d:∀y,y∈x.zg->y.Ok
 nm:x.name.length<=140737488355328
structure Field.Ok (x:Field):Prop where
 al:x.args.length<=140737488355328
 a:∀y,y∈x.args->y.Ok
 t:x.ty.Ok
 l:x.zg.length<=140737488355328
 d:∀y,y∈x.zg->y.Ok
 nm:x.name.length<=140737488355328
structure zh.Ok (x:zh):Prop where
 l:x.zg.length<=140737488355328
 d:∀y,y∈x.zg->y.Ok
 nm:x.name.length<=140737488355328
structure Def.Ok (x:Def):Prop where
 il:x.implements.length<=140737488355328
 dl:x.zg.length<=140737488355328
 d:∀y,y∈x.zg->y.Ok
 fl:x.fields.length<=140737488355328
 f:∀y,y∈x.fields->y.Ok
 ml:x.members.length<=140737488355328
 m:∀y,y∈x.members->y.Ok
 nl:x.zi.length<=140737488355328
 n:∀y,y∈x.zi->y.Ok
 nm:x.name.length<=140737488355328
 im:∀y,y∈x.implements->y.length<=140737488355328
structure zV (ds:List Def):Prop where
 l:ds.length<=140737488355328
 d:∀y,y∈ds->y.Ok
 lb:ds.length*144<=140737488355328
inductive Yq.Ok:Yq->Prop where
 |mk {k o n:Str} {a:List Arg} {t:Ref} {l:Str} {i:Int} {ps:List Yq} (h1:a.length*96<=B47) (h2:∀x,x∈a->x.Ok) (h3:t.Ok) (h4:ps.length*160<=B47) (h5:∀x,x∈ps->Yq.Ok x):Yq.Ok (.mk k o n a t l i ps)
namespace Yq.Ok
theorem al {v:Yq} (h:v.Ok):v.args.length*96<=140737488355328:=by cases h with|mk h1=>exact h1
theorem t {v:Yq} (h:v.Ok):v.ty.Ok:=by cases h with|mk h1 h2 h3=>exact h3
end Yq.Ok
def Def.v (d:Def):V:= .agg [.t (.int .i64 d.kind),.t (.str d.name),.t (.lst (d.implements.map sE)),.t (.lst (d.zg.map Dir.enc)),.t (.lst (d.fields.map Field.enc)),.t (.lst (d.members.map zh.enc)),.t (.lst (d.zi.map Input.enc))]
def Def.zero:Def:=⟨0,[],[],[],[],[],[]⟩
theorem Def.wI:Def.zero.Ok:=⟨by decide,by decide,by simp [Def.zero],by decide,by simp [Def.zero],by decide,by simp [Def.zero],by decide,by simp [Def.zero],by decide,by simp [Def.zero]⟩
def Field.v (f:Field):V:= .agg [.t (.str f.name),.t (.lst (f.args.map Input.enc)),.t (.str f.ty.name),.t (.lst (f.ty.za.map nE)),.t (.lst (f.zg.map Dir.enc))]
def Field.zero:Field:=⟨[],[],⟨[],[]⟩,[]⟩
theorem Field.wI:Field.zero.Ok:=⟨by decide,by simp [Field.zero],⟨by decide,by decide⟩,by decide,by simp [Field.zero],by decide⟩
def Dir.v (d:Dir):V:= .agg [.t (.str d.name),.t (.lst (d.args.map Arg.enc))]
def Y8 (l:List Def):V:= .agg [.t (.lst (l.map Def.enc))]
def Ref.v (r:Ref):V:= .agg [.t (.str r.name),.t (.lst (r.za.map nE))]
def Arg.v (a:Arg):V:= .agg [.t (.str a.name),.t (.int .i64 a.val.kind),.t (.int .i64 a.val.int),.t (.str a.val.text),.t (.lst (a.val.items.map Val.enc)),.t (.lst (a.val.keys.map sE))]
namespace Yq
end Yq
section
variable {P:Program} {n m:Nat} {R:St->Prop} {draw:Bool} {all:List AO} {after:List (List Nat)} {live:List Nat} {k:List It} {b b':Nat} {fl:List (Bool×Bool)} {ops:List AO} {st st':St} {d:Option Nat}
theorem Mid.w6 {α:Type} {f:α->List T} {l:List α} {e:α} {c:List T} {sz j:Nat} {x i:Ar} {v:V} {kd:IntKind} (hf:f e=c) (hx:rd true st x=(v,[])) (hv:v.zw=some (.lst (l.map f))) (hi:rd true st i=(.t (.int kd j),[])) (hc:l[j]?=some e) (hl:(Nat.beq c.length sz&&!(Nat.beq sz 0))=true)
  (hs:zP st d (.t (.ptr c)) some=some st') (h':Mid P n m R draw all after live k b ((false,false)::fl) ops st'):Mid P n m R draw all after live k b fl (⟨d,none,.ia sz x i⟩::ops) st:=by
 subst hf;exact Mid.zb hx hv hi hc hl hs h'
end
abbrev TCo (t:Def):zd:= .cells [.t (.int .i64 t.kind),.t (.str t.name),.t (.lst (t.implements.map sE)),.t (.lst (t.zg.map Dir.enc)),.t (.lst (t.fields.map Field.enc)),.t (.lst (t.members.map zh.enc)),.t (.lst (t.zi.map Input.enc))]
abbrev VCo (v:Val):zd:= .cells [.t (.int .i64 v.kind),.t (.int .i64 v.int),.t (.str v.text),.t (.lst (v.items.map Val.enc)),.t (.lst (v.keys.map sE))]
abbrev XBo (x:Yq):zd:= .cells [.t (.str x.key),.t (.str x.on),.t (.str x.name),.t (.lst (x.args.map Arg.enc)),.t (.str x.ty.name),.t (.lst (x.ty.za.map nE)),.t (.str x.label),.t (.int .i64 x.initial),.t (.lst (x.zab.map Yq.enc))]
abbrev WOo (ds:List Def) (lit:Bool) (c e:Int):zd:= .cells [.t (.lst (List.map Def.enc ds)),.t (.int .i64 0),.t (.int .i64 0),.t (.str []),.t (.lst []),.t (.lst []),.t (.bool lit),.t (.int .i64 c),.t (.int .i64 e)]
end Go.GB
