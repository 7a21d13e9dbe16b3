/-
  YtnmhhhnkjnhafaaGreatP0: lemmas. No conditions.
-/
import Derived.Calls
import Derived.Orders
import Derived.Laws.World
import Derived.Lib.Bytealg
import Derived.Laws.Sem
import Derived.Laws.Tables
import Derived.Laws.Cells
import Derived.Laws.Rows
import Derived.Laws.Strings
import Derived.Lib.Strings
import Derived.Laws.AppendOwn
import Derived.Laws.CopyRow
import Derived.Laws.MakeOwn
set_option linter.all false
set_option maxRecDepth 100000
set_option maxHeartbeats 16000000
namespace Go.GB
theorem Z.{u} {α:Sort u} {a:α}:a=a:=rfl
theorem zLB {n m:Nat} (h:Nat.ble n m=true):n<=m:=Nat.le_of_ble_eq_true h
theorem zMG {α:Type} {l:List α} {i:Nat} {a:α} (h:l[i]?=some a):a∈l:=List.mem_of_getElem? h
theorem zDT {p:Prop} [s:Decidable p] (h:decide p=true):p:=of_decide_eq_true h
inductive T where
 |bool (b:Bool)
 |int (k:IntKind) (n:Int)
 |str (s:List UInt8)
 |lst (xs:List (List T))
 |ptr (cs:List T)
 |fn (f:FuncId)
 |QP
 |qG
 |z28
 |ad (a:Addr) (cs:List T)
inductive V where
 |t (x:T)
 |zV
 |own (k sz:Nat) (xs:List (List T))
 |slc (k off len sz:Nat)
 |agg (cs:List V)
 |tup (vs:List V)
 |ptr (k off:Nat)
 |mp (k:Nat)
 |fn (f:FuncId) (caps:List (Nat×Nat))
 |gd (c:Bool) (x:V)
 |top
 |ub (c d:Prop)
 |fpt (k i off:Nat)
 |gpt (k ver off:Nat)
 |gsl (k ver off len sz:Nat)
 |fow (k i sz:Nat) (xs:List (List T))
 |ui (k:IntKind)
inductive z3 where
 |cells (cs:List V)
 |map (kag:Bool) (es:List (List T×V)) (st:Option (Nat×List Nat))
 |arr (n:Nat)
 |iter (q since:Nat) (seen:List Nat) (last:Nat)
 |gro (r:Nat) (cs:List V)
 |yJ (os:List (List V))
 |yh (ns:List Nat)
 |zP (kag:Bool) (I:List T->T->Prop)
 |abs (J:(Value->T->Prop)->(Nat->Option Obj)->(Nat->Nat->Prop)->Prop)
inductive Lab where
 |fix (fr:Option Nat)
 |obj (k:Nat)
 |arr (k fr:Nat)
 |fob (k i:Nat)
 |far (k i fr:Nat)
structure L where
 lab:Nat->Lab
 fro:Nat->Nat
 nxt:Nat
 w:World
 frf:Nat->Nat->Nat
def Zk (w:World) (b:Nat):Option Nat:=
 match w.heap[b]? with
 |some (.cells arr _ _)=>some arr.size
 |_=>none
def Rd (l:Nat->Lab) (b o:Nat):Prop:=
 match l b with
 | .fix none=>True
 | .fix (some fr)=>o<fr
 | .arr _ fr=>o<fr
 | .obj _=>False
 | .far _ _ fr=>o<fr
 | .fob _ _=>False
inductive zO (l:Nat->Lab) (w:World):Value->T->Prop
 |bool (b:Bool):zO l w (.bool b) (.bool b)
 |int (k:IntKind) (n:Int):zO l w (.int k n) (.int k n)
 |str (s:List UInt8):zO l w (.string ⟨⟨s⟩⟩) (.str s)
 |fn (f:FuncId):zO l w (.func (.func f) #[] #[]) (.fn f)
 |QP:zO l w (.pointer none) .QP
 |qG:zO l w (.map none) .qG
 |z28:zO l w .nilFunc .z28
 |ptr (cs:List T) (b o:Nat) (vf:Nat->Value)
   (hr:∀(j:Nat) (x:T),cs[j]?=some x->Rd l b (o+j))
   (hc:∀(j:Nat) (x:T),cs[j]?=some x->w.cell? ⟨b,o+j,none⟩=some (vf j))
   (h:∀(j:Nat) (x:T),cs[j]?=some x->zO l w (vf j) x):
   zO l w (.pointer (some ⟨b,o,none⟩)) (.ptr cs)
 |ad (cs:List T) (b o:Nat) (vf:Nat->Value)
   (hr:∀(j:Nat) (x:T),cs[j]?=some x->Rd l b (o+j))
   (hc:∀(j:Nat) (x:T),cs[j]?=some x->w.cell? ⟨b,o+j,none⟩=some (vf j))
   (h:∀(j:Nat) (x:T),cs[j]?=some x->zO l w (vf j) x):
   zO l w (.pointer (some ⟨b,o,none⟩)) (.ad ⟨b,o,none⟩ cs)
 |lst (a:Option Addr) (cap sz:Nat) (xs:List (List T)) (b o:Nat) (vf:Nat->Nat->Value)
   (hcap:xs.length<=cap) (hsz:∀(i:Nat) (c:List T),xs[i]?=some c->c.length=sz)
   (ha:∀(i j:Nat) (c:List T) (x:T),xs[i]?=some c->c[j]?=some x->a=some ⟨b,o,none⟩)
   (hr:∀(i j:Nat) (c:List T) (x:T),xs[i]?=some c->c[j]?=some x->Rd l b (o+i*sz+j))
   (hc:∀(i j:Nat) (c:List T) (x:T),xs[i]?=some c->c[j]?=some x->w.cell? ⟨b,o+i*sz+j,none⟩=some (vf i j))
   (h:∀(i j:Nat) (c:List T) (x:T),xs[i]?=some c->c[j]?=some x->zO l w (vf i j) x):
   zO l w (.slice a xs.length cap) (.lst xs)
structure Fr (l:Nat->Lab) (w:World) (l':Nat->Lab) (w':World):Prop where
 os:w'.os=w.os
 tape:w'.tape=w.tape
 output:w'.output=w.output
 size:w.heap.size<=w'.heap.size
 fix:∀b,b<w.heap.size->∀fr,l b= .fix fr->l' b= .fix fr/\w'.heap[b]?=w.heap[b]?
 arr:∀b,b<w.heap.size->∀k fr,l b= .arr k fr->∀o,o<fr->Rd l' b o/\w'.cell? ⟨b,o,none⟩=w.cell? ⟨b,o,none⟩
 far:∀b,b<w.heap.size->∀k i fr,l b= .far k i fr->∀o,o<fr->Rd l' b o/\w'.cell? ⟨b,o,none⟩=w.cell? ⟨b,o,none⟩
theorem cell?_heap {w w':World} {b o:Nat} (h:w'.heap[b]?=w.heap[b]?):w'.cell? ⟨b,o,none⟩=w.cell? ⟨b,o,none⟩:=by
 simp [World.cell?,h]
theorem z6v {w:World} {b o:Nat} {v:Value} (h:w.cell? ⟨b,o,none⟩=some v):b<w.heap.size:=by
 unfold World.cell? at h;simp only at h
 cases hb:w.heap[b]? with
 |none=>rw [hb] at h;simp at h
 |some x=>exact (Array.getElem?_eq_some_iff.1 hb).1
theorem z0U {w:World} {b:Nat} {o:Obj} (h:w.heap[b]?=some o):b<w.heap.size:=(Array.getElem?_eq_some_iff.1 h).1
theorem Fr.refl (l:Nat->Lab) (w:World):Fr l w l w:=
 ⟨rfl,rfl,rfl,Nat.le_refl _,fun _ _ _ h=>⟨h,rfl⟩,fun b _ k fr h o ho=>⟨by simp [Rd,h,ho],rfl⟩,fun b _ k i fr h o ho=>⟨by simp [Rd,h,ho],rfl⟩⟩
theorem Fr.step {l l':Nat->Lab} {w w':World} (h:Fr l w l' w') {b o:Nat} (hb:b<w.heap.size) (hr:Rd l b o):
  Rd l' b o/\w'.cell? ⟨b,o,none⟩=w.cell? ⟨b,o,none⟩:=by
 cases hl:l b with
 |fix fr=>
  have:=h.fix b hb fr hl;refine ⟨?_,cell?_heap this.2⟩;simpa [Rd,hl,this.1] using hr
 |obj k=>simp [Rd,hl] at hr
 |arr k fr=>
  have hr':o<fr:=by simpa [Rd,hl] using hr
  exact h.arr b hb k fr hl o hr'
 |fob k i=>simp [Rd,hl] at hr
 |far k i fr=>
  have hr':o<fr:=by simpa [Rd,hl] using hr
  exact h.far b hb k i fr hl o hr'
theorem Fr.trans {l1 l2 l3:Nat->Lab} {w1 w2 w3:World} (h:Fr l1 w1 l2 w2) (k:Fr l2 w2 l3 w3):Fr l1 w1 l3 w3:=by
 refine ⟨k.os.trans h.os,k.tape.trans h.tape,k.output.trans h.output,Nat.le_trans h.size k.size,?_,?_,?_⟩
 ·intro b hb fr hl;obtain ⟨h1,h2⟩:=h.fix b hb fr hl;obtain ⟨k1,k2⟩:=k.fix b (Nat.lt_of_lt_of_le hb h.size) fr h1;exact ⟨k1,k2.trans h2⟩
 ·intro b hb n fr hl o ho;obtain ⟨h1,h2⟩:=h.arr b hb n fr hl o ho;obtain ⟨k1,k2⟩:=k.step (Nat.lt_of_lt_of_le hb h.size) h1;exact ⟨k1,k2.trans h2⟩
 ·intro b hb n i fr hl o ho;obtain ⟨h1,h2⟩:=h.far b hb n i fr hl o ho;obtain ⟨k1,k2⟩:=k.step (Nat.lt_of_lt_of_le hb h.size) h1;exact ⟨k1,k2.trans h2⟩
theorem zO.yq {l l':Nat->Lab} {w w':World} (hf:∀b o v,w.cell? ⟨b,o,none⟩=some v->Rd l b o->Rd l' b o/\w'.cell? ⟨b,o,none⟩=w.cell? ⟨b,o,none⟩) {v:Value} {x:T} (h:zO l w v x):zO l' w' v x:=by
 induction h with
 |bool b=>exact .bool b
 |int k n=>exact .int k n
 |str s=>exact .str s
 |fn f=>exact .fn f
 |QP=>exact .QP
 |qG=>exact .qG
 |z28=>exact .z28
 |ptr cs b o vf hr hc _ ih=>
  refine .ptr cs b o vf ?_ ?_ ih
  ·intro j x h;exact (hf _ _ _ (hc j x h) (hr j x h)).1
  ·intro j x h;rw [(hf _ _ _ (hc j x h) (hr j x h)).2];exact hc j x h
 |ad cs b o vf hr hc _ ih=>
  refine .ad cs b o vf ?_ ?_ ih
  ·intro j x h;exact (hf _ _ _ (hc j x h) (hr j x h)).1
  ·intro j x h;rw [(hf _ _ _ (hc j x h) (hr j x h)).2];exact hc j x h
 |lst a cap sz xs b o vf hcap hsz ha hr hc _ ih=>
  refine .lst a cap sz xs b o vf hcap hsz ha ?_ ?_ ih
  ·intro i j c x h1 h2;exact (hf _ _ _ (hc i j c x h1 h2) (hr i j c x h1 h2)).1
  ·intro i j c x h1 h2;rw [(hf _ _ _ (hc i j c x h1 h2) (hr i j c x h1 h2)).2];exact hc i j c x h1 h2
theorem zO.mono {l l':Nat->Lab} {w w':World} (hf:Fr l w l' w') {v:Value} {x:T} (h:zO l w v x):zO l' w' v x:=
 h.yq fun _ _ _ hc hr=>hf.step (z6v hc) hr
def ze2 (l:Nat->Lab) (w:World) (k sz n:Nat) (v:Value):Prop:=
 ((∃a:Option Addr,v= .slice a 0 0)/\n=0)∨
 ∃(b cap:Nat) (arr:Array Value) (e:TypeId),v= .slice (some ⟨b,0,none⟩) n cap/\l b= .arr k (n*sz)/\
  w.heap[b]?=some (.cells arr e (0,0))/\arr.size=cap*sz/\n<=cap
def zcw (l:Nat->Lab) (w:World) (k i sz n:Nat) (v:Value):Prop:=
 ((∃a:Option Addr,v= .slice a 0 0)/\n=0)∨
 ∃(b cap:Nat) (arr:Array Value) (e:TypeId),v= .slice (some ⟨b,0,none⟩) n cap/\l b= .far k i (n*sz)/\
  w.heap[b]?=some (.cells arr e (0,0))/\arr.size=cap*sz/\n<=cap
def WB (l:Nat->Lab) (k b:Nat):Prop:=∃i,l b= .fob k i/\∀b' i',l b'= .fob k i'->i'<=i
def zdg (l:Nat->Lab) (w:World) (k off len sz:Nat) (v:Value):Prop:=
 ((∃a:Option Addr,v= .slice a 0 0)/\len=0)∨
 ∃(b cap N:Nat),v= .slice (some ⟨b,off,none⟩) len cap/\len<=cap/\WB l k b/\Zk w b=some N/\off+cap*sz=N
inductive zn (Λ:L):Value->V->Prop
 |t {v:Value} {x:T} (h:zO Λ.lab Λ.w v x):zn Λ v (.t x)
 |zV {a:Option Addr}:zn Λ (.slice a 0 0) .zV
 |own {v:Value} {k sz:Nat} {xs:List (List T)} (h:zO Λ.lab Λ.w v (.lst xs)) (hsz:∀(i:Nat) (c:List T),xs[i]?=some c->c.length=sz)
   (hk:k<Λ.nxt) (hn:xs.length<=Λ.fro k) (ho:xs.length=Λ.fro k->ze2 Λ.lab Λ.w k sz xs.length v):zn Λ v (.own k sz xs)
 |slc {b k off len cap sz:Nat} (hk:k<Λ.nxt) (hc:len<=cap) (h:Λ.lab b= .obj k):zn Λ (.slice (some ⟨b,off,none⟩) len cap) (.slc k off len sz)
 |agg {vs:Array Value} {cs:List V} (hs:vs.size=cs.length) (h:∀(j:Nat) (v:Value) (c:V),vs[j]?=some v->cs[j]?=some c->zn Λ v c):zn Λ (.agg vs) (.agg cs)
 |tup {vs:Array Value} {cs:List V} (hs:vs.size=cs.length) (h:∀(j:Nat) (v:Value) (c:V),vs[j]?=some v->cs[j]?=some c->zn Λ v c):zn Λ (.tuple vs) (.tup cs)
 |ptr {b k off:Nat} (hk:k<Λ.nxt) (h:Λ.lab b= .obj k):zn Λ (.pointer (some ⟨b,off,none⟩)) (.ptr k off)
 |mp {b k:Nat} (hk:k<Λ.nxt) (h:Λ.lab b= .obj k):zn Λ (.map (some b)) (.mp k)
 |fn {f:FuncId} {vs:Array Value} {cs:List (Nat×Nat)} (hs:vs.size=cs.length)
   (h:∀(j:Nat) (v:Value) (c:Nat×Nat),vs[j]?=some v->cs[j]?=some c->∃b,v= .pointer (some ⟨b,c.2,none⟩)/\Λ.lab b= .obj c.1/\c.1<Λ.nxt):
   zn Λ (.func (.func f) #[] vs) (.fn f cs)
 |gd {v:Value} {c:Bool} {x:V} (h:c=true->zn Λ v x) (h':c=false->v=undef):zn Λ v (.gd c x)
 |top {v:Value}:zn Λ v .top
 |ui {k:IntKind} {n:Int}:zn Λ (.int k n) (.ui k)
 |ub {b:Bool} {c d:Prop} (h:b=true->c) (h':b=false->d):zn Λ (.bool b) (.ub c d)
 |fpt {b k i off:Nat} (hk:k<Λ.nxt) (h:Λ.lab b= .fob k i):zn Λ (.pointer (some ⟨b,off,none⟩)) (.fpt k i off)
 |gpt {v:Value} {k ver off:Nat} (hv:∃a,v= .pointer a) (hk:k<Λ.nxt) (hn:0<ver/\ver<=Λ.frf k 0) (h:ver=Λ.frf k 0->∃b,v= .pointer (some ⟨b,off,none⟩)/\WB Λ.lab k b):zn Λ v (.gpt k ver off)
 |gsl {v:Value} {k ver off len sz:Nat} (hv:∃a n c,v= .slice a n c) (hk:k<Λ.nxt) (hn:(ver=0->(∃a:Option Addr,v= .slice a 0 0)/\len=0)/\ver<=Λ.frf k 0) (h:ver=Λ.frf k 0->zdg Λ.lab Λ.w k off len sz v):zn Λ v (.gsl k ver off len sz)
 |fow {v:Value} {k i sz:Nat} {xs:List (List T)} (h:zO Λ.lab Λ.w v (.lst xs)) (hsz:∀(i:Nat) (c:List T),xs[i]?=some c->c.length=sz)
   (hk:k<Λ.nxt) (hn:xs.length<=Λ.frf k i) (ho:xs.length=Λ.frf k i->zcw Λ.lab Λ.w k i sz xs.length v):zn Λ v (.fow k i sz xs)
structure Kp (Λ Λ':L):Prop where
 fr:Fr Λ.lab Λ.w Λ'.lab Λ'.w
 nxt:Λ.nxt<=Λ'.nxt
 obj:∀b k,k<Λ.nxt->Λ.lab b= .obj k->Λ'.lab b= .obj k
 own:∀b k n,k<Λ.nxt->b<Λ.w.heap.size->Λ.lab b= .arr k n->Λ'.fro k=Λ.fro k->Λ'.lab b= .arr k n/\Λ'.w.heap[b]?=Λ.w.heap[b]?
 fro:∀k,k<Λ.nxt->Λ.fro k<=Λ'.fro k
 fob:∀b k i,k<Λ.nxt->Λ.lab b= .fob k i->Λ'.lab b= .fob k i/\∀N,Zk Λ.w b=some N->Zk Λ'.w b=some N
 far:∀b k i n,k<Λ.nxt->b<Λ.w.heap.size->Λ.lab b= .far k i n->Λ'.frf k i=Λ.frf k i->Λ'.lab b= .far k i n/\Λ'.w.heap[b]?=Λ.w.heap[b]?
 frf:∀k i,k<Λ.nxt->Λ.frf k i<=Λ'.frf k i
 z41:∀b k i,k<Λ.nxt->0<Λ.frf k 0->Λ'.frf k 0=Λ.frf k 0->Λ'.lab b= .fob k i->Λ.lab b= .fob k i
theorem Kp.refl (Λ:L):Kp Λ Λ:=⟨Fr.refl _ _,Nat.le_refl _,fun _ _ _ h=>h,fun _ _ _ _ _ h _=>⟨h,rfl⟩,fun _ _=>Nat.le_refl _,fun _ _ _ _ h=>⟨h,fun _ h=>h⟩,fun _ _ _ _ _ _ h _=>⟨h,rfl⟩,fun _ _ _=>Nat.le_refl _,fun _ _ _ _ _ _ h=>h⟩
theorem Kp.trans {A B C:L} (h:Kp A B) (k:Kp B C):Kp A C:=by
 refine ⟨h.fr.trans k.fr,Nat.le_trans h.nxt k.nxt,fun b n hn hl=>k.obj b n (Nat.lt_of_lt_of_le hn h.nxt) (h.obj b n hn hl),?_,fun n hn=>Nat.le_trans (h.fro n hn) (k.fro n (Nat.lt_of_lt_of_le hn h.nxt)),fun b n i hn hl=>?_,?_,fun n i hn=>Nat.le_trans (h.frf n i hn) (k.frf n i (Nat.lt_of_lt_of_le hn h.nxt)),fun b n i hn hp hf hl=>?_⟩
 rotate_left
 ·obtain ⟨a1,a2⟩:=h.fob b n i hn hl;obtain ⟨b1,b2⟩:=k.fob b n i (Nat.lt_of_lt_of_le hn h.nxt) a1;exact ⟨b1,fun N hN=>b2 N (a2 N hN)⟩
 ·intro b n i m hn hb hl hf;have h1:=h.frf n i hn;have h2:=k.frf n i (Nat.lt_of_lt_of_le hn h.nxt);obtain ⟨e1,e2⟩:=h.far b n i m hn hb hl (by omega);obtain ⟨e3,e4⟩:=k.far b n i m (Nat.lt_of_lt_of_le hn h.nxt) (Nat.lt_of_lt_of_le hb h.fr.size) e1 (by omega);exact ⟨e3,e4.trans e2⟩
 ·have h1:=h.frf n 0 hn;have h2:=k.frf n 0 (Nat.lt_of_lt_of_le hn h.nxt);exact h.z41 b n i hn hp (by omega) (k.z41 b n i (Nat.lt_of_lt_of_le hn h.nxt) (by omega) (by omega) hl)
 intro b n m hn hb hl hf;have h1:=h.fro n hn;have h2:=k.fro n (Nat.lt_of_lt_of_le hn h.nxt);obtain ⟨e1,e2⟩:=h.own b n m hn hb hl (by omega);obtain ⟨e3,e4⟩:=k.own b n m (Nat.lt_of_lt_of_le hn h.nxt) (Nat.lt_of_lt_of_le hb h.fr.size) e1 (by omega);exact ⟨e3,e4.trans e2⟩
theorem zn.mono {Λ Λ':L} (hk:Kp Λ Λ') {v:Value} {x:V} (h:zn Λ v x):zn Λ' v x:=by
 induction h with
 |t h=>exact .t (h.mono hk.fr)
 |zV=>exact .zV
 |@own v k sz xs h hsz hl hn ho=>
  have hf:=hk.fro k hl;refine .own (h.mono hk.fr) hsz (Nat.lt_of_lt_of_le hl hk.nxt) (Nat.le_trans hn hf) fun he=>?_
  rcases ho (by omega) with ho|⟨b,cap,arr,e,hv,hb,hh,hc,hm⟩
  ·exact .inl ho
  ·obtain ⟨e1,e2⟩:=hk.own b k _ hl (z0U hh) hb (by omega)
   exact .inr ⟨b,cap,arr,e,hv,e1,by rw [e2];exact hh,hc,hm⟩
 |slc hl hc h=>exact .slc (Nat.lt_of_lt_of_le hl hk.nxt) hc (hk.obj _ _ hl h)
 |agg hs _ ih=>exact .agg hs ih
 |tup hs _ ih=>exact .tup hs ih
 |ptr hl h=>exact .ptr (Nat.lt_of_lt_of_le hl hk.nxt) (hk.obj _ _ hl h)
 |mp hl h=>exact .mp (Nat.lt_of_lt_of_le hl hk.nxt) (hk.obj _ _ hl h)
 |fn hs h=>exact .fn hs fun j v c h1 h2=>let ⟨b,e1,e2,e3⟩:=h j v c h1 h2;⟨b,e1,hk.obj _ _ e3 e2,Nat.lt_of_lt_of_le e3 hk.nxt⟩
 |gd _ h' ih=>exact .gd ih h'
 |top=>exact .top
 |ui=>exact .ui
 |ub h h'=>exact .ub h h'
 |fpt hl h=>exact .fpt (Nat.lt_of_lt_of_le hl hk.nxt) (hk.fob _ _ _ hl h).1
 |@gpt v k ver off hv hl hn h=>
  have hf:=hk.frf k 0 hl;obtain ⟨hp,hn⟩:=hn;refine .gpt hv (Nat.lt_of_lt_of_le hl hk.nxt) ⟨hp,Nat.le_trans hn hf⟩ fun he=>?_;obtain ⟨b,e1,i,e2,e3⟩:=h (by omega);exact ⟨b,e1,i,(hk.fob _ _ _ hl e2).1,fun b' i' h'=>e3 b' i' (hk.z41 b' k i' hl (by omega) (by omega) h')⟩
 |@gsl v k ver off len sz hv hl hn h=>
  have hf:=hk.frf k 0 hl;obtain ⟨hp,hn⟩:=hn;refine .gsl hv (Nat.lt_of_lt_of_le hl hk.nxt) ⟨hp,Nat.le_trans hn hf⟩ fun he=>?_;by_cases h0:ver=0
  ·exact .inl (hp h0)
  rcases h (by omega) with h|⟨b,cap,N,hv,hc,⟨i,e2,e3⟩,hN,he'⟩
  ·exact .inl h
  ·obtain ⟨e1,e4⟩:=hk.fob _ _ _ hl e2;exact .inr ⟨b,cap,N,hv,hc,⟨i,e1,fun b' i' h'=>e3 b' i' (hk.z41 b' k i' hl (by omega) (by omega) h')⟩,e4 N hN,he'⟩
 |@fow v k i sz xs h hsz hl hn ho=>
  have hf:=hk.frf k i hl;refine .fow (h.mono hk.fr) hsz (Nat.lt_of_lt_of_le hl hk.nxt) (Nat.le_trans hn hf) fun he=>?_
  rcases ho (by omega) with ho|⟨b,cap,arr,e,hv,hb,hh,hc,hm⟩
  ·exact .inl ho
  ·obtain ⟨e1,e2⟩:=hk.far b k i _ hl (z0U hh) hb (by omega)
   exact .inr ⟨b,cap,arr,e,hv,e1,by rw [e2];exact hh,hc,hm⟩
def zi {α:Type}:List (Nat×α)->Nat->Option α
 |[],_=>none
 |(k,x)::r,t=>if k=t then some x else zi r t
def yC {α:Type}:List (Nat×α)->Nat->α->List (Nat×α)
 |[],d,v=>[(d,v)]
 |(k,x)::r,d,v=>if k=d then (k,v)::r else (k,x)::yC r d v
theorem Zh {α:Type} (e:List (Nat×α)) (d:Nat) (v:α) (t:Nat):zi (yC e d v) t=if d=t then some v else zi e t:=by
 induction e with
 |nil=>simp [yC,zi]
 |cons h r ih=>
  obtain ⟨k,x⟩:=h;by_cases h1:k=d
  ·subst h1;simp only [yC,if_true,zi];by_cases h:k=t<;>simp [h]
  ·simp only [yC,h1,if_false,zi,ih];by_cases h3:k=t
   ·subst h3;simp [Ne.symm h1]
   ·simp [h3]
def look (e:List (Nat×V)) (t:Nat):V:=(zi e t).getD .top
theorem yL (e:List (Nat×V)) (d:Nat) (v:V) (t:Nat):look (yC e d v) t=if d=t then v else look e t:=by
 unfold look;rw [Zh];split<;>rfl
def w8 (l:Nat->Lab) (w:World) (ag:Bool) (v:Value) (cs:List T):Prop:=
 if ag then ∃vs:Array Value,v= .agg vs/\vs.size=cs.length/\∀(j:Nat) (u:Value) (x:T),vs[j]?=some u->cs[j]?=some x->zO l w u x
 else ∃x,cs=[x]/\zO l w v x
theorem w8.yq {l l':Nat->Lab} {w w':World} (hf:∀v x,zO l w v x->zO l' w' v x) {ag:Bool} {v:Value} {cs:List T} (h:w8 l w ag v cs):w8 l' w' ag v cs:=by
 unfold w8 at*
 cases ag with
 |true=>obtain ⟨vs,h1,h2,h3⟩:=h;exact ⟨vs,h1,h2,fun j u x a b=>hf _ _ (h3 j u x a b)⟩
 |false=>obtain ⟨x,h1,h2⟩:=h;exact ⟨x,h1,hf _ _ h2⟩
structure YI (Λ:L) (kag:Bool) (ents:Array MapEntry) (clock:Nat) (es:List (List T×V)) (st:Option (Nat×List Nat)):Prop where
 size:ents.size=es.length
 at_:∀(i:Nat) (e:MapEntry) (kv:List T×V),ents[i]?=some e->es[i]?=some kv->w8 Λ.lab Λ.w kag e.key kv.1/\zn Λ e.val kv.2
 born:∀(i:Nat) (e:MapEntry),ents[i]?=some e->e.born<clock
 apart:∀(i j:Nat) (e f:MapEntry),ents[i]?=some e->ents[j]?=some f->e.born=f.born->i=j
 known:∀(c:Nat) (bs:List Nat),st=some (c,bs)->clock=c/\ents.toList.map (·.born)=bs
theorem YI.yq {Λ Λ':L} (hf:∀v x,zO Λ.lab Λ.w v x->zO Λ'.lab Λ'.w v x) {kag:Bool} {ents:Array MapEntry} {clock:Nat} {es:List (List T×V)} {st:Option (Nat×List Nat)}
  (hg:∀(i:Nat) (kv:List T×V) (v:Value),es[i]?=some kv->zn Λ v kv.2->zn Λ' v kv.2)
  (h:YI Λ kag ents clock es st):YI Λ' kag ents clock es st:=
 ⟨h.size,fun i e kv a b=>⟨(h.at_ i e kv a b).1.yq hf,hg i kv _ b (h.at_ i e kv a b).2⟩,h.born,h.apart,h.known⟩
def zbh (J:(Value->T->Prop)->(Nat->Option Obj)->(Nat->Nat->Prop)->Prop):Prop:=
 ∀(R R':Value->T->Prop) (H H':Nat->Option Obj) (own own':Nat->Nat->Prop),(∀v x,R v x->R' v x)->(∀b i,own b i↔own' b i)->(∀b i,own b i->H' b=H b)->J R H own->J R' H' own'
def W5 (Λ:L) (k:Nat):z3->Prop
 | .cells cs=>∃(b:Nat) (arr:Array Value) (e:TypeId),Λ.lab b= .obj k/\Λ.w.heap[b]?=some (.cells arr e (0,0))/\arr.size=cs.length/\
   ∀(j:Nat) (v:Value) (c:V),arr[j]?=some v->cs[j]?=some c->zn Λ v c
 | .map kag es st=>∃(b:Nat) (ents:Array MapEntry) (clock:Nat),Λ.lab b= .obj k/\Λ.w.heap[b]?=some (.map ents clock)/\YI Λ kag ents clock es st
 | .arr n=>Λ.fro k=n
 | .iter q s seen c=>∃(b bm:Nat),Λ.lab b= .obj k/\Λ.w.heap[b]?=some (.mapIter (some bm) s seen.toArray c)/\Λ.lab bm= .obj q/\q<Λ.nxt
 | .gro ver cs=>Λ.frf k 0=ver/\((cs=[]/\∀b i,Λ.lab b≠ .fob k i)∨∃(b:Nat) (arr:Array Value) (e:TypeId),WB Λ.lab k b/\Λ.w.heap[b]?=some (.cells arr e (0,0))/\cs.length<=arr.size/\
   ∀(j:Nat) (v:Value) (c:V),arr[j]?=some v->cs[j]?=some c->zn Λ v c)
 | .yJ os=>(∀b i,Λ.lab b= .fob k i->i<os.length)/\∀(i:Nat) (cs:List V),os[i]?=some cs->∃(b:Nat) (arr:Array Value) (e:TypeId),Λ.lab b= .fob k i/\Λ.w.heap[b]?=some (.cells arr e (0,0))/\arr.size=cs.length/\
   ∀(j:Nat) (v:Value) (c:V),arr[j]?=some v->cs[j]?=some c->zn Λ v c
 | .yh ns=>∀i,Λ.frf k i=(ns[i]?).getD 0
 | .zP kag I=>∃(b:Nat) (ents:Array MapEntry) (clock:Nat),Λ.lab b= .obj k/\Λ.w.heap[b]?=some (.map ents clock)/\(∀(i:Nat) (e:MapEntry),ents[i]?=some e->e.born<clock)/\
   (∀(i j:Nat) (e f:MapEntry),ents[i]?=some e->ents[j]?=some f->e.born=f.born->i=j)/\∀(i:Nat) (e:MapEntry),ents[i]?=some e->∃cs x,w8 Λ.lab Λ.w kag e.key cs/\zO Λ.lab Λ.w e.val x/\I cs x
 | .abs J=>zbh J/\Λ.frf k 0=0/\J (zO Λ.lab Λ.w) (fun b=>Λ.w.heap[b]?) (fun b i=>Λ.lab b= .fob k i)
structure S where
 sto:List (Nat×z3)
 nxt:Nat
structure Z4 (Λ:L) (s:S):Prop where
 sto:∀(k:Nat) (o:z3),zi s.sto k=some o->k<Λ.nxt/\W5 Λ k o
 inj:∀b b' k,Λ.lab b= .obj k->Λ.lab b'= .obj k->b=b'
 new:∀b,Λ.w.heap.size<=b->Λ.lab b= .fix none
 bnd:∀b k,(Λ.lab b= .obj k∨∃n,Λ.lab b= .arr k n)->k<Λ.nxt
 frz:∀k,Λ.nxt<=k->Λ.fro k=0
 YO:∀b b' k i,Λ.lab b= .fob k i->Λ.lab b'= .fob k i->b=b'
 YM:∀b k,((∃i,Λ.lab b= .fob k i)∨∃i n,Λ.lab b= .far k i n)->k<Λ.nxt
 z0H:∀k i,Λ.nxt<=k->Λ.frf k i=0
structure St where
 env:List (Nat×V)
 s:S
structure Ctx where
 P:Program
 n:Nat
 Λ:L
structure Rel (C:Ctx) (Λ:L) (st:St) (a:Act):Prop where
 kp:Kp C.Λ Λ
 size:a.tmps.size=C.n
 defers:a.defers=[]
 env:∀t,zn Λ (a.tmps.getD t undef) (look st.env t)
 s:Z4 Λ st.s
theorem z9O (a:Act) (d:Nat) (v:Value) (t:Nat) (h:d<a.tmps.size):
  (a.put (some d) v).tmps.getD t undef=if d=t then v else a.tmps.getD t undef:=by
 unfold Act.put;simp only [Array.getD_eq_getD_getElem?,Array.getElem?_setIfInBounds];by_cases e:d=t
 ·subst e;simp [h]
 ·simp [e]
theorem zaJ (a:Act) (d:Option Nat) (v:Value):(a.put d v).tmps.size=a.tmps.size:=by
 cases d<;>simp [Act.put]
theorem W5.mono {Λ Λ':L} (hk:Kp Λ Λ') {k:Nat} {o:z3} (hl:k<Λ.nxt) (hb:∀b,Λ.lab b= .obj k->Λ'.w.heap[b]?=Λ.w.heap[b]?) (hf:Λ'.fro k=Λ.fro k)
  (hb2:∀b i,Λ.lab b= .fob k i->Λ'.w.heap[b]?=Λ.w.heap[b]?) (hb3:∀b i,Λ'.lab b= .fob k i->Λ.lab b= .fob k i) (hf2:∀i,Λ'.frf k i=Λ.frf k i) (h:W5 Λ k o):W5 Λ' k o:=by
 cases o with
 |cells cs=>
  obtain ⟨b,arr,e,h1,h2,h3,h4⟩:=h
  exact ⟨b,arr,e,hk.obj _ _ hl h1,by rw [hb b h1];exact h2,h3,fun j v c a1 a2=>(h4 j v c a1 a2).mono hk⟩
 |map kag es st=>
  obtain ⟨b,ents,clock,h1,h2,h3⟩:=h
  exact ⟨b,ents,clock,hk.obj _ _ hl h1,by rw [hb b h1];exact h2,h3.yq (fun _ _ h=>h.mono hk.fr) (fun _ _ _ _ h=>h.mono hk)⟩
 |arr n=>unfold W5 at*;rw [hf];exact h
 |iter q s seen c=>
  obtain ⟨b,bm,h1,h2,h3,h4⟩:=h
  exact ⟨b,bm,hk.obj _ _ hl h1,by rw [hb b h1];exact h2,hk.obj _ _ h4 h3,Nat.lt_of_lt_of_le h4 hk.nxt⟩
 |gro r cs=>
  obtain ⟨h0,h⟩:=h;refine ⟨(hf2 0).trans h0,?_⟩
  rcases h with ⟨h1,h2⟩|⟨b,arr,e,⟨i,h1,h1'⟩,h2,h3,h4⟩
  ·exact .inl ⟨h1,fun b i hbr=>h2 b i (hb3 b i hbr)⟩
  ·exact .inr ⟨b,arr,e,⟨i,(hk.fob _ _ _ hl h1).1,fun b' i' h'=>h1' b' i' (hb3 b' i' h')⟩,by rw [hb2 b i h1];exact h2,h3,fun j v c a1 a2=>(h4 j v c a1 a2).mono hk⟩
 |yJ os=>
  obtain ⟨h0,h⟩:=h;refine ⟨fun b i hbi=>h0 b i (hb3 b i hbi),fun i cs hi=>?_⟩;obtain ⟨b,arr,e,h1,h2,h3,h4⟩:=h i cs hi
  exact ⟨b,arr,e,(hk.fob _ _ _ hl h1).1,by rw [hb2 b i h1];exact h2,h3,fun j v c a1 a2=>(h4 j v c a1 a2).mono hk⟩
 |yh ns=>exact fun i=>(hf2 i).trans (h i)
 |zP kag I=>
  obtain ⟨b,ents,clock,h1,h2,h3,h4,h5⟩:=h
  refine ⟨b,ents,clock,hk.obj _ _ hl h1,by rw [hb b h1];exact h2,h3,h4,fun i e hi=>?_⟩
  obtain ⟨cs,v,g1,g2,g3⟩:=h5 i e hi;exact ⟨cs,v,g1.yq fun _ _ h=>h.mono hk.fr,g2.mono hk.fr,g3⟩
 |abs J=>exact ⟨h.1,(hf2 0).trans h.2.1,h.1 _ _ _ _ _ _ (fun _ _ h=>h.mono hk.fr) (fun b i=>⟨fun h=>(hk.fob _ _ _ hl h).1,hb3 b i⟩) hb2 h.2.2⟩
structure Out where
 v:V
 ob:List (Nat×z3):=[]
 n:Nat:=0
 rd:Bool:=false
def Zj:List (Nat×z3)->List (Nat×z3)->List (Nat×z3)
 |s,[]=>s
 |s,(k,o)::r=>Zj (yC s k o) r
def S.app (s:S) (o:Out):S:={s with sto:=Zj s.sto o.ob}
def St.app (st:St) (d:Option Nat) (o:Out):St:=
 {env:=match d with|some d=>yC st.env d o.v|none=>st.env,s:=st.s.app o}
theorem Rel.step {C:Ctx} {Λ Λ':L} {st:St} {a:Act} (h:Rel C Λ st a) (hk:Kp Λ Λ') {d:Option Nat} (hd:∀x,d=some x->x<C.n) {v:Value} {o:Out} (hv:zn Λ' v o.v) (hs:Z4 Λ' (st.s.app o)):
  Rel C Λ' (st.app d o) (a.put d v):=by
 refine ⟨h.kp.trans hk,by rw [zaJ];exact h.size,by cases d<;>exact h.defers,fun t=>?_,hs⟩
 cases d with
 |none=>exact (h.env t).mono hk
 |some d=>
  simp only [St.app];rw [yL,z9O _ _ _ _ (by rw [h.size];exact hd d rfl)];by_cases e:d=t
  ·simp only [e,if_true];exact hv
  ·simp only [e,if_false];exact (h.env t).mono hk
structure y9 (Λ:L) (k:Nat):Prop where
 obj:∀b,Λ.lab b≠ .obj k
 arr:∀b n,Λ.lab b≠ .arr k n
 fro:Λ.fro k=0
 fob:∀b i,Λ.lab b≠ .fob k i
 far:∀b i n,Λ.lab b≠ .far k i n
 frf:∀i,Λ.frf k i=0
def L.up (Λ:L) (m:Nat):L:={Λ with nxt:=m}
theorem Kp.up (Λ:L) {m:Nat} (h:Λ.nxt<=m):Kp Λ (Λ.up m):=
 ⟨Fr.refl _ _,h,fun _ _ _ h=>h,fun _ _ _ _ _ h _=>⟨h,rfl⟩,fun _ _=>Nat.le_refl _,fun _ _ _ _ h=>⟨h,fun _ h=>h⟩,fun _ _ _ _ _ _ h _=>⟨h,rfl⟩,fun _ _ _=>Nat.le_refl _,fun _ _ _ _ _ _ h=>h⟩
theorem Z4.up {Λ:L} {s:S} (h:Z4 Λ s) {m:Nat} (hm:Λ.nxt<=m):Z4 (Λ.up m) s:=by
 have hk:=Kp.up Λ hm;refine ⟨fun k o hk'=>?_,h.inj,h.new,fun b k hb=>Nat.lt_of_lt_of_le (h.bnd b k hb) hm,fun k hk'=>h.frz k (Nat.le_trans hm hk'),h.YO,fun b k hb=>Nat.lt_of_lt_of_le (h.YM b k hb) hm,fun k i hk'=>h.z0H k i (Nat.le_trans hm hk')⟩;obtain ⟨h1,h2⟩:=h.sto k o hk';exact ⟨Nat.lt_of_lt_of_le h1 hm,h2.mono hk h1 (fun _ _=>rfl) Z (fun _ _ _=>rfl) (fun _ _ h=>h) (fun _=>rfl)⟩
theorem Z4.free {Λ:L} {s:S} (h:Z4 Λ s) {k:Nat} (hk:Λ.nxt<=k):y9 Λ k:=
 ⟨fun b hb=>by have:=h.bnd b k (.inl hb);omega,fun b n hb=>by have:=h.bnd b k (.inr ⟨n,hb⟩);omega,h.frz k hk,fun b i hb=>by have:=h.YM b k (.inl ⟨i,hb⟩);omega,fun b i n hb=>by have:=h.YM b k (.inr ⟨i,n,hb⟩);omega,fun i=>h.z0H k i hk⟩
theorem Rel.up {C:Ctx} {Λ:L} {st:St} {a:Act} (h:Rel C Λ st a) {m:Nat} (hm:Λ.nxt<=m):Rel C (Λ.up m) st a:=by
 have hk:=Kp.up Λ hm;exact ⟨h.kp.trans hk,h.size,h.defers,fun t=>(h.env t).mono hk,h.s.up hm⟩
mutual
def V.bd (m:Nat):V->Bool
 | .t _=>true
 | .zV=>true
 | .top=>true
 | .own k _ _=>decide (k<m)
 | .slc k _ _ _=>decide (k<m)
 | .ptr k _=>decide (k<m)
 | .mp k=>decide (k<m)
 | .fn _ cs=>cs.all fun c=>decide (c.1<m)
 | .agg cs=>V.bds m cs
 | .tup cs=>V.bds m cs
 | .gd _ x=>x.bd m
 | .ub _ _=>true
 | .ui _=>true
 | .fpt k _ _=>decide (k<m)
 | .gpt k _ _=>decide (k<m)
 | .gsl k _ _ _ _=>decide (k<m)
 | .fow k _ _ _=>decide (k<m)
def V.bds (m:Nat):List V->Bool
 |[]=>true
 |x::r=>x.bd m&&V.bds m r
end
theorem V.Zw {m:Nat}:∀{cs:List V},V.bds m cs=true->∀(j:Nat) (c:V),cs[j]?=some c->c.bd m=true
 |[],_,j,c,h=>by simp at h
 |x::r,hb,0,c,h=>by simp at h;subst h;simp [V.bds] at hb;exact hb.1
 |x::r,hb,j+1,c,h=>by simp [V.bds] at hb;exact V.Zw hb.2 j c (by simpa using h)
def L.cut (Λ:L) (m m':Nat):L where
 lab:=fun b=>match Λ.lab b with
  | .obj k=>if k<m then .obj k else .fix none
  | .arr k fr=>if k<m then .arr k fr else .fix none
  | .fob k i=>if k<m then .fob k i else .fix none
  | .far k i fr=>if k<m then .far k i fr else .fix none
  |x=>x
 fro:=fun k=>if k<m then Λ.fro k else 0
 nxt:=m'
 w:=Λ.w
 frf:=fun k i=>if k<m then Λ.frf k i else 0
theorem z0R {Λ:L} {m m' b:Nat} {fr:Option Nat} (h:Λ.lab b= .fix fr):(Λ.cut m m').lab b= .fix fr:=by simp [L.cut,h]
theorem ZY {Λ:L} {m m' b k:Nat} (h:Λ.lab b= .obj k) (hk:k<m):(Λ.cut m m').lab b= .obj k:=by simp [L.cut,h,hk]
theorem z70 {Λ:L} {m m' b k n:Nat} (h:Λ.lab b= .arr k n) (hk:k<m):(Λ.cut m m').lab b= .arr k n:=by simp [L.cut,h,hk]
theorem Yc {Λ:L} {m m' b k i:Nat} (h:Λ.lab b= .fob k i) (hk:k<m):(Λ.cut m m').lab b= .fob k i:=by simp [L.cut,h,hk]
theorem z7E {Λ:L} {m m' b k i n:Nat} (h:Λ.lab b= .far k i n) (hk:k<m):(Λ.cut m m').lab b= .far k i n:=by simp [L.cut,h,hk]
theorem zQ {Λ:L} {m m' b k i:Nat} (h:(Λ.cut m m').lab b= .fob k i):Λ.lab b= .fob k i/\k<m:=by
 simp only [L.cut] at h
 cases hl:Λ.lab b with
 |fix fr=>simp [hl] at h
 |obj j=>simp only [hl] at h;split at h<;>simp_all
 |arr j n=>simp only [hl] at h;split at h<;>simp_all
 |fob j n=>simp only [hl] at h;split at h<;>simp_all
 |far j n q=>simp only [hl] at h;split at h<;>simp_all
theorem z0l {Λ:L} {m m' b k i n:Nat} (h:(Λ.cut m m').lab b= .far k i n):Λ.lab b= .far k i n/\k<m:=by
 simp only [L.cut] at h
 cases hl:Λ.lab b with
 |fix fr=>simp [hl] at h
 |obj j=>simp only [hl] at h;split at h<;>simp_all
 |arr j n=>simp only [hl] at h;split at h<;>simp_all
 |fob j n=>simp only [hl] at h;split at h<;>simp_all
 |far j n q=>simp only [hl] at h;split at h<;>simp_all
theorem Y3 {Λ:L} {m m' b k:Nat} (h:(Λ.cut m m').lab b= .obj k):Λ.lab b= .obj k/\k<m:=by
 simp only [L.cut] at h
 cases hl:Λ.lab b with
 |fix fr=>simp [hl] at h
 |obj j=>simp only [hl] at h;split at h<;>simp_all
 |arr j n=>simp only [hl] at h;split at h<;>simp_all
 |fob j n=>simp only [hl] at h;split at h<;>simp_all
 |far j n q=>simp only [hl] at h;split at h<;>simp_all
theorem z0w {Λ:L} {m m' b k n:Nat} (h:(Λ.cut m m').lab b= .arr k n):Λ.lab b= .arr k n/\k<m:=by
 simp only [L.cut] at h
 cases hl:Λ.lab b with
 |fix fr=>simp [hl] at h
 |obj j=>simp only [hl] at h;split at h<;>simp_all
 |arr j n=>simp only [hl] at h;split at h<;>simp_all
 |fob j n=>simp only [hl] at h;split at h<;>simp_all
 |far j n q=>simp only [hl] at h;split at h<;>simp_all
theorem z5V {Λ:L} {m m' b o:Nat} (h:Rd Λ.lab b o):Rd (Λ.cut m m').lab b o:=by
 unfold Rd at*
 cases hl:Λ.lab b with
 |fix fr=>rw [z0R hl];rw [hl] at h;exact h
 |obj j=>simp [hl] at h
 |arr j n=>
  simp only [hl] at h;simp only [L.cut,hl]
  by_cases hj:j<m<;>simp [hj,h]
 |fob j i=>simp [hl] at h
 |far j i n=>
  simp only [hl] at h;simp only [L.cut,hl]
  by_cases hj:j<m<;>simp [hj,h]
theorem zO.cut {Λ:L} {m m':Nat} {v:Value} {x:T} (h:zO Λ.lab Λ.w v x):zO (Λ.cut m m').lab (Λ.cut m m').w v x:=
 h.yq fun _ _ _ _ hr=>⟨z5V hr,rfl⟩
theorem zn.cut {Λ:L} {m m':Nat} (hm:m<=m') {v:Value} {x:V} (h:zn Λ v x) (hb:x.bd m=true):zn (Λ.cut m m') v x:=by
 induction h with
 |t h=>exact .t h.cut
 |zV=>exact .zV
 |@own v k sz xs h hsz hl hn ho=>
  have hk:k<m:=by simpa [V.bd] using hb
  have hf:(Λ.cut m m').fro k=Λ.fro k:=by simp [L.cut,hk]
  refine .own h.cut hsz (Nat.lt_of_lt_of_le hk hm) (by rw [hf];exact hn) fun he=>?_
  rcases ho (by rw [←hf];exact he) with ho|⟨b,cap,arr,e,hv,hb',hh,hc,hn'⟩
  ·exact .inl ho
  ·exact .inr ⟨b,cap,arr,e,hv,z70 hb' hk,hh,hc,hn'⟩
 |@slc b k off len cap sz hl hc h=>
  have hk:k<m:=by simpa [V.bd] using hb
  exact .slc (Nat.lt_of_lt_of_le hk hm) hc (ZY h hk)
 |agg hs _ ih=>exact .agg hs fun j v c h1 h2=>ih j v c h1 h2 (V.Zw (by simpa [V.bd] using hb) j c h2)
 |tup hs _ ih=>exact .tup hs fun j v c h1 h2=>ih j v c h1 h2 (V.Zw (by simpa [V.bd] using hb) j c h2)
 |@ptr b k off hl h=>
  have hk:k<m:=by simpa [V.bd] using hb
  exact .ptr (Nat.lt_of_lt_of_le hk hm) (ZY h hk)
 |@mp b k hl h=>
  have hk:k<m:=by simpa [V.bd] using hb
  exact .mp (Nat.lt_of_lt_of_le hk hm) (ZY h hk)
 |fn hs h=>
  refine .fn hs fun j v c h1 h2=>?_;obtain ⟨b,e1,e2,e3⟩:=h j v c h1 h2
  have hk:c.1<m:=by
   simp only [V.bd,List.all_eq_true,decide_eq_true_eq] at hb;exact hb c (zMG h2)
  exact ⟨b,e1,ZY e2 hk,Nat.lt_of_lt_of_le hk hm⟩
 |gd _ h' ih=>exact .gd (fun hc=>ih hc (by simpa [V.bd] using hb)) h'
 |top=>exact .top
 |ub h h'=>exact .ub h h'
 |ui=>exact .ui
 |@fpt b k i off hl h=>
  have hk:k<m:=by simpa [V.bd] using hb
  exact .fpt (Nat.lt_of_lt_of_le hk hm) (Yc h hk)
 |@gpt v k ver off hv hl hn h=>
  have hk:k<m:=by simpa [V.bd] using hb
  have hf:(Λ.cut m m').frf k 0=Λ.frf k 0:=by simp [L.cut,hk]
  refine .gpt hv (Nat.lt_of_lt_of_le hk hm) (by rw [hf];exact hn) fun he=>?_;obtain ⟨b,e1,i,e2,e3⟩:=h (by rw [←hf];exact he);exact ⟨b,e1,i,Yc e2 hk,fun b' i' h'=>e3 b' i' (zQ h').1⟩
 |@gsl v k ver off len sz hv hl hn h=>
  have hk:k<m:=by simpa [V.bd] using hb
  have hf:(Λ.cut m m').frf k 0=Λ.frf k 0:=by simp [L.cut,hk]
  refine .gsl hv (Nat.lt_of_lt_of_le hk hm) (by rw [hf];exact hn) fun he=>?_
  rcases h (by rw [←hf];exact he) with h|⟨b,cap,N,hv,hc,⟨i,e2,e3⟩,hN,he'⟩
  ·exact .inl h
  ·exact .inr ⟨b,cap,N,hv,hc,⟨i,Yc e2 hk,fun b' i' h'=>e3 b' i' (zQ h').1⟩,hN,he'⟩
 |@fow v k i sz xs h hsz hl hn ho=>
  have hk:k<m:=by simpa [V.bd] using hb
  have hf:(Λ.cut m m').frf k i=Λ.frf k i:=by simp [L.cut,hk]
  refine .fow h.cut hsz (Nat.lt_of_lt_of_le hk hm) (by rw [hf];exact hn) fun he=>?_
  rcases ho (by rw [←hf];exact he) with ho|⟨b,cap,arr,e,hv,hb',hh,hc,hn'⟩
  ·exact .inl ho
  ·exact .inr ⟨b,cap,arr,e,hv,z7E hb' hk,hh,hc,hn'⟩
theorem Kp.cut {A Λ:L} {m m':Nat} (h:Kp A Λ) (hm:A.nxt<=m) (hm':m<=m'):Kp A (Λ.cut m m'):=by
 refine ⟨⟨h.fr.os,h.fr.tape,h.fr.output,h.fr.size,fun b hb fr hl=>?_,fun b hb k fr hl o ho=>?_,fun b hb k i fr hl o ho=>?_⟩,Nat.le_trans hm hm',fun b k hk hl=>?_,fun b k n hk hb hl hf=>?_,fun k hk=>?_,fun b k i hk hl=>?_,fun b k i n hk hb hl hf=>?_,fun k i hk=>?_,fun b k i hk hp hf hl=>?_⟩
 ·obtain ⟨h1,h2⟩:=h.fr.fix b hb fr hl;exact ⟨z0R h1,h2⟩
 ·obtain ⟨h1,h2⟩:=h.fr.arr b hb k fr hl o ho;exact ⟨z5V h1,h2⟩
 ·obtain ⟨h1,h2⟩:=h.fr.far b hb k i fr hl o ho;exact ⟨z5V h1,h2⟩
 ·exact ZY (h.obj b k hk hl) (Nat.lt_of_lt_of_le hk hm)
 ·have e:(Λ.cut m m').fro k=Λ.fro k:=by simp [L.cut,Nat.lt_of_lt_of_le hk hm]
  obtain ⟨h1,h2⟩:=h.own b k n hk hb hl (by rw [←e];exact hf);exact ⟨z70 h1 (Nat.lt_of_lt_of_le hk hm),h2⟩
 ·have e:(Λ.cut m m').fro k=Λ.fro k:=by simp [L.cut,Nat.lt_of_lt_of_le hk hm]
  rw [e];exact h.fro k hk
 ·obtain ⟨h1,h2⟩:=h.fob b k i hk hl;exact ⟨Yc h1 (Nat.lt_of_lt_of_le hk hm),h2⟩
 ·have e:(Λ.cut m m').frf k i=Λ.frf k i:=by simp [L.cut,Nat.lt_of_lt_of_le hk hm]
  obtain ⟨h1,h2⟩:=h.far b k i n hk hb hl (by rw [←e];exact hf);exact ⟨z7E h1 (Nat.lt_of_lt_of_le hk hm),h2⟩
 ·have e:(Λ.cut m m').frf k i=Λ.frf k i:=by simp [L.cut,Nat.lt_of_lt_of_le hk hm]
  rw [e];exact h.frf k i hk
 ·have e:(Λ.cut m m').frf k 0=Λ.frf k 0:=by simp [L.cut,Nat.lt_of_lt_of_le hk hm]
  exact h.z41 b k i hk hp (by rw [←e];exact hf) (zQ hl).1
def LeV (m m':Nat) (x x':V):Prop:=
 ∀(Λ:L) (v:Value),(∀k,m<=k->k<m'->Λ.fro k=0/\∀i,Λ.frf k i=0)->m'<=Λ.nxt->zn Λ v x->zn Λ v x'
theorem LeV.rfl {m m':Nat} {x:V}:LeV m m' x x:=fun _ _ _ _ h=>h
theorem LeV.top {m m':Nat} {x:V}:LeV m m' x .top:=fun _ _ _ _ _=> .top
theorem LeV.Z2 {m m' k sz:Nat} {xs:List (List T)}:LeV m m' (.own k sz xs) (.t (.lst xs)):=fun _ _ _ _ h=>by cases h;exact .t ‹_›
theorem zO.nil {l:Nat->Lab} {w:World} {a:Option Addr}:zO l w (.slice a 0 0) (.lst []):=
 .lst a 0 0 [] 0 0 (fun _ _=>undef) (by simp) (by simp) (by simp) (by simp) (by simp) (by simp)
theorem LeV.Z3 {m m':Nat}:LeV m m' .zV (.t (.lst [])):=fun _ _ _ _ h=>by cases h;exact .t .nil
theorem LeV.zp {m m' k sz:Nat} (_:m<=k) (h2:k<m'):LeV m m' .zV (.own k sz []):=fun _ _ hf hn h=>by
 cases h;exact .own .nil (by simp) (by omega) (by simp) (fun _=> .inl ⟨⟨_,Eq.refl _⟩,Eq.refl _⟩)
theorem LeV.adP {m m':Nat} {a:Addr} {cs:List T}:LeV m m' (.t (.ad a cs)) (.t (.ptr cs)):=fun _ _ _ _ h=>by
 cases h with
 |t h=>cases h with|ad _ b o vf hr hc h=>exact .t (.ptr cs b o vf hr hc h)
theorem LeV.agg {m m':Nat} {cs ds:List V} (hl:cs.length=ds.length) (h:∀(j:Nat) (c d:V),cs[j]?=some c->ds[j]?=some d->LeV m m' c d):LeV m m' (.agg cs) (.agg ds):=
 fun Λ v hf hn hr=>by
  cases hr with
  |agg hs hv=>
   refine .agg (hs.trans hl) fun j u d h1 h2=>?_
   have hlt:j<cs.length:=by rw [hl];exact (List.getElem?_eq_some_iff.1 h2).1
   exact h j cs[j] d (by simp [hlt]) h2 Λ u hf hn (hv j u _ h1 (by simp [hlt]))
def LeX (m m':Nat) (x x':V):Prop:=∃y,LeV m m x y/\y.bd m=true/\LeV m m' y x'
theorem LeX.same {m m':Nat} {x:V} (h:x.bd m=true):LeX m m' x x:=⟨x,.rfl,h,.rfl⟩
theorem LeX.top {m m':Nat} {x:V}:LeX m m' x .top:=⟨.top,.top,by simp [V.bd],.rfl⟩
theorem LeX.t {m m':Nat} {x:T}:LeX m m' (.t x) (.t x):= .same (by simp [V.bd])
theorem LeX.tEq {m m':Nat} {x y:T} (e:x=y):LeX m m' (.t x) (.t y):=e▸ .t
theorem LeX.Z2 {m m' k sz:Nat} {xs:List (List T)}:LeX m m' (.own k sz xs) (.t (.lst xs)):=⟨.t (.lst xs),.Z2,by simp [V.bd],.rfl⟩
theorem LeX.Z3 {m m':Nat}:LeX m m' .zV (.t (.lst [])):=⟨.zV,.rfl,by simp [V.bd],.Z3⟩
theorem LeX.zp {m m' k sz:Nat} (h1:m<=k) (h2:k<m'):LeX m m' .zV (.own k sz []):=⟨.zV,.rfl,by simp [V.bd],.zp h1 h2⟩
theorem LeX.cut {m m':Nat} (hm:m<=m') {x x':V} (h:LeX m m' x x') {Λ:L} {v:Value} (hx:m<=Λ.nxt) (hr:zn Λ v x):zn (Λ.cut m m') v x':=by
 obtain ⟨y,h1,h2,h3⟩:=h
 exact h3 _ _ (fun k hk _=>⟨by simp [L.cut];omega,fun i=>by simp [L.cut];omega⟩) (Nat.le_refl _) ((h1 Λ v (fun k h1 h2=>by omega) hx hr).cut hm h2)
def z3.fresh:z3->Bool
 | .arr n=>Nat.beq n 0
 | .gro ver cs=>(ver==0)&&cs.isEmpty
 | .yJ os=>os.isEmpty
 | .yh ns=>ns.isEmpty
 |_=>false
inductive za (m m':Nat):List V->List V->Prop
 |nil:za m m' [] []
 |cons {x y:V} {xs ys:List V} (h:LeX m m' x y) (t:za m m' xs ys):za m m' (x::xs) (y::ys)
theorem za.length {m m':Nat} {xs ys:List V} (h:za m m' xs ys):xs.length=ys.length:=by
 induction h with
 |nil=>rfl
 |cons _ _ ih=>simp [ih]
theorem za.at {m m':Nat} {xs ys:List V} (h:za m m' xs ys):∀(j:Nat) (c d:V),xs[j]?=some c->ys[j]?=some d->LeX m m' c d:=by
 induction h with
 |nil=>intro j c d h;simp at h
 |cons h _ ih=>
  intro j c d h1 h2
  cases j with
  |zero=>simp at h1 h2;subst h1;subst h2;exact h
  |succ j=>exact ih j c d (by simpa using h1) (by simpa using h2)
theorem za.same {m m':Nat}:∀{xs:List V},V.bds m xs=true->za m m' xs xs
 |[],_=> .nil
 |x::r,h=>by simp [V.bds] at h;exact .cons (.same h.1) (.same h.2)
inductive LeO (m m':Nat):z3->z3->Prop
 |cells {cs ds:List V} (h:za m m' cs ds):LeO m m' (.cells cs) (.cells ds)
 |map {a:Bool} {es fs:List (List T×V)} {st st':Option (Nat×List Nat)} (hk:es.map (·.1)=fs.map (·.1)) (hv:za m m' (es.map (·.2)) (fs.map (·.2))) (hs:st'=none∨st'=st):LeO m m' (.map a es st) (.map a fs st')
 |arr {n n':Nat} (h:n=n'):LeO m m' (.arr n) (.arr n')
 |iter {q s c:Nat} {u v:List Nat} (h:u=v) (hq:q<m):LeO m m' (.iter q s u c) (.iter q s v c)
 |gro {r:Nat} {cs ds:List V} (h:za m m' cs ds):LeO m m' (.gro r cs) (.gro r ds)
 |yJ {os ps:List (List V)} (hl:os.length=ps.length) (h:∀(i:Nat) (cs ds:List V),os[i]?=some cs->ps[i]?=some ds->za m m' cs ds):LeO m m' (.yJ os) (.yJ ps)
 |yh {ns ms:List Nat} (h:ns=ms):LeO m m' (.yh ns) (.yh ms)
 |zP {a:Bool} {I J:List T->T->Prop} (h:∀cs v,I cs v->J cs v):LeO m m' (.zP a I) (.zP a J)
 |abs {J J':(Value->T->Prop)->(Nat->Option Obj)->(Nat->Nat->Prop)->Prop} (e:J=J'):LeO m m' (.abs J) (.abs J')
 |zJ {a:Bool} {es:List (List T×V)} {st:Option (Nat×List Nat)} {I:List T->T->Prop} (h:∀e,e∈es->∃x,e.2= .t x/\I e.1 x):LeO m m' (.map a es st) (.zP a I)
def LeE (m m':Nat) (e:List (Nat×V)):List (Nat×V)->Prop
 |[]=>True
 |(t,x)::r=>LeX m m' (look e t) x/\LeE m m' e r
def LeS (m m':Nat) (s:List (Nat×z3)):List (Nat×z3)->Prop
 |[]=>True
 |(k,o)::r=>((k<m/\∃o',zi s k=some o'/\LeO m m' o' o)∨(m<=k/\k<m'/\o.fresh=true))/\LeS m m' s r
theorem LeE.at {m m':Nat} {e:List (Nat×V)}:∀{e':List (Nat×V)},LeE m m' e e'->∀t,LeX m m' (look e t) (look e' t)
 |[],_,t=> .top
 |(k,x)::r,h,t=>by
  obtain ⟨h1,h2⟩:=h;by_cases e':k=t
  ·subst e';simpa [look,zi] using h1
  ·have:=LeE.at h2 t;simpa [look,zi,e'] using this
theorem LeS.at {m m':Nat} {s:List (Nat×z3)}:∀{s':List (Nat×z3)},LeS m m' s s'->∀k o,zi s' k=some o->
  (k<m/\∃o',zi s k=some o'/\LeO m m' o' o)∨(m<=k/\k<m'/\o.fresh=true)
 |[],_,k,o,h=>by simp [zi] at h
 |(j,x)::r,h,k,o,hk=>by
  obtain ⟨h1,h2⟩:=h;by_cases e':j=k
  ·subst e';simp [zi] at hk;subst hk;exact h1
  ·simp only [zi,e',if_false] at hk;exact LeS.at h2 k o hk
theorem Z4.WJ {Λ:L} {s:S} (h:Z4 Λ s) {s':S} {m m':Nat} (hm0:m<=Λ.nxt) (hm':m<=m') (hs:LeS m m' s.sto s'.sto):Z4 (Λ.cut m m') s':=by
 have hnew:∀k,m<=k->k<m'->(Λ.cut m m').fro k=0:=fun k hk _=>by simp [L.cut];omega
 refine ⟨fun k o hk=>?_,fun b b' k h1 h2=>h.inj b b' k (Y3 h1).1 (Y3 h2).1,fun b hb=>z0R (h.new b hb),?_,fun k hk=>by have hk':m'<=k:=hk;simp [L.cut];omega,fun b b' k i h1 h2=>h.YO b b' k i (zQ h1).1 (zQ h2).1,?_,fun k i hk=>by have hk':m'<=k:=hk;simp [L.cut];omega⟩
 ·rcases hs.at k o hk with ⟨hkm,o',ho',hle⟩|⟨h1,h2,hfr⟩
  ·refine ⟨Nat.lt_of_lt_of_le hkm hm',?_⟩;have hr:=(h.sto k o' ho').2
   cases hle with
   |cells hle=>
    obtain ⟨b,arr,e,e1,e2,e3,e4⟩:=hr
    refine ⟨b,arr,e,ZY e1 hkm,e2,by rw [e3];exact hle.length,fun j v d a1 a2=>?_⟩
    have hlt:j<_:=(List.getElem?_eq_some_iff.1 a2).1;rw [←hle.length] at hlt;have hc:=List.getElem?_eq_getElem hlt;exact (hle.at j _ d hc a2).cut hm' hm0 (e4 j v _ a1 hc)
   |@map a es fs sx sy hke hve hse=>
    obtain ⟨b,ents,clock,e1,e2,e3⟩:=hr
    have hlen:es.length=fs.length:=by have:=congrArg List.length hke;simpa using this
    refine ⟨b,ents,clock,ZY e1 hkm,e2,⟨e3.size.trans hlen,fun i e kv a1 a2=>?_,e3.born,e3.apart,fun c bs h=>?_⟩⟩
    ·have hlt:i<es.length:=by rw [hlen];exact (List.getElem?_eq_some_iff.1 a2).1
     have hes:=List.getElem?_eq_getElem hlt;obtain ⟨g1,g2⟩:=e3.at_ i e _ a1 hes
     have hk1:(es[i]).1=kv.1:=by
      have:=congrArg (fun l=>l[i]?) hke;simp only [List.getElem?_map,hes,a2,Option.map] at this;exact Option.some.inj this
     refine ⟨by rw [←hk1];exact g1.yq fun _ _ h=>h.cut,?_⟩
     exact (hve.at i (es[i]).2 kv.2 (by simp [List.getElem?_map,hes]) (by simp [List.getElem?_map,a2])).cut hm' hm0 g2
    ·rcases hse with e|e
     ·rw [e] at h;cases h
     ·rw [e] at h;exact e3.known c bs h
   |arr e=>subst e;unfold W5 at*;simp [L.cut,hkm,hr]
   |iter e hq=>
    subst e;obtain ⟨b,bm,e1,e2,e3,e4⟩:=hr;exact ⟨b,bm,ZY e1 hkm,e2,ZY e3 hq,Nat.lt_of_lt_of_le hq hm'⟩
   |@gro r cs ds hle=>
    obtain ⟨h0,hr⟩:=hr
    refine ⟨by simp [L.cut,hkm,h0],?_⟩
    rcases hr with ⟨e1,e2⟩|⟨b,arr,e,⟨i,e1,e1'⟩,e2,e3,e4⟩
    ·subst e1;have:ds=[]:=List.length_eq_zero_iff.1 (by rw [←hle.length];rfl);exact .inl ⟨this,fun b i hb=>e2 b i (zQ hb).1⟩
    ·refine .inr ⟨b,arr,e,⟨i,Yc e1 hkm,fun b' i' h'=>e1' b' i' (zQ h').1⟩,e2,by rw [←hle.length];exact e3,fun j v d a1 a2=>?_⟩
     have hlt:j<_:=(List.getElem?_eq_some_iff.1 a2).1;rw [←hle.length] at hlt;have hc:=List.getElem?_eq_getElem hlt;exact (hle.at j _ d hc a2).cut hm' hm0 (e4 j v _ a1 hc)
   |@yJ os ps hl hle=>
    obtain ⟨h0,hr⟩:=hr
    refine ⟨fun b i hbi=>by rw [←hl];exact h0 b i (zQ hbi).1,fun i ds hi=>?_⟩
    have hlt:i<os.length:=by rw [hl];exact (List.getElem?_eq_some_iff.1 hi).1
    have hos:=List.getElem?_eq_getElem hlt;have hle:=hle i _ ds hos hi;obtain ⟨b,arr,e,e1,e2,e3,e4⟩:=hr i _ hos
    refine ⟨b,arr,e,Yc e1 hkm,e2,by rw [e3];exact hle.length,fun j v d a1 a2=>?_⟩
    have hlt:j<_:=(List.getElem?_eq_some_iff.1 a2).1;rw [←hle.length] at hlt;have hc:=List.getElem?_eq_getElem hlt;exact (hle.at j _ d hc a2).cut hm' hm0 (e4 j v _ a1 hc)
   |yh e=>subst e;intro i;have:=hr i;simpa [L.cut,hkm] using this
   |zP hI=>
    obtain ⟨b,ents,clock,e1,e2,e3,e4,e5⟩:=hr;refine ⟨b,ents,clock,ZY e1 hkm,e2,e3,e4,fun i e hi=>?_⟩;obtain ⟨cs,v,g1,g2,g3⟩:=e5 i e hi;exact ⟨cs,v,g1.yq fun _ _ h=>h.cut,g2.cut,hI cs v g3⟩
   |zJ hI=>
    obtain ⟨b,ents,clock,e1,e2,e3⟩:=hr;refine ⟨b,ents,clock,ZY e1 hkm,e2,e3.born,e3.apart,fun i e hi=>?_⟩;have hlt:i<_:=e3.size▸(Array.getElem?_eq_some_iff.1 hi).1;have hes:=List.getElem?_eq_getElem hlt;obtain ⟨g1,g2⟩:=e3.at_ i e _ hi hes;obtain ⟨x,hx,hJ⟩:=hI _ (zMG hes);have g3:zn Λ e.val (.t x):=hx▸g2
    exact ⟨_,x,g1.yq fun _ _ h=>h.cut,zO.cut (by generalize e.val=ev at g3;cases g3 with|t g=>exact g),hJ⟩
   |abs e=>
    subst e
    exact ⟨hr.1,by simp [L.cut,hkm,hr.2.1],hr.1 _ _ _ _ _ _ (fun _ _ h=>h.cut) (fun b i=>⟨fun h=>Yc h hkm,fun h=>(zQ h).1⟩) (fun _ _ _=>rfl) hr.2.2⟩
  ·have hnf:∀b i,(Λ.cut m m').lab b≠ .fob k i:=fun b i hb=>by have:=(zQ hb).2;omega
   refine ⟨h2,?_⟩
   cases o with
   |arr n=>
    have:n=0:=by simpa [z3.fresh] using hfr
    subst this;exact hnew k h1 h2
   |gro r cs=>
    have:r=0/\cs=[]:=by simpa [z3.fresh] using hfr
    exact ⟨by rw [this.1];simp [L.cut];omega,.inl ⟨this.2,hnf⟩⟩
   |yJ os=>
    have:os=[]:=by simpa [z3.fresh] using hfr
    subst this
    exact ⟨fun b i hb=>absurd hb (hnf b i),fun i cs hi=>by simp at hi⟩
   |yh ns=>
    have:ns=[]:=by simpa [z3.fresh] using hfr
    subst this;intro i;simp [L.cut];omega
   |cells _=>simp [z3.fresh] at hfr
   |map _ _ _=>simp [z3.fresh] at hfr
   |iter _ _ _ _=>simp [z3.fresh] at hfr
   |zP _ _=>simp [z3.fresh] at hfr
   |abs _=>simp [z3.fresh] at hfr
 ·intro b k hb
  rcases hb with hb|⟨n,hb⟩
  ·exact Nat.lt_of_lt_of_le (Y3 hb).2 hm'
  ·exact Nat.lt_of_lt_of_le (z0w hb).2 hm'
 ·intro b k hb
  rcases hb with ⟨i,hb⟩|⟨i,n,hb⟩
  ·exact Nat.lt_of_lt_of_le (zQ hb).2 hm'
  ·exact Nat.lt_of_lt_of_le (z0l hb).2 hm'
theorem Rel.WJ {C:Ctx} {Λ:L} {st:St} {a:Act} (h:Rel C Λ st a) {st':St} {m:Nat} (hm:C.Λ.nxt<=m) (hm0:m<=Λ.nxt) (hm':m<=st'.s.nxt)
  (he:LeE m st'.s.nxt st.env st'.env) (hs:LeS m st'.s.nxt st.s.sto st'.s.sto):Rel C (Λ.cut m st'.s.nxt) st' a:=
 ⟨h.kp.cut hm hm',h.size,h.defers,fun t=>(he.at t).cut hm' hm0 (h.env t),h.s.WJ hm0 hm' hs⟩
inductive Ar where
 |s (t:Nat)
 |c (v:V)
inductive KSh where
 |bool
 |int (k:IntKind)
 |str
 |ptr
inductive NOp where
 |lookup (ks:List KSh) (kag:Bool) (zv:V) (ok:Bool) (x k:Ar)
 |z9S (ks:List KSh) (kag:Bool) (x k v:Ar)
 |zbA (ks:List KSh) (kag:Bool) (x k:Ar)
 |zbG (ks:List KSh) (kag:Bool) (zv:V) (x k:Ar)
 |zc5 (x s v:Ar)
 |zbS (sz:Nat) (z:List V) (x:Ar)
 |zbt (x:Ar)
 |nxt (x:Ar)
 |z6j (x:Ar)
 |xtr (cnt:Bool) (x y:Ar)
 |xcm (x y:Ar)
 |bad
 |eqn (neg:Bool) (x:Ar)
 |z7P (neg:Bool) (ks:List KSh) (x y:Ar)
 |z9Z (x:Ar)
 |z2j (ks:List KSh) (zv:V) (x k:Ar)
 |z83 (ks:List KSh) (x k v:Ar)
inductive AOp where
 |nw (op:NOp)
 |cst (v:V)
 |mv (x:Ar)
 |pick (c a b:Ar)
 |un (op:UnOp) (x:Ar)
 |bin (op:BinOp) (x y:Ar)
 |eqb (neg:Bool) (x y:Ar)
 |eqp (neg:Bool) (x:Ar)
 |eqm (neg:Bool) (x:Ar)
 |conv (k:IntKind) (x:Ar)
 |z6U (x:Ar)
 |z2N (x:Ar)
 |fa (off:Nat) (x:Ar)
 |ld (ag:Bool) (n:Nat) (x:Ar)
 |ia (sz:Nat) (x i:Ar)
 |z9B (len sz:Nat) (x i:Ar)
 |ixs (x i:Ar)
 |ixa (ag:Bool) (len sz:Nat) (x i:Ar)
 |len (x:Ar)
 |lens (x:Ar)
 |sls (x:Ar) (lo hi:Option Ar)
 |sll (sz:Nat) (x:Ar) (lo hi:Option Ar)
 |fld (ag:Bool) (off n:Nat) (x:Ar)
 |zbP (x y:Ar)
 |zbI (x y:Ar)
 |build (zs:List V) (ps:List (Nat×Nat×Ar))
 |zb4 (f:FuncId) (caps:List Ar)
 |z5z (x:Ar)
 |st (n:Nat) (x v:Ar)
 |box (n:Nat) (x:Ar)
 |alloc (zs:List V)
 |bsl (ow:Bool) (sz:Nat) (zs:List (List T)) (ps:List (Nat×Ar))
 |app (sz bytes:Nat) (x y:Ar)
 |ext (x:Ar) (i:Nat)
 |z0u (kag vag:Bool)
 |z09 (x:Ar)
 |z5D (sz bytes:Nat) (z:List V) (n:Ar)
 |call (f:FuncId) (args:List Ar)
 |Qo (x:Ar) (args:List Ar)
structure AO where
 dst:Option Nat
 g:Option (Nat×Bool)
 op:AOp
def Ar.v (st:St):Ar->V
 | .s t=>look st.env t
 | .c v=>v
def V.ug:V->V
 | .gd c v=>if c then v else .top
 |v=>v
def Ar.u (st:St) (x:Ar):V:=(x.v st).ug
def V.un (gc:Bool):V->V×List Bool
 | .gd c v=>(v,[!gc||c])
 |v=>(v,[])
def rd (gc:Bool) (st:St) (x:Ar):V×List Bool:=(x.v st).un gc
def V.zy:V->Option T
 | .t x=>some x
 | .own _ _ xs=>some (.lst xs)
 | .zV=>some (.lst [])
 | .fow _ _ _ xs=>some (.lst xs)
 |_=>none
def V.Z8:V->Option (List T)
 | .agg cs=>cs.mapM V.zy
 |v=>(v.zy).map fun x=>[x]
def zdL (k:IntKind) (a b:Int):Int:=k.wrap ((BitVec.ofInt k.bits a&&& BitVec.ofInt k.bits b).toNat:Int)
def orI (k:IntKind) (a b:Int):Int:=k.wrap ((BitVec.ofInt k.bits a|||BitVec.ofInt k.bits b).toNat:Int)
def z14 (op:BinOp):T->T->Option (T×List Bool)
 | .int k a,.int k' b=>
  if k=k' then
   match op with
   | .add=>some (.int k (k.wrap (a+b)),[])
   | .sub=>some (.int k (k.wrap (a - b)),[])
   | .mul=>some (.int k (k.wrap (a*b)),[])
   | .quo=>some (.int k (k.wrap (a.tdiv b)),[decide (b≠0)])
   | .rem=>some (.int k (a.tmod b),[decide (b≠0)])
   | .and=>some (.int k (zdL k a b),[])
   | .or=>some (.int k (orI k a b),[])
   | .eql=>some (.bool (a==b),[])
   | .neq=>some (.bool (a !=b),[])
   | .lss=>some (.bool (decide (a<b)),[])
   | .leq=>some (.bool (decide (a<=b)),[])
   | .gtr=>some (.bool (decide (a>b)),[])
   | .geq=>some (.bool (decide (a≥b)),[])
   |_=>none
  else none
 | .str a,.str b=>
  match op with
  | .add=>some (.str (a++b),[decide (a.length+b.length<=9223372036854775807)])
  | .eql=>some (.bool (a==b),[])
  | .neq=>some (.bool (!(a==b)),[])
  | .lss=>some (.bool (Op.bytesLess a b),[])
  | .leq=>some (.bool (Op.bytesLess a b||a==b),[])
  | .gtr=>some (.bool (!(Op.bytesLess a b||a==b)),[])
  | .geq=>some (.bool (!(Op.bytesLess a b)),[])
  |_=>none
 |_,_=>none
def setAt (cs:List V) (off:Nat) (vs:List V):List V:=
 match vs with
 |[]=>cs
 |v::r=>setAt (cs.set off v) (off+1) r
def V.parts:V->Option (List V)
 | .agg cs=>some cs
 | .top=>none
 | .tup _=>none
 | .gd _ _=>none
 | .ub _ _=>none
 |v=>some [v]
def Qw (st:St) (gc:Bool):List V->List (Nat×Nat×Ar)->Option (List V×List Bool)
 |cs,[]=>some (cs,[])
 |cs,(off,n,x)::r=>
  match rd gc st x with
  |(v,p)=>
   match v.parts with
   |none=>none
   |some ps=>
    if ps.length=n/\off+n<=cs.length then
     match Qw st gc (setAt cs off ps) r with
     |some (c,q)=>some (c,p++q)
     |none=>none
    else none
def Wl (st:St):List Ar->Option (List (Nat×Nat))
 |[]=>some []
 |x::r=>
  match x.v st,Wl st r with
  | .ptr k o,some cs=>some ((k,o)::cs)
  |_,_=>none
def ye (sz:Nat) (xs:List (List T)):Bool:=xs.all fun c=>c.length==sz
def bnd (x:Option Ar) (gc:Bool) (st:St) (d:Int):Option (Int×List Bool):=
 match x with
 |none=>some (d,[])
 |some x=>match rd gc st x with|(.t (.int _ n),p)=>some (n,p)|_=>none
def KSh.ok:KSh->T->Bool
 | .bool,.bool _=>true
 | .int k,.int k' _=>decide (k=k')
 | .str,.str _=>true
 | .ptr,.ad _ _=>true
 |_,_=>false
def zT:List KSh->List T->Bool
 |[],[]=>true
 |s::r,x::c=>s.ok x&&zT r c
 |_,_=>false
def T.eqb:T->T->Bool
 | .bool a,.bool b=>a==b
 | .int _ a,.int _ b=>a==b
 | .str a,.str b=>a==b
 | .ad a _,.ad b _=>decide (a=b)
 |_,_=>false
def ZL:List T->List T->Bool
 |[],[]=>true
 |x::r,y::c=>x.eqb y&&ZL r c
 |_,_=>false
def yj (ks:List KSh) (es:List (List T×V)):Bool:=es.all fun e=>zT ks e.1
def yf (k:List T):List (List T×V)->Option Nat
 |[]=>none
 |e::r=>if ZL k e.1 then some 0 else (yf k r).map (· +1)
def z19 (k:List T):List (List T×V)->Option V
 |[]=>none
 |e::r=>if ZL k e.1 then some e.2 else z19 k r
def z26 (k:List T) (v:V):List (List T×V)->List (List T×V)
 |[]=>[(k,v)]
 |e::r=>if ZL k e.1 then (k,v)::r else e::z26 k v r
def z0D (k:List T):List (List T×V)->List (List T×V)
 |[]=>[]
 |e::r=>if ZL k e.1 then r else e::z0D k r
def V.isAgg:V->Bool
 | .agg _=>true
 |_=>false
def wL (ks:List KSh) (kag:Bool) (v:V):Option (List T):=
 match v.Z8 with
 |some cs=>if zT ks cs&&v.isAgg==kag then some cs else none
 |none=>none
def okV (ok:Bool) (v:V) (b:Bool):V:=if ok then .tup [v,.t (.bool b)] else v
def z5k (i:Option Nat):Option (Nat×List Nat)->Option (Nat×List Nat)
 |some (c,bs)=>some (c,match i with|some i=>bs.eraseIdx i|none=>bs)
 |none=>none
def za7 (kag:Bool) (cs:List T):V:=if kag then .agg (cs.map V.t) else match cs with|[x]=> .t x|_=> .top
def z33 (z:Nat):List (List T×V)->List Nat->Option (List T×V)
 |e::r,b::bs=>if b=z then some e else z33 z r bs
 |_,_=>none
def u8s:List (List T)->Option (List Int)
 |[]=>some []
 |[.int .u8 n]::r=>(u8s r).map (n::·)
 |_=>none
def u8S (xs:List (List T)):Option V:=match u8s xs with|some (n::r)=>some (.t (.str ((n::r).map fun n=>UInt8.ofNat n.toNat)))|_=>none
def Zl (gc:Bool) (st:St):NOp->Option (V×List Bool)
 | .lookup ks kag zv ok x k=>
  match rd gc st x,rd gc st k with
  |(vx,p1),(vk,p2)=>
   match wL ks kag vk with
   |none=>none
   |some cs=>
    match vx with
    | .mp q=>
     match zi st.s.sto q with
     |some (.map kag' es _)=>
      match z19 cs es with
      |some v=>some (okV ok v true,p1++(p2++[kag'==kag,yj ks es]))
      |none=>some (okV ok zv false,p1++(p2++[kag'==kag,yj ks es]))
     |_=>none
    | .t .qG=>some (okV ok zv false,p1++p2)
    |_=>none
 | .eqn neg x=>
  match rd gc st x with
  |(.zV,p)=>some (.ub True True,p)
  |(.slc _ _ _ _,p)=>some (.t (.bool neg),p)
  |(.own _ _ xs,p)=>some (if neg then .ub True (∀c∈xs,c=[]) else .ub (∀c∈xs,c=[]) True,p)
  |(.t (.lst xs),p)=>some (if neg then .ub True (∀c∈xs,c=[]) else .ub (∀c∈xs,c=[]) True,p)
  |_=>none
 | .z7P neg ks x y=>
  match rd gc st x,rd gc st y with
  |(vx,p1),(vy,p2)=>
   match wL ks true vx,wL ks true vy with
   |some cs,some ds=>some (.t (.bool (if neg then !(ZL cs ds) else ZL cs ds)),p1++p2)
   |_,_=>none
 | .xtr cnt x y=>
  match rd gc st x,rd gc st y with
  |(.t (.str s),p1),(.t (.int .u8 c),p2)=>some (.t (.int .i64 (if cnt then (Go.Lib.countByte s c.toNat.toUInt8:Int) else Go.Lib.indexByte s c.toNat.toUInt8)),p1++p2)
  |_,_=>none
 | .xcm x y=>
  match rd gc st x,rd gc st y with
  |(.t (.str s),p1),(.t (.str r),p2)=>some (.t (.int .i64 (Go.Lib.compareBytes s r)),p1++p2)
  |_,_=>none
 | .z9Z x=>
  match rd gc st x with
  |(.t (.lst xs),p)=>(u8S xs).map fun v=>(v,p)
  |(.own _ _ xs,p)=>(u8S xs).map fun v=>(v,p)
  |_=>none
 | .z6j x=>
  match rd gc st x with
  |(.ptr k 0,p)=>
   match zi st.s.sto k with
   |some (.iter q _ seen c)=>
    match zi st.s.sto q,seen.getLast? with
    |some (.map kag es (some (c',bs))),some z=>
     match z33 z es bs with
     |some e=>some (.tup [za7 kag e.1,e.2],p++[decide (c'=c),decide (bs.Nodup)])
     |none=>none
    |_,_=>none
   |_=>none
  |_=>none
 |_=>none
def zg (gc:Bool) (st:St):AOp->Option (V×List Bool)
 | .nw op=>Zl gc st op
 | .cst v=>some (v,[])
 | .mv x=>some (rd gc st x)
 | .pick c a b=>
  match rd gc st c with
  |(.t (.bool cb),p1)=>
   match rd (gc&&cb) st a,rd (gc&&!cb) st b with
   |(.t (.bool xa),p2),(.t (.bool xb),p3)=>some (.t (.bool (bif cb then xa else xb)),p1++(p2++p3))
   |(.t (.bool xa),p2),(_,_)=>some (.t (.bool xa),p1++(p2++[cb]))
   |(_,_),(.t (.bool xb),p3)=>some (.t (.bool xb),p1++(p3++[!cb]))
   |_,_=>none
  |_=>none
 | .un .not x=>match rd gc st x with|(.t (.bool b),p)=>some (.t (.bool (!b)),p)|_=>none
 | .un .neg x=>match rd gc st x with|(.t (.int k n),p)=>some (.t (.int k (k.wrap (0 - n))),p)|_=>none
 | .un _ _=>none
 | .bin op x y=>
  match rd gc st x,rd gc st y with
  |(.t a,p1),(.t b,p2)=>(z14 op a b).map fun (r,p3)=>(.t r,p1++(p2++p3))
  |(.ui k,p1),(.t (.int k' _),p2)=>
   if k=k' then
    match op with
    | .add=>some (.ui k,p1++p2)
    | .gtr=>some (.ub True True,p1++p2)
    |_=>none
   else none
  |_,_=>none
 | .eqb neg x y=>
  match rd gc st x,rd gc st y with
  |(.t (.bool a),p1),(.t (.bool b),p2)=>some (.t (.bool (if neg then !(a==b) else a==b)),p1++p2)
  |_,_=>none
 | .eqp neg x=>
  match rd gc st x with
  |(.t .QP,p)=>some (.t (.bool (!neg)),p)
  |(.ptr _ _,p)=>some (.t (.bool neg),p)
  |(.t (.ptr _),p)=>some (.t (.bool neg),p)
  |(.fpt _ _ _,p)=>some (.t (.bool neg),p)
  |(.gpt k ver _,p)=>match zi st.s.sto k with|some (.gro w _)=>some (.t (.bool neg),p++[decide (ver=w)])|_=>none
  |_=>none
 | .eqm neg x=>
  match rd gc st x with
  |(.t .qG,p)=>some (.t (.bool (!neg)),p)
  |(.mp _,p)=>some (.t (.bool neg),p)
  |_=>none
 | .conv k x=>match rd gc st x with|(.t (.int _ n),p)=>some (.t (.int k (k.wrap n)),p)|_=>none
 | .z6U x=>match rd gc st x with|(.t (.str s),p)=>some (.t (.str s),p)|_=>none
 | .z2N x=>
  match rd gc st x with
  |(.ptr k o,p)=>some (.ptr k o,p)
  |(.t (.ptr cs),p)=>some (.t (.ptr cs),p)
  |(.t (.fn f),p)=>some (.t (.fn f),p)
  |(.fn f c,p)=>some (.fn f c,p)
  |(.fpt k i o,p)=>some (.fpt k i o,p)
  |(.gpt k ver o,p)=>match zi st.s.sto k with|some (.gro w _)=>some (.gpt k ver o,p++[decide (ver=w)])|_=>none
  |_=>none
 | .fa off x=>
  match rd gc st x with
  |(.ptr k o,p)=>some (.ptr k (o+off),p)
  |(.t (.ptr cs),p)=>some (.t (.ptr (cs.drop off)),p)
  |(.fpt k i o,p)=>some (.fpt k i (o+off),p)
  |(.gpt k ver o,p)=>match zi st.s.sto k with|some (.gro w _)=>some (.gpt k ver (o+off),p++[decide (0<w),decide (ver=w)])|_=>none
  |_=>none
 | .ld ag n x=>
  match rd gc st x with
  |(.t (.ptr cs),p)=>
   if ag then (if n<=cs.length then some (.agg ((cs.take n).map V.t),p) else none)
   else match cs[0]? with|some c=>some (.t c,p)|none=>none
  |(.ptr k o,p)=>
   match zi st.s.sto k with
   |some (.cells cs)=>
    if ag then (if o+n<=cs.length then some (.agg (((cs.drop o).take n)),p) else none)
    else match cs[o]? with|some c=>some (c,p)|none=>none
   |_=>none
  |(.gpt k ver o,p)=>
   match zi st.s.sto k with
   |some (.gro w cs)=>
    if ag then (if o+n<=cs.length then some (.agg (((cs.drop o).take n)),p++[decide (0<w),decide (ver=w)]) else none)
    else match cs[o]? with|some c=>some (c,p++[decide (0<w),decide (ver=w)])|none=>none
   |_=>none
  |(.fpt k i o,p)=>
   match zi st.s.sto k with
   |some (.yJ os)=>
    match os[i]? with
    |some cs=>
     if ag then (if o+n<=cs.length then some (.agg (((cs.drop o).take n)),p) else none)
     else match cs[o]? with|some c=>some (c,p)|none=>none
    |none=>none
   |_=>none
  |_=>none
 | .ia sz x i=>
  match rd gc st x,rd gc st i with
  |(v,p1),(.t (.int _ n),p2)=>
   match v with
   | .slc k off len s=>if s=sz then some (.ptr k (off+n.toNat*sz),p1++(p2++[decide (0<=n),decide (n<(len:Int))])) else none
   | .gsl k ver off len s=>
    match zi st.s.sto k with
    |some (.gro w _)=>if s=sz then some (.gpt k ver (off+n.toNat*sz),p1++(p2++[decide (0<=n),decide (n<(len:Int)),decide (0<w),decide (ver=w)])) else none
    |_=>none
   |v=>match v.zy with
    |some (.lst xs)=>match xs[n.toNat]? with
     |some c=>if c.length=sz/\sz≠0 then some (.t (.ptr c),p1++(p2++[decide (0<=n)])) else none
     |none=>none
    |_=>none
  |_,_=>none
 | .z9B len sz x i=>
  match rd gc st x,rd gc st i with
  |(.ptr k o,p1),(.t (.int _ n),p2)=>some (.ptr k (o+n.toNat*sz),p1++(p2++[decide (0<=n),decide (n<(len:Int))]))
  |(.t (.ptr cs),p1),(.t (.int _ n),p2)=>some (.t (.ptr (cs.drop (n.toNat*sz))),p1++(p2++[decide (0<=n),decide (n<(len:Int))]))
  |_,_=>none
 | .ixs x i=>
  match rd gc st x,rd gc st i with
  |(.t (.str s),p1),(.t (.int _ n),p2)=>match s[n.toNat]? with
   |some b=>some (.t (.int .u8 b.toNat),p1++(p2++[decide (0<=n)]))
   |none=>none
  |_,_=>none
 | .ixa ag len sz x i=>
  match rd gc st x,rd gc st i with
  |(.agg cs,p1),(.t (.int _ n),p2)=>
   if ag then (if n.toNat*sz+sz<=cs.length then some (.agg (((cs.drop (n.toNat*sz)).take sz)),p1++(p2++[decide (0<=n),decide (n<(len:Int))])) else none)
   else match cs[n.toNat*sz]? with|some c=>some (c,p1++(p2++[decide (0<=n),decide (n<(len:Int))]))|none=>none
  |_,_=>none
 | .len x=>
  match rd gc st x with
  |(.t (.lst xs),p)=>some (.t (.int .i64 xs.length),p)
  |(.own _ _ xs,p)=>some (.t (.int .i64 xs.length),p)
  |(.zV,p)=>some (.t (.int .i64 0),p)
  |(.slc _ _ n _,p)=>some (.t (.int .i64 n),p)
  |(.gsl k ver _ n _,p)=>match zi st.s.sto k with|some (.gro w _)=>some (.t (.int .i64 n),p++[decide (ver=w)])|_=>none
  |(.fow _ _ _ xs,p)=>some (.t (.int .i64 xs.length),p)
  |_=>none
 | .lens x=>match rd gc st x with|(.t (.str s),p)=>some (.t (.int .i64 s.length),p)|_=>none
 | .sls x lo hi=>
  match rd gc st x with
  |(.t (.str s),p)=>
   match bnd lo gc st 0,bnd hi gc st s.length with
   |some (l,p1),some (h,p2)=>some (.t (.str ((s.take h.toNat).drop l.toNat)),p++(p1++(p2++[decide (0<=l),decide (l<=h),decide (h<=(s.length:Int))])))
   |_,_=>none
  |_=>none
 | .sll sz x lo hi=>
  match rd gc st x with
  |(v,p)=>match v.zy with
   |some (.lst xs)=>
    match bnd lo gc st 0,bnd hi gc st xs.length with
    |some (l,p1),some (h,p2)=>some (.t (.lst ((xs.take h.toNat).drop l.toNat)),p++(p1++(p2++[decide (0<=l),decide (l<=h),decide (h<=(xs.length:Int)),ye sz xs])))
    |_,_=>none
   |_=>match v with
    | .slc k off len s=>
     match bnd lo gc st 0,bnd hi gc st len with
     |some (l,p1),some (h,p2)=>some (.slc k off h.toNat s,p++(p1++(p2++[decide (l=0),decide (0<=h),decide (h<=(len:Int)),s==sz])))
     |_,_=>none
    | .gsl k ver off len s=>
     match zi st.s.sto k,bnd lo gc st 0,bnd hi gc st len with
     |some (.gro w _),some (l,p1),some (h,p2)=>some (.gsl k ver (off+l.toNat*s) (h.toNat - l.toNat) s,p++(p1++(p2++[decide (0<=l),decide (l<=h),decide (h<=(len:Int)),s==sz,decide (ver=w)])))
     |_,_,_=>none
    |_=>none
 | .fld ag off n x=>
  match rd gc st x with
  |(.agg cs,p)=>
   if ag then (if off+n<=cs.length then some (.agg (((cs.drop off).take n)),p) else none)
   else match cs[off]? with|some c=>some (c,p)|none=>none
  |_=>none
 | .zbP x y=>
  match rd gc st x,rd gc st y with
  |(.t (.int k a),p1),(.t (.int k' b),p2)=>if k=k' then some (.t (.int k (if b>a then b else a)),p1++p2) else none
  |_,_=>none
 | .zbI x y=>
  match rd gc st x,rd gc st y with
  |(.t (.int k a),p1),(.t (.int k' b),p2)=>if k=k' then some (.t (.int k (if b<a then b else a)),p1++p2) else none
  |_,_=>none
 | .build zs ps=>
  match Qw st gc zs ps with
  |some (cs,p)=>some (.agg cs,p)
  |none=>none
 | .ext x i=>
  match rd gc st x with
  |(.tup vs,p)=>match vs[i]? with|some v=>some (v,p)|none=>none
  |_=>none
 | .zb4 f caps=>
  match Wl st caps with
  |some cs=>some (.fn f cs,[])
  |none=>none
 |_=>none
def ZB (st:St) (sz:Nat):List (List T)->List (Nat×Ar)->Option (List (List T))
 |xs,[]=>some xs
 |xs,(i,x)::r=>
  match (x.u st).Z8 with
  |some c=>if c.length=sz/\i<xs.length then ZB st sz (xs.set i c) r else none
  |none=>none
def V.ZJ:V->Bool
 | .t _=>true
 | .zV=>true
 | .own _ _ _=>true
 | .slc _ _ _ _=>true
 | .ptr _ _=>true
 | .mp _=>true
 | .fn _ _=>true
 | .fpt _ _ _=>true
 | .gpt _ _ _=>true
 | .gsl _ _ _ _ _=>true
 | .fow _ _ _ _=>true
 | .ui _=>true
 |_=>false
def Zg:List Bool->Prop
 |[]=>True
 |p::r=>p=true/\Zg r
def yY:V->Bool
 | .ptr _ _=>true
 | .mp _=>true
 | .fpt _ _ _=>true
 | .gpt _ _ _=>true
 | .gd _ (.ptr _ _)=>true
 | .gd _ (.mp _)=>true
 | .gd _ (.fpt _ _ _)=>true
 | .gd _ (.gpt _ _ _)=>true
 |_=>false
def Ys:V->Bool
 | .gpt _ _ _=>true
 | .gsl _ _ _ _ _=>true
 | .gd _ (.gpt _ _ _)=>true
 | .gd _ (.gsl _ _ _ _ _)=>true
 |_=>false
def Za (st:St):AOp->Bool
 | .fa _ x=>Ys (x.v st)
 | .z2N x=>Ys (x.v st)
 | .eqp _ x=>Ys (x.v st)
 | .ia _ x _=>Ys (x.v st)
 | .len x=>Ys (x.v st)
 | .sll _ x _ _=>Ys (x.v st)
 | .ld _ _ x=>yY (x.v st)
 | .nw (.lookup _ _ _ _ x _)=>yY (x.v st)
 | .nw (.z6j x)=>yY (x.v st)
 |_=>false
def zcN (P:Program) (f:FuncId):Prop:=∀args w,(callFunc f args).run P w= .ok (.enter f args) w
def YK (P:Program) (f:FuncId) (vs:List V) (base:Nat) (sto:List (Nat×z3)) (out:Out):Prop:=
 zcN P f/\(∀k o,(k,o)∈out.ob->zi sto k≠none∨(base<=k/\k<base+out.n))/\
 ∀(Λ:L) (args:Array Value),Z4 Λ ⟨sto,Λ.nxt⟩->base+out.n<=Λ.nxt->(∀k,base<=k->k<base+out.n->k<Λ.nxt/\y9 Λ k/\zi sto k=none)->args.size=vs.length->(∀(j:Nat) (v:Value) (x:V),args[j]?=some v->vs[j]?=some x->zn Λ v x)->
  Calls P f args Λ.w fun e w'=>∃v Λ',e= .returned v/\Λ'.w=w'/\Kp Λ Λ'/\Λ'.nxt=Λ.nxt/\Z4 Λ' ⟨Zj sto out.ob,Λ.nxt⟩/\zn Λ' v out.v/\
   ∀k,y9 Λ k->zi sto k=none->(base+out.n<=k∨(k<base/\out.rd=false))->y9 Λ' k
def yk (st:St):List Ar->List V
 |[]=>[]
 |x::r=>x.u st::yk st r
def Wy:List (Nat×Nat)->List V
 |[]=>[]
 |(k,o)::r=> .ptr k o::Wy r
def FnL (P:Program) (f:FuncId) (vs:List V) (base:Nat) (sto:List (Nat×z3)) (out:Out):Prop:=
 ∀s,(∀k,k<base->zi s k=zi sto k)->YK P f vs base s out
def z01 (P:Program) (f:FuncId) (vs:List V) (base:Nat) (sto:List (Nat×z3)) (K:Out->Prop):Prop:=
 ∃out,(if out.rd then FnL P f vs base sto out else ∀s,YK P f vs base s out)/\K out
def Wr (P:Program) (f:FuncId) (vs:List V) (base:Nat) (sto:List (Nat×z3)) (K:Out->Prop):Prop:=
 ∃out,(if out.rd then YK P f vs base sto out else ∀s,YK P f vs base s out)/\K out
def zdC (P:Program) (gc:Bool) (f:FuncId) (vs:List V) (base:Nat) (sto:List (Nat×z3)) (K:Out->Prop):Prop:=
 ∃out:Out,(gc=true->(if out.rd then YK P f vs base sto out else ∀s,YK P f vs base s out))/\(out.ob=[]/\out.n=0)/\K {out with v:= .gd gc out.v}
def WK (P:Program) (gc:Bool) (base:Nat) (st:St) (K:Out->Prop):AOp->Prop
 | .call f args=>zdC P gc f (yk st args) base st.s.sto K
 |_=>False
def z5B (ks:List KSh) (cs:List T):List (List T×V)->Option (Option V)
 |[]=>some none
 |e::_=>if zT ks e.1&&ZL cs e.1 then some (some e.2) else none
def z6y (ks:List KSh) (cs:List T) (v:V):List (List T×V)->Option (List (List T×V))
 |[]=>some [(cs,v)]
 |e::r=>if zT ks e.1&&ZL cs e.1 then some ((cs,v)::r) else none
def ZE (st:St) (K:Out->Prop):NOp->Prop
 | .z9S ks kag x k v=>
  match x.u st,wL ks kag (k.u st) with
  | .mp q,some cs=>
   match zi st.s.sto q with
   |some (.map kag' es _)=>(kag'=kag/\yj ks es=true)/\K {v:= .top,ob:=[(q,.map kag (z26 cs (v.u st) es) none)],rd:=true}
   |_=>False
  |_,_=>False
 | .zbA ks kag x k=>
  match x.u st,wL ks kag (k.u st) with
  | .mp q,some cs=>
   match zi st.s.sto q with
   |some (.map kag' es sx)=>(kag'=kag/\yj ks es=true)/\K {v:= .top,ob:=[(q,.map kag (z0D cs es) (z5k (yf cs es) sx))],rd:=true}
   |_=>False
  |_,_=>False
 | .zbt x=>
  match x.u st with
  | .mp q=>
   match zi st.s.sto q with
   |some (.map kag _ _)=>K {v:= .top,ob:=[(q,.map kag [] none)],rd:=true}
   |_=>False
  |_=>False
 | .zbG ks kag zv x k=>
  match x.u st,wL ks kag (k.u st) with
  | .mp q,some cs=>
   match zi st.s.sto q with
   |some (.map kag' es (some (c,bs)))=>
    match yf cs es with
    |some i=>
     match es[i]?,bs[i]? with
     |some e,some b=>(kag'=kag/\yj ks es=true)/\K {v:= .tup [e.2,.t (.int .i64 b)],ob:=[(q,.map kag es (some (c,bs)))],rd:=true}
     |_,_=>False
    |none=>(kag'=kag/\yj ks es=true)/\K {v:= .tup [zv,.t (.int .i64 c)],ob:=[(q,.map kag (es++[(cs,zv)]) (some (c+1,bs++[c])))],rd:=true}
   |_=>False
  |_,_=>False
 | .zc5 x s v=>
  match x.u st,s.u st with
  | .mp q,.t (.int _ z)=>
   match zi st.s.sto q with
   |some (.map kag es (some (c,bs)))=>
    match bs.findIdx? (fun b:Nat=>decide (((b:Nat):Int)=z)) with
    |some i=>K {v:= .top,ob:=[(q,.map kag (es.modify i fun e=>(e.1,v.u st)) (some (c,bs)))],rd:=true}
    |none=>False
   |_=>False
  |_,_=>False
 | .z2j ks zv x k=>
  match x.u st,wL ks true (k.u st) with
  | .mp q,some cs=>
   match zi st.s.sto q with
   |some (.map true es _)=>
    match z5B ks cs es with
    |some (some v)=>K {v:= .tup [v,.t (.bool true)],rd:=true}
    |some none=>K {v:= .tup [zv,.t (.bool false)],rd:=true}
    |none=>False
   |_=>False
  |_,_=>False
 | .z83 ks x k v=>
  match x.u st,wL ks true (k.u st) with
  | .mp q,some cs=>
   match zi st.s.sto q with
   |some (.map true es _)=>
    match z6y ks cs (v.u st) es with
    |some fs=>K {v:= .top,ob:=[(q,.map true fs none)],rd:=true}
    |none=>False
   |_=>False
  |_,_=>False
 |_=>False
def z3k (st:St) (sz:Nat) (y:V):Option (List V×Nat):=
 match y.zy with
 |some (.lst ys)=>if ye sz ys then some (ys.flatten.map V.t,ys.length) else none
 |_=>
  match y with
  | .slc k off len s=>
   match zi st.s.sto k with
   |some (.cells cs)=>if s=sz/\off+len*sz<=cs.length then some ((cs.drop off).take (len*sz),len) else none
   |_=>none
  | .gsl k r off len s=>
   match zi st.s.sto k with
   |some (.gro r' cs)=>if s=sz/\r=r'/\off+len*sz<=cs.length then some ((cs.drop off).take (len*sz),len) else none
   |_=>none
  |_=>none
def evX (P:Program) (base:Nat) (st:St) (K:Out->Prop):AOp->Prop
 | .st n x v=>
  match x.u st with
  | .ptr k o=>
   match zi st.s.sto k with
   |some (.cells cs)=>
    match (v.u st).parts with
    |some vs=>(decide (vs.length=n/\o+n<=cs.length)=true/\vs.all V.ZJ=true)/\K {v:= .top,ob:=[(k,.cells (setAt cs o vs))],rd:=true}
    |none=>False
   |_=>False
  |_=>False
 | .box n x=>
  match (x.u st).parts with
  |some vs=>(decide (vs.length=n)=true/\vs.all V.ZJ=true)/\K {v:= .ptr base 0,ob:=[(base,.cells vs)],n:=1}
  |none=>False
 | .alloc zs=>K {v:= .ptr base 0,ob:=[(base,.cells zs)],n:=1}
 | .bsl ow sz zs ps=>
  match ZB st sz zs ps with
  |some xs=>ye sz xs=true/\(if ow then (if xs.isEmpty then K {v:= .zV} else K {v:= .own base sz xs,ob:=[(base,.arr xs.length)],n:=1})∨K {v:= .t (.lst xs)} else K {v:= .t (.lst xs)})
  |none=>False
 | .app sz bytes x y=>
  match (y.u st).zy with
  |some (.lst ys)=>
   match x.u st with
   | .zV=>ye sz ys=true/\ys.length*bytes<=140737488355328/\ys.length<=9223372036854775807/\K {v:= .own base sz ys,ob:=[(base,.arr ys.length)],n:=1}
   | .own k s xs=>
    match zi st.s.sto k with
    |some (.arr n)=>s=sz/\n=xs.length/\ye sz ys=true/\(xs.length+ys.length)*bytes<=140737488355328/\xs.length+ys.length<=9223372036854775807/\
      K {v:= .own k sz (xs++ys),ob:=[(k,.arr (xs.length+ys.length))],rd:=true}
    |_=>False
   |_=>False
  |_=>False
 | .z5D sz bytes z n=>
  match n.u st with
  | .t (.int _ m)=>(0<=m/\m*bytes<=281474976710656/\m<=9223372036854775807/\z.length=sz)/\
    K {v:= .slc base 0 m.toNat sz,ob:=[(base,.cells (List.replicate m.toNat z).flatten)],n:=1}
  |_=>False
 | .call f args=>z01 P f (yk st args) base st.s.sto K
 | .Qo x args=>
  match x.u st with
  | .t (.fn f)=>Wr P f (yk st args) base st.s.sto K
  | .fn f caps=>Wr P f (yk st args++Wy caps) base st.s.sto K
  |_=>False
 | .z0u kag _=>K {v:= .mp base,ob:=[(base,.map kag [] (some (0,[])))],n:=1}
 | .z09 x=>
  match x.u st with
  | .mp q=>
   match zi st.s.sto q with
   |some (.map _ _ (some (c,_)))=>K {v:= .ptr base 0,ob:=[(base,.iter q c [] c)],n:=1,rd:=true}
   |_=>False
  |_=>False
 | .z5z x=>
  match x.u st with
  | .t .qG=>K {v:= .t (.int .i64 0),rd:=true}
  | .mp q=>
   match zi st.s.sto q with
   |some (.map _ es _)=>K {v:= .t (.int .i64 es.length),rd:=true}
   |_=>False
  |_=>False
 | .nw op=>ZE st K op
 |_=>False
def Ya (st:St) (sz:Nat):List V->List (Nat×Ar)->Option (List V)
 |cs,[]=>some cs
 |cs,(i,x)::r=>
  match (x.u st).parts with
  |some ps=>if ps.length=sz/\i*sz+sz<=cs.length/\ps.all V.ZJ=true then Ya st sz (setAt cs (i*sz) ps) r else none
  |none=>none
inductive z0G (st:St) (base:Nat):AOp->Out->Prop
 |stG {n:Nat} {x v:Ar} {k ver o w:Nat} {cs vs:List V} (hx:x.u st= .gpt k ver o) (hk:zi st.s.sto k=some (.gro w cs)) (hw:ver=w) (hv:(v.u st).parts=some vs) (hn:vs.length=n) (ho:o+n<=cs.length) (hc:vs.all V.ZJ=true):
   z0G st base (.st n x v) {v:= .top,ob:=[(k,.gro w (setAt cs o vs))],rd:=true}
 |z8S {sz bytes:Nat} {x y:Ar} {vs:List V} {m:Nat} (hx:x.u st= .zV) (hy:z3k st sz (y.u st)=some (vs,m)) (hc:vs.all V.ZJ=true) (h1:m*bytes<=140737488355328) (h2:m<=9223372036854775807):
   z0G st base (.app sz bytes x y) {v:= .gsl base 1 0 m sz,ob:=[(base,.gro 1 vs)],n:=1,rd:=true}
 |zai {sz bytes:Nat} {x y:Ar} {k ver len w:Nat} {cs vs:List V} {m:Nat} (hx:x.u st= .gsl k ver 0 len sz) (hk:zi st.s.sto k=some (.gro w cs)) (hw:ver=w) (hl:cs.length=len*sz) (hy:z3k st sz (y.u st)=some (vs,m)) (hc:vs.all V.ZJ=true)
   (h1:(len+m)*bytes<=140737488355328) (h2:len+m<=9223372036854775807):
   z0G st base (.app sz bytes x y) {v:= .gsl k (w+1) 0 (len+m) sz,ob:=[(k,.gro (w+1) (cs++vs))],rd:=true}
 |z8H {ow:Bool} {sz:Nat} {zs:List (List T)} {ps:List (Nat×Ar)} {cs:List V} (h:Ya st sz (zs.flatten.map V.t) ps=some cs):
   z0G st base (.bsl ow sz zs ps) {v:= .slc base 0 zs.length sz,ob:=[(base,.cells cs)],n:=1}
 |zb9 {sz:Nat} {z:List V} {x:Ar} {k ver off len w:Nat} {cs:List V} (hx:x.u st= .gsl k ver off len sz) (hk:zi st.s.sto k=some (.gro w cs)) (hw:ver=w) (ho:off+len*sz<=cs.length):
   z0G st base (.nw (.zbS sz z x)) {v:= .top,ob:=[(k,.gro w (setAt cs off (List.replicate len z).flatten))],rd:=true}
def evY (base:Nat) (st:St) (K:Out->Prop) (op:AOp):Prop:=∃out,z0G st base op out/\K out
def z9V (P:Program) (gc:Bool) (base:Nat) (st:St) (K:Out->Prop) (op:AOp):Prop:=
 WK P gc base st K op∨((gc=true->evX P base st K op∨evY base st K op)/\(gc=false->K {v:= .gd false .top,rd:=Za st op}))
def evU (P:Program) (base:Nat) (st:St) (op:AOp) (K:Out->Prop):Prop:=
 match zg true st op with
 |some (v,ps)=>Zg ps/\K {v:=v,rd:=Za st op}
 |none=>evX P base st K op∨evY base st K op
def z2K (want:Bool):V->Option Bool
 | .t (.bool b)=>some (cond want b (!b))
 | .gd c (.t (.bool b))=>some (c&&cond want b (!b))
 | .gd false .top=>some false
 |_=>none
def evO (P:Program) (base:Nat) (st:St) (ao:AO) (K:Out->Prop):Prop:=
 match ao.g with
 |none=>evU P base st ao.op K
 |some (s,want)=>
  match z2K want (look st.env s) with
  |none=>False
  |some gc=>
   match zg gc st ao.op with
   |some (v,ps)=>Zg (ps.map fun p=>!gc||p)/\K {v:= .gd gc v,rd:=Za st ao.op}
   |none=>z9V P gc base st K ao.op
def evR (P:Program) (base:Nat) (st:St):List AO->List (Bool×Bool)->(Nat->St->List (Bool×Bool)->Prop)->Prop
 |[],fl,K=>K base st fl
 |ao::r,fl,K=>evO P base st ao fun out=>evR P (base+out.n) (st.app ao.dst out) r (fl++[(out.rd,!out.ob.isEmpty||decide (0<out.n))]) K
def Zs (P:Program) (t:TypeId):Option Nat:=(P.info? t).map (·.size)
def zI (P:Program) (t:TypeId):Bool:=
 match P.underlying t with
 |some (.struct _)|some (.array _ _)=>true
 |_=>false
def Q1:Value->Option V
 | .bool b=>some (.t (.bool b))
 | .int k n=>some (.t (.int k n))
 | .string s=>some (.t (.str s.data.toList))
 | .pointer none=>some (.t .QP)
 | .map none=>some (.t .qG)
 | .nilFunc=>some (.t .z28)
 | .slice none 0 0=>some .zV
 |_=>none
def opA:Operand->Option Ar
 | .tmp t=>some (.s t)
 | .const v=>(Q1 v).map .c
 | .func f=>some (.c (.t (.fn f)))
 | .global _=>none
def qZ:Option Operand->Option (Option Ar)
 |some y=>(opA y).map some
 |none=>some none
def zeroV (P:Program):Nat->TypeId->Option (List V)
 |0,_=>none
 |n+1,t=>
  match P.underlying t with
  |some .bool=>some [.t (.bool false)]
  |some (.int k)=>some [.t (.int k 0)]
  |some .string=>some [.t (.str [])]
  |some (.pointer _)=>some [.t .QP]
  |some (.map _ _)=>some [.t .qG]
  |some (.func _ _ _)=>some [.t .z28]
  |some (.slice _)=>some [.zV]
  |some (.struct fs)=>fs.toList.foldr (fun f acc=>match zeroV P n f.type,acc with|some a,some b=>some (a++b)|_,_=>none) (some [])
  |some (.array k e)=>(zeroV P n e).map fun z=>(List.replicate k z).flatten
  |_=>none
def z5H:Value->V->Bool
 | .bool b,.t (.bool c)=>b==c
 | .int k n,.t (.int j m)=>k==j&&n==m
 | .string s,.t (.str l)=>s.data.toList==l
 | .pointer none,.t .QP=>true
 | .map none,.t .qG=>true
 | .nilFunc,.t .z28=>true
 | .slice none 0 0,.zV=>true
 |_,_=>false
def wz:List Value->List V->Bool
 |[],[]=>true
 |v::vs,x::xs=>z5H v x&&wz vs xs
 |_,_=>false
def ZK (P:Program) (t:TypeId):Option (List V):=
 match P.info? t,zeroV P 20 t with
 |some i,some zs=>
  match i.zero with
  |some z=>if wz z.cells.toList zs&&zs.length==i.size then some zs else none
  |none=>none
 |_,_=>none
def zdz (ops:Array Oper) (t:Nat):Bool:=
 ops.any fun o=>
  match o.op with
  | .call {callee:= .builtin .append,args,..}=>match (args[1]?:Option Operand) with|some (.tmp u)=>u==t|_=>false
  |_=>false
def partsOf (place:Nat->Option (Nat×Nat)):List (Nat×Operand)->Option (List (Nat×Nat×Ar))
 |[]=>some []
 |(i,x)::r=>
  match place i,opA x,partsOf place r with
  |some (off,n),some a,some l=>some ((off,n,a)::l)
  |_,_,_=>none
def placesOf (P:Program) (fs:Array Field):Option (List (Nat×Nat)):=fs.toList.mapM (fun f=>(P.info? f.type).map fun i=>(f.offset,i.size))
def slotsOf:List (Nat×Operand)->Option (List (Nat×Ar))
 |[]=>some []
 |(i,x)::r=>
  match opA x,slotsOf r with
  |some a,some l=>some ((i,a)::l)
  |_,_=>none
def z0p (P:Program) (f:FuncId):Option (Option Bool):=
 match P.funcs[f]? with
 |some fn=>
  if fn.body.isNone/\fn.origin= "" then
   if fn.name= "internal/bytealg.CountString" then some (some true)
   else if fn.name= "internal/bytealg.IndexByteString" then some (some false)
   else if fn.name= "internal/bytealg.abigen_runtime_cmpstring" then some none else none
  else none
 |none=>none
def ZV (P:Program) (ops:Array Oper) (o:Oper):Option AOp:=
 match o.op with
 | .move (.tmp t)| .assign (.tmp t)=>some (.mv (.s t))
 | .move (.const v)| .assign (.const v)=>(Q1 v).map .cst
 | .move (.func f)| .assign (.func f)=>some (.cst (.t (.fn f)))
 | .pick c a b=>do some (.pick (←opA c) (←opA a) (←opA b))
 | .unOp op _ x=>do some (.un op (←opA x))
 | .binOp op xt x y _=>
  match P.underlying xt with
  |some (.int _)|some .string=>do some (.bin op (←opA x) (←opA y))
  |some .bool=>
   match op with
   | .eql=>do some (.eqb false (←opA x) (←opA y))
   | .neq=>do some (.eqb true (←opA x) (←opA y))
   |_=>none
  |some (.pointer _)=>
   match op,y with
   | .eql,.const (.pointer none)=>do some (.eqp false (←opA x))
   | .neq,.const (.pointer none)=>do some (.eqp true (←opA x))
   |_,_=>none
  |some (.map _ _)=>
   match op,y with
   | .eql,.const (.map none)=>do some (.eqm false (←opA x))
   | .neq,.const (.map none)=>do some (.eqm true (←opA x))
   |_,_=>none
  |_=>none
 | .convert src dst x=>
  match P.underlying src,P.underlying dst with
  |some (.int _),some (.int k)=>do some (.conv k (←opA x))
  |some .string,some .string=>do some (.z6U (←opA x))
  |_,_=>none
 | .nilCheck x=>do some (.z2N (←opA x))
 | .fieldAddr s x f=>
  match P.underlying s with
  |some (.struct fs)=>do
   let fd ←fs[f]?
   let n ←Zs P fd.type
   if n=0 then none else some (.fa fd.offset (←opA x))
  |_=>none
 | .load t x=>do
  let n ←Zs P t
  match P.underlying t with
  |none=>none
  |some _=>
   if zI P t then some (.ld true n (←opA x))
   else some (.ld false 1 (←opA x))
 | .store t x v=>do
  let n ←Zs P t
  some (.st n (←opA x) (←opA v))
 | .indexAddr t x ix=>
  match P.underlying t with
  |some (.slice e)=>do some (.ia (←Zs P e) (←opA x) (←opA ix))
  |some (.array n e)=>do some (.z9B n (←Zs P e) (←opA x) (←opA ix))
  |_=>none
 | .index t x ix=>
  match P.underlying t with
  |some .string=>do some (.ixs (←opA x) (←opA ix))
  |some (.array n e)=>
   match P.underlying e with
   |none=>none
   |some _=>do some (.ixa (zI P e) n (←Zs P e) (←opA x) (←opA ix))
  |_=>none
 | .slice t x lo hi none=>
  match P.underlying t with
  |some .string=>do
   let l ←qZ lo
   let h ←qZ hi
   some (.sls (←opA x) l h)
  |some (.slice e)=>do
   let l ←qZ lo
   let h ←qZ hi
   some (.sll (←Zs P e) (←opA x) l h)
  |_=>none
 | .field t x f=>
  match P.underlying t with
  |some (.struct fs)=>do
   let fd ←fs[f]?
   let n ←Zs P fd.type
   match P.underlying fd.type with
   |none=>none
   |some _=>some (.fld (zI P fd.type) fd.offset n (←opA x))
  |_=>none
 | .build t parts=>
  match P.underlying t with
  |some (.struct fs)=>do
   let pl ←placesOf P fs
   some (.build (←ZK P t) (←partsOf (pl.toArray[·]?) parts.toList))
  |some (.array _ e)=>do
   let sz ←Zs P e
   some (.build (←ZK P t) (←partsOf (fun i=>some (i*sz,sz)) parts.toList))
  |_=>none
 | .makeFunc (.func f) first caps=>do
  if first.isEmpty then some (.zb4 f (←caps.toList.mapM opA)) else none
 | .alloc t=>do some (.alloc (←ZK P t))
 | .box t x=>do some (.box (←Zs P t) (←opA x))
 | .buildSlice t n parts=>
  match P.underlying t with
  |some (.slice e)=>do
   let sz ←Zs P e
   let zs ←ZK P e
   let z ←zs.mapM V.zy
   if n*sz<=16777216 then some (.bsl (!(o.dst.any (zdz ops))) sz (List.replicate n z) (←slotsOf parts.toList)) else none
  |_=>none
 | .extract x ix=>do some (.ext (←opA x) ix)
 | .makeMap t none=>
  match P.underlying t with
  |some (.map k e)=>some (.z0u (zI P k) (zI P e))
  |_=>none
 | .makeSlice t (.tmp l) (.tmp c)=>
  match P.underlying t with
  |some (.slice e)=>do
   let inf ←P.info? e
   if l=c then some (.z5D inf.size inf.bytes (←ZK P e) (.s l)) else none
  |_=>none
 | .call {callee:= .builtin .len,args,argTypes}=>
  match argTypes[0]?,args[0]? with
  |some t,some x=>
   match P.underlying t with
   |some .string=>do some (.lens (←opA x))
   |some (.slice _)=>do some (.len (←opA x))
   |some (.map _ _)=>do some (.z5z (←opA x))
   |_=>none
  |_,_=>none
 | .call {callee:= .builtin .max,args,..}=>
  match args.toList with
  |[x,y]=>do some (.zbP (←opA x) (←opA y))
  |_=>none
 | .call {callee:= .builtin .min,args,..}=>
  match args.toList with
  |[x,y]=>do some (.zbI (←opA x) (←opA y))
  |_=>none
 | .call {callee:= .builtin .append,args,argTypes}=>
  match args.toList,argTypes.toList with
  |[x,y],[t,u]=>
   if t=u then
    match P.underlying t with
    |some (.slice e)=>do
     let inf ←P.info? e
     let z ←inf.zero
     if inf.size=0∨z.cells.size≠inf.size then none else some (.app inf.size inf.bytes (←opA x) (←opA y))
    |_=>none
   else none
  |_,_=>none
 | .call {callee:= .value (.func f),args,..}=>
  match z0p P f with
  |some _=>none
  |none=>do some (.call f (←args.toList.mapM opA))
 | .call {callee:= .value (.tmp t),args,..}=>do some (.Qo (.s t) (←args.toList.mapM opA))
 | .range t x=>
  match P.underlying t with
  |some (.map _ _)=>do some (.z09 (←opA x))
  |_=>none
 |_=>none
def Yl (P:Program):Nat->List Field->Option (List KSh)
 |_,[]=>some []
 |i,f::r=>
  if f.offset=i/\f.name≠ "_" then
   match P.underlying f.type,Yl P (i+1) r with
   |some .bool,some l=>some (.bool::l)
   |some (.int k),some l=>some (.int k::l)
   |some .string,some l=>some (.str::l)
   |_,_=>none
  else none
def Yi (P:Program) (t:TypeId):Option (List KSh×Bool):=
 match P.underlying t with
 |some .bool=>some ([.bool],false)
 |some (.int k)=>some ([.int k],false)
 |some .string=>some ([.str],false)
 |some (.struct fs)=>if P.stoodInHeld t=false/\P.eqGuardType P.depth t=false then (Yl P 0 fs.toList).map (·,true) else none
 |_=>none
def wv (P:Program) (t:TypeId):Option V:=
 match ZK P t,(P.info? t).bind (·.zero) with
 |some zs,some (.agg _)=>some (.agg zs)
 |some [z],some (.bool _)=>some z
 |some [z],some (.int _ _)=>some z
 |some [z],some (.string _)=>some z
 |some [z],some (.pointer _)=>some z
 |some [z],some (.slice _ _ _)=>some z
 |some [z],some (.map _)=>some z
 |_,_=>none
def z5K (P:Program) (o:Oper):Option NOp:=
 match o.op with
 | .lookup t x k ok=>
  match P.underlying t with
  |some (.map kt et)=>do
   let (ks,kag)←Yi P kt
   some (.lookup ks kag (←wv P et) ok (←opA x) (←opA k))
  |_=>none
 | .mapUpdate t x k v=>
  match P.underlying t with
  |some (.map kt _)=>do
   let (ks,kag)←Yi P kt
   some (.z9S ks kag (←opA x) (←opA k) (←opA v))
  |_=>none
 | .mapEntry t x k=>
  match P.underlying t with
  |some (.map kt et)=>do
   let (ks,kag)←Yi P kt
   some (.zbG ks kag (←wv P et) (←opA x) (←opA k))
  |_=>none
 | .entryStore _ x s v=>do some (.zc5 (←opA x) (←opA s) (←opA v))
 | .binOp op t x y _=>
  match P.underlying t with
  |some (.slice _)=>
   match op,y with
   | .eql,.const (.slice none 0 0)=>do some (.eqn false (←opA x))
   | .neq,.const (.slice none 0 0)=>do some (.eqn true (←opA x))
   |_,_=>none
  |some (.struct _)=>
   match op,Yi P t with
   | .eql,some (ks,_)=>do some (.z7P false ks (←opA x) (←opA y))
   | .neq,some (ks,_)=>do some (.z7P true ks (←opA x) (←opA y))
   |_,_=>none
  |_=>none
 | .call {callee:= .builtin .delete,args,argTypes}=>
  match args.toList,argTypes[0]? with
  |[x,k],some t=>
   match P.underlying t with
   |some (.map kt _)=>do
    let (ks,kag)←Yi P kt
    some (.zbA ks kag (←opA x) (←opA k))
   |_=>none
  |_,_=>none
 | .call {callee:= .builtin .clear,args,argTypes}=>
  match args.toList,argTypes[0]? with
  |[x],some t=>
   match P.underlying t with
   |some (.map _ _)=>do some (.zbt (←opA x))
   |some (.slice e)=>
    match Zs P e,ZK P e,opA x with
    |some sz,some z,some x'=>if z.all V.ZJ=true then some (.zbS sz z x') else none
    |_,_,_=>none
   |_=>none
  |_,_=>none
 | .next x false=>do some (.nxt (←opA x))
 | .entry x=>do some (.z6j (←opA x))
 | .call {callee:= .value (.func f),args,..}=>
  match z0p P f,args.toList with
  |some (some cnt),[x,y]=>do some (.xtr cnt (←opA x) (←opA y))
  |some none,[x,y]=>do some (.xcm (←opA x) (←opA y))
  |_,_=>none
 | .convert src dst x=>
  match P.underlying src,P.underlying dst with
  |some (.slice e),some .string=>
   match P.underlying e with
   |some (.int .u8)=>do some (.z9Z (←opA x))
   |_=>some .bad
  |_,_=>some .bad
 |_=>some .bad
def z3g (P:Program) (g:TypeId->Option (List KSh)):Nat->List Field->Option (List KSh)
 |_,[]=>some []
 |i,f::r=>
  if f.offset=i/\f.name≠ "_" then
   match g f.type with
   |some l=>if zI P f.type=false/\l.length=1∨zI P f.type=true/\Zs P f.type=some l.length then (z3g P g (i+l.length) r).map (l++·) else none
   |none=>none
  else none
def wM (P:Program):Nat->TypeId->Option (List KSh)
 |0,_=>none
 |d+1,t=>
  match P.underlying t with
  |some .bool=>some [.bool]
  |some (.int k)=>some [.int k]
  |some .string=>some [.str]
  |some (.pointer e)=>if (P.info? e).isSome then some [.ptr] else none
  |some (.struct fs)=>if P.stoodInHeld t=false then z3g P (wM P d) 0 fs.toList else none
  |_=>none
def z81 (P:Program) (o:Oper):Option NOp:=
 match o.op with
 | .lookup t x k true=>
  match P.underlying t with
  |some (.map kt et)=>if zI P kt=true then do
   let ks ←wM P 8 kt
   some (.z2j ks (←wv P et) (←opA x) (←opA k)) else none
  |_=>none
 | .mapUpdate t x k v=>
  match P.underlying t with
  |some (.map kt _)=>if zI P kt=true then do
   let ks ←wM P 8 kt
   some (.z83 ks (←opA x) (←opA k) (←opA v)) else none
  |_=>none
 |_=>none
def W9 (P:Program) (ops:Array Oper) (o:Oper):Option AOp:=
 match ZV P ops o with
 |some x=>some x
 |none=>
  match z5K P o with
  |some n=>some (.nw n)
  |none=>(z81 P o).map .nw
def z4k (P:Program) (ops:Array Oper) (o:Oper):Option AO:=
 match W9 P ops o with
 |none=>none
 |some op=>
  match o.guard with
  |none=>some ⟨o.dst,none,op⟩
  |some (j,want)=>
   match (ops[j]?).bind (·.dst) with
   |some s=>some ⟨o.dst,some (s,want),op⟩
   |none=>none
def z0e (P:Program) (ops:Array Oper):List Oper->Option (List AO)
 |[]=>some []
 |o::r=>
  match z4k P ops o,z0e P ops r with
  |some a,some l=>some (a::l)
  |_,_=>none
inductive zW where
 |skip
 |region (draw:Bool) (ops:List AO) (after:List (List Nat)) (live:List Nat)
 |seq (a b:zW)
 |cond (c:Ar) (a b:zW)
 |block (id:Nat) (c:zW)
 |loop (c:zW)
 |exit (id:Nat)
 |ret
 |scope (c:zW)
 |lbl
def YC (ops:Array Oper):List (List Nat):=
 ops.toList.map fun o=>(o.after.toList.filter (Region.binds .any)).map (·.on)
def Y7 (P:Program):Code->Option zW
 | .skip=>some .skip
 | .region _ ops draw=>
  match z0e P ops ops.toList with
  |some l=>some (.region draw l (if draw then YC ops else []) [])
  |none=>none
 | .seq a b=>match Y7 P a,Y7 P b with|some x,some y=>some (.seq x y)|_,_=>none
 | .cond c a b=>match opA c,Y7 P a,Y7 P b with|some z,some x,some y=>some (.cond z x y)|_,_,_=>none
 | .block id c=>(Y7 P c).map (.block id)
 | .loop c=>(Y7 P c).map .loop
 | .exit id=>some (.exit id)
 | .ret=>some .ret
 | .scope c=>(Y7 P c).map .scope
 | .label _=>some .lbl
 |_=>none
def zW.bare:zW->zW
 | .region d o a _=> .region d o a []
 | .seq a b=> .seq a.bare b.bare
 | .cond c a b=> .cond c a.bare b.bare
 | .block id c=> .block id c.bare
 | .loop c=> .loop c.bare
 | .scope c=> .scope c.bare
 |c=>c
theorem zn.Zv {Λ:L} {v:Value} {x:T} (h:zn Λ v (.t x)):zO Λ.lab Λ.w v x:=by cases h;assumption
theorem zn.zy {Λ:L} {v:Value} {x:V} {t:T} (h:zn Λ v x) (hx:x.zy=some t):zO Λ.lab Λ.w v t:=by
 cases h<;>simp [V.zy] at hx
 ·subst hx;assumption
 ·subst hx;exact .nil
 ·subst hx;assumption
 ·subst hx;assumption
theorem zO.yW {l:Nat->Lab} {w:World} {v:Value} {b:Bool} (h:zO l w v (.bool b)):v= .bool b:=by cases h;rfl
theorem zO.ZS {l:Nat->Lab} {w:World} {v:Value} {k:IntKind} {n:Int} (h:zO l w v (.int k n)):v= .int k n:=by cases h;rfl
theorem zO.YY {l:Nat->Lab} {w:World} {v:Value} {s:List UInt8} (h:zO l w v (.str s)):v= .string ⟨⟨s⟩⟩:=by cases h;rfl
theorem zn.z3Y {Λ:L} {v:Value} {x:V} (h:Q1 v=some x):zn Λ v x:=by
 unfold Q1 at h
 split at h<;>simp at h<;>subst h
 ·exact .t (.bool _)
 ·exact .t (.int _ _)
 ·exact .t (.str _)
 ·exact .t .QP
 ·exact .t .qG
 ·exact .t .z28
 ·exact .zV
theorem zn.z8a {Λ:L} {v:Value} {x:V} (h:z5H v x=true):zn Λ v x:=by
 unfold z5H at h
 split at h<;>simp at h
 ·subst h;exact .t (.bool _)
 ·obtain ⟨rfl,rfl⟩:=h;exact .t (.int _ _)
 ·subst h;exact .t (.str _)
 ·exact .t .QP
 ·exact .t .qG
 ·exact .t .z28
 ·exact .zV
theorem z1F {Λ:L}:∀{vs:List Value} {xs:List V},wz vs xs=true->vs.length=xs.length/\∀(j:Nat) (v:Value) (x:V),vs[j]?=some v->xs[j]?=some x->zn Λ v x
 |[],[],_=>⟨rfl,by simp⟩
 |v::vs,x::xs,h=>by
  simp only [wz,Bool.and_eq_true] at h;obtain ⟨h1,h2⟩:=z1F (Λ:=Λ) h.2
  refine ⟨by simp [h1],fun j u y hu hy=>?_⟩
  cases j with
  |zero=>simp at hu hy;subst hu;subst hy;exact .z8a h.1
  |succ j=>exact h2 j u y (by simpa using hu) (by simpa using hy)
 |[],_::_,h=>by simp [wz] at h
 |_::_,[],h=>by simp [wz] at h
theorem Rel.opd {C:Ctx} {Λ:L} {st:St} {a:Act} (h:Rel C Λ st a) {y:Operand} {x:Ar} (hx:opA y=some x):zn Λ (a.eval y) (x.v st):=by
 unfold opA at hx;split at hx
 ·simp at hx;subst hx;exact h.env _
 ·simp only [Option.map_eq_some_iff] at hx;obtain ⟨v,hv,rfl⟩:=hx;exact .z3Y hv
 ·simp at hx;subst hx;exact .t (.fn _)
 ·simp at hx
theorem zn.ug {Λ:L} {v:Value} {x:V} (h:zn Λ v x):zn Λ v x.ug:=by
 cases h with
 |gd h _=>
  rename_i c _ _
  cases c with
  |true=>exact h rfl
  |false=>exact .top
 |t h=>exact .t h
 |zV=>exact .zV
 |own a b c d e=>exact .own a b c d e
 |slc a b c=>exact .slc a b c
 |agg a b=>exact .agg a b
 |tup a b=>exact .tup a b
 |ptr a b=>exact .ptr a b
 |mp a b=>exact .mp a b
 |fn a b=>exact .fn a b
 |top=>exact .top
 |ub a b=>exact .ub a b
 |ui=>exact .ui
 |fpt a b=>exact .fpt a b
 |gpt a b c d=>exact .gpt a b c d
 |gsl a b c d=>exact .gsl a b c d
 |fow a b c d e=>exact .fow a b c d e
theorem Rel.opu {C:Ctx} {Λ:L} {st:St} {a:Act} (h:Rel C Λ st a) {y:Operand} {x:Ar} (hx:opA y=some x):zn Λ (a.eval y) (x.u st):=(h.opd hx).ug
theorem z9l {Λ:L} {gc:Bool} {u:Value} {x v:V} {p:List Bool} (hx:zn Λ u x) (hr:x.un gc=(v,p)) (hp:∀q∈p,q) (hg:gc=true):zn Λ u v:=by
 unfold V.un at hr;split at hr
 ·simp only [Prod.mk.injEq] at hr;obtain ⟨rfl,rfl⟩:=hr;have:=hp _ (List.mem_singleton.2 rfl);simp [hg] at this
  cases hx with
  |gd h _=>exact h this
 ·simp only [Prod.mk.injEq] at hr;obtain ⟨rfl,rfl⟩:=hr;exact hx
theorem zf {C:Ctx} {Λ:L} {st:St} {a:Act} (h:Rel C Λ st a) {y:Operand} {x:Ar} (hx:opA y=some x) {gc:Bool} {v:V} {p:List Bool}
  (hr:rd gc st x=(v,p)) (hp:∀q∈p,q) (hg:gc=true):zn Λ (a.eval y) v:=z9l (h.opd hx) hr hp hg
def zC (P:Program) (o:Oper) (gc:Bool) (st:St) (x:V):Prop:=
 ∀(C:Ctx) (Λ:L) (a:Act),C.P=P->gc=true->Rel C Λ st a->∃v,(execOp a.eval o).run P Λ.w= .ok (.value v) Λ.w/\zn Λ v x
section
variable {P:Program} {o:Oper} {gc:Bool} {st:St}
theorem zcl {x:V} {v:Value} (ho:o.op= .move (.const v)∨o.op= .assign (.const v)) (hx:∀Λ,zn Λ v x):zC P o gc st x:=by
 intro C Λ a _ _ _;refine ⟨v,?_,hx _⟩
 rcases ho with ho|ho<;>simp [execOp,ho,Act.eval]
theorem zbr {y:Operand} {x:Ar} {v:V} {p:List Bool} (ho:o.op= .move y∨o.op= .assign y) (hy:opA y=some x) (hr:rd gc st x=(v,p)) (hp:∀q∈p,q):zC P o gc st v:=by
 intro C Λ a _ hg h;have hv:=zf h hy hr hp hg;refine ⟨a.eval y,?_,hv⟩
 rcases ho with ho|ho<;>simp [execOp,ho]
theorem zd7 {c x y:Operand} {c' x' y':Ar} {cb xa xb:Bool} {p1 p2 p3:List Bool} (ho:o.op= .pick c x y) (hc:opA c=some c') (hx:opA x=some x') (hy:opA y=some y')
  (h1:rd gc st c'=(.t (.bool cb),p1)) (h2:rd (gc&&cb) st x'=(.t (.bool xa),p2)) (h3:rd (gc&&!cb) st y'=(.t (.bool xb),p3)) (hp:∀q∈p1++(p2++p3),q):
  zC P o gc st (.t (.bool (bif cb then xa else xb))):=by
 intro C Λ a _ hg h;have hc1:=zf h hc h1 (fun q hq=>hp q (by simp [hq])) hg;have ec:=hc1.Zv.yW
 cases cb with
 |true=>
  have hx1:=zf h hx h2 (fun q hq=>hp q (by simp [hq])) (by simp [hg])
  refine ⟨a.eval x,by simp [execOp,ho,ec,asBool],?_⟩
  exact .t hx1.Zv
 |false=>
  have hy1:=zf h hy h3 (fun q hq=>hp q (by simp [hq])) (by simp [hg])
  refine ⟨a.eval y,by simp [execOp,ho,ec,asBool],?_⟩
  exact .t hy1.Zv
theorem zdv {t:TypeId} {x:Operand} {x':Ar} {b:Bool} {p:List Bool} (ho:o.op= .unOp .not t x) (hx:opA x=some x') (h1:rd gc st x'=(.t (.bool b),p)) (hp:∀q∈p,q):
  zC P o gc st (.t (.bool (!b))):=by
 intro C Λ a _ hg h;have hx1:=zf h hx h1 hp hg;have e:=hx1.Zv.yW
 exact ⟨.bool (!b),by simp [execOp,ho,e,Op.unary],.t (.bool _)⟩
theorem ze6 {t:TypeId} {x:Operand} {x':Ar} {k:IntKind} {n:Int} {p:List Bool} (ho:o.op= .unOp .neg t x) (hx:opA x=some x') (h1:rd gc st x'=(.t (.int k n),p)) (hp:∀q∈p,q):
  zC P o gc st (.t (.int k (k.wrap (0 - n)))):=by
 intro C Λ a _ hg h;have hx1:=zf h hx h1 hp hg;have e:=hx1.Zv.ZS
 exact ⟨.int k (k.wrap (0 - n)),by simp [execOp,ho,e,Op.unary,Op.intArith],.t (.int _ _)⟩
theorem toList_mk (s:List UInt8):ByteArray.toList ⟨⟨s⟩⟩=s:=ByteArray.toList_mk s
theorem z8L (a b:List UInt8):(⟨⟨a⟩⟩++⟨⟨b⟩⟩:ByteArray)=⟨⟨a++b⟩⟩:=by
 apply ByteArray.ext;simp [ByteArray.data_append]
theorem zn.zcR {Λ:L} {v:Value} {k:IntKind} (h:zn Λ v (.ui k)):∃n,v= .int k n:=by
 cases h;exact ⟨_,rfl⟩
theorem z9A {op:BinOp} {t ty:TypeId} {x y:Operand} {x' y':Ar} {k:IntKind} {n:Int} {v:V} {p1 p2:List Bool} (ho:o.op= .binOp op t x y ty) (hx:opA x=some x') (hy:opA y=some y')
  (h1:rd gc st x'=(.ui k,p1)) (h2:rd gc st y'=(.t (.int k n),p2)) (hb:(op= .add/\v= .ui k)∨(op= .gtr/\v= .ub True True)) (hp:∀q∈p1++p2,q):zC P o gc st v:=by
 intro C Λ ac _ hg h;have hx1:=zf h hx h1 (fun q hq=>hp q (by simp [hq])) hg;have hy1:=zf h hy h2 (fun q hq=>hp q (by simp [hq])) hg;obtain ⟨m,e1⟩:=hx1.zcR;have e2:=hy1.Zv.ZS
 rcases hb with ⟨rfl,rfl⟩|⟨rfl,rfl⟩
 ·exact ⟨.int k (k.wrap (m+n)),by simp [execOp,ho,e1,e2,eqGuard,binOp,Op.intArith],.ui⟩
 ·exact ⟨.bool (decide (m>n)),by simp [execOp,ho,e1,e2,eqGuard,binOp,Op.intCmp],.ub (fun _=>trivial) (fun _=>trivial)⟩
theorem ze5 {op:BinOp} {t ty:TypeId} {x y:Operand} {x' y':Ar} {a b r:T} {p1 p2 p3:List Bool} (ho:o.op= .binOp op t x y ty) (hx:opA x=some x') (hy:opA y=some y')
  (h1:rd gc st x'=(.t a,p1)) (h2:rd gc st y'=(.t b,p2)) (hb:z14 op a b=some (r,p3)) (hp:∀q∈p1++(p2++p3),q):zC P o gc st (.t r):=by
 intro C Λ ac _ hg h;have hx1:=zf h hx h1 (fun q hq=>hp q (by simp [hq])) hg;have hy1:=zf h hy h2 (fun q hq=>hp q (by simp [hq])) hg;have hp3:∀q∈p3,q:=fun q hq=>hp q (by simp [hq])
 cases a with
 |int k m=>
  cases b with
  |int k' n=>
   have e1:=hx1.Zv.ZS;have e2:=hy1.Zv.ZS;simp only [z14] at hb;split at hb
   ·rename_i hk;subst hk
    cases op<;>simp at hb<;>obtain ⟨rfl,rfl⟩:=hb
    case quo=>
     have hn:n≠0:=zDT (hp3 _ (by simp))
     exact ⟨_,by simp [execOp,ho,e1,e2,eqGuard,binOp,Op.intDiv,hn],.t (.int _ _)⟩
    case rem=>
     have hn:n≠0:=zDT (hp3 _ (by simp))
     exact ⟨_,by simp [execOp,ho,e1,e2,eqGuard,binOp,Op.intDiv,hn],.t (.int _ _)⟩
    case add=>exact ⟨_,by simp [execOp,ho,e1,e2,eqGuard,binOp,Op.intArith],.t (.int _ _)⟩
    case sub=>exact ⟨_,by simp [execOp,ho,e1,e2,eqGuard,binOp,Op.intArith],.t (.int _ _)⟩
    case mul=>exact ⟨_,by simp [execOp,ho,e1,e2,eqGuard,binOp,Op.intArith],.t (.int _ _)⟩
    case and=>exact ⟨_,by simp [execOp,ho,e1,e2,eqGuard,binOp,Op.intBits,zdL],.t (.int _ _)⟩
    case or=>exact ⟨_,by simp [execOp,ho,e1,e2,eqGuard,binOp,Op.intBits,orI],.t (.int _ _)⟩
    all_goals exact ⟨_,by simp [execOp,ho,e1,e2,eqGuard,binOp,Op.intCmp],.t (.bool _)⟩
   ·simp at hb
  |_=>simp [z14] at hb
 |str m=>
  cases b with
  |str n=>
   have e1:=hx1.Zv.YY;have e2:=hy1.Zv.YY;simp only [z14] at hb
   cases op<;>simp at hb<;>obtain ⟨rfl,rfl⟩:=hb
   ·have hn:m.length+n.length<=9223372036854775807:=zDT (hp3 _ (by simp))
    have hn':¬ (IntKind.i64.max<((m.length+n.length:Nat):Int)):=by
     show ¬ ((9223372036854775807:Int)<_);omega
    have hs:((⟨⟨m⟩⟩:ByteArray).size+(⟨⟨n⟩⟩:ByteArray).size)=m.length+n.length:=rfl;refine ⟨.string ⟨⟨m++n⟩⟩,?_,.t (.str _)⟩;simp only [execOp,ho,e1,e2,eqGuard,binOp,Op.stringOp,hs,z8L];simp;omega
   all_goals exact ⟨_,by simp [execOp,ho,e1,e2,eqGuard,binOp,Op.stringOp],.t (.bool _)⟩
  |_=>simp [z14] at hb
 |_=>simp [z14] at hb
end
theorem ZW (b o n:Nat):(⟨b,o,none⟩:Addr).add n=⟨b,o+n,none⟩:=by
 unfold Addr.add;split
 ·rename_i h;subst h;rfl
 ·rfl
section
variable {P:Program} {o:Oper} {gc:Bool} {st:St}
theorem run_equal_bool {t:TypeId} (hu:P.underlying t=some .bool) (a b:Bool) (w:World):(Op.equal t (.bool a) (.bool b)).run P w= .ok (a==b) w:=by
 have:∀d,(Op.equalIn (d+1) t (.bool a) (.bool b)).run P w= .ok (a==b) w:=fun d=>by simp [Op.equalIn,run_underlying hu]
 exact this 9999
theorem zch {neg:Bool} {t ty:TypeId} {x y:Operand} {x' y':Ar} {a b:Bool} {p1 p2:List Bool} (hu:P.underlying t=some .bool)
  (ho:o.op= .binOp (if neg then .neq else .eql) t x y ty) (hx:opA x=some x') (hy:opA y=some y')
  (h1:rd gc st x'=(.t (.bool a),p1)) (h2:rd gc st y'=(.t (.bool b),p2)) (hp:∀q∈p1++p2,q):zC P o gc st (.t (.bool (if neg then !(a==b) else a==b))):=by
 intro C Λ ac _ hg h;have hx1:=zf h hx h1 (fun q hq=>hp q (by simp [hq])) hg;have hy1:=zf h hy h2 (fun q hq=>hp q (by simp [hq])) hg;have e1:=hx1.Zv.yW;have e2:=hy1.Zv.yW;refine ⟨_,?_,.t (.bool _)⟩
 cases neg<;>simp [execOp,ho,e1,e2,eqGuard,binOp,run_equal_bool hu]
theorem zcU {src dst:TypeId} {x:Operand} {x':Ar} {k k1 k2:IntKind} {n:Int} {p:List Bool} (hs:P.underlying src=some (.int k1)) (hd:P.underlying dst=some (.int k))
  (ho:o.op= .convert src dst x) (hx:opA x=some x') (h1:rd gc st x'=(.t (.int k2 n),p)) (hp:∀q∈p,q):zC P o gc st (.t (.int k (k.wrap n))):=by
 intro C Λ ac _ hg h;have hx1:=zf h hx h1 hp hg;have e1:=hx1.Zv.ZS
 exact ⟨_,by simp [execOp,ho,e1,convert,run_underlying hs,run_underlying hd,Conv.intToInt],.t (.int _ _)⟩
theorem zbg {src dst:TypeId} {x:Operand} {x':Ar} {v:V} {p:List Bool} (hs:P.underlying src=some .string) (hd:P.underlying dst=some .string)
  (ho:o.op= .convert src dst x) (hx:opA x=some x') (h1:rd gc st x'=(v,p)) (hp:∀q∈p,q) (hv:∃s,v= .t (.str s)):zC P o gc st v:=by
 intro C Λ ac _ hg h;have hx1:=zf h hx h1 hp hg;obtain ⟨s,rfl⟩:=hv;have e1:=hx1.Zv.YY
 exact ⟨.string ⟨⟨s⟩⟩,by simp [execOp,ho,e1,convert,run_underlying hs,run_underlying hd],.t (.str _)⟩
theorem z0Q {x:Operand} {x':Ar} {v:V} {p:List Bool} (ho:o.op= .nilCheck x) (hx:opA x=some x') (h1:rd gc st x'=(v,p)) (hp:∀q∈p,q)
  (hv:(∃k n,v= .ptr k n)∨(∃c,v= .t (.ptr c))∨(∃f,v= .t (.fn f))∨∃f c,v= .fn f c):zC P o gc st v:=by
 intro C Λ ac _ hg h;have hx1:=zf h hx h1 hp hg
 rcases hv with ⟨k,n,rfl⟩|⟨c,rfl⟩|⟨f,rfl⟩|⟨f,c,rfl⟩
 ·generalize hv:ac.eval x=v at hx1
  cases hx1 with
  |ptr hk h'=>exact ⟨_,by simp [execOp,ho,hv],.ptr hk h'⟩
 ·generalize hv:ac.eval x=v at hx1
  cases hx1 with
  |t h'=>cases h' with|ptr _ b o vf a1 a2 a3=>exact ⟨_,by simp [execOp,ho,hv],.t (.ptr _ b o vf a1 a2 a3)⟩
 ·generalize hv:ac.eval x=v at hx1
  cases hx1 with
  |t h'=>cases h';exact ⟨_,by simp [execOp,ho,hv],.t (.fn _)⟩
 ·generalize hv:ac.eval x=v at hx1
  cases hx1 with
  |fn hs h'=>exact ⟨_,by simp [execOp,ho,hv],.fn hs h'⟩
theorem z8Q {x:Operand} {x':Ar} {k i n:Nat} {p:List Bool} (ho:o.op= .nilCheck x) (hx:opA x=some x') (h1:rd gc st x'=(.fpt k i n,p)) (hp:∀q∈p,q):zC P o gc st (.fpt k i n):=by
 intro C Λ ac _ hg h;have hx1:=zf h hx h1 hp hg;generalize hv:ac.eval x=v at hx1
 cases hx1 with
 |fpt hk h'=>exact ⟨_,by simp [execOp,ho,hv],.fpt hk h'⟩
theorem zO.z4f {l:Nat->Lab} {w:World} {b o n:Nat} {cs:List T} (h:zO l w (.pointer (some ⟨b,o,none⟩)) (.ptr cs)):zO l w (.pointer (some ⟨b,o+n,none⟩)) (.ptr (cs.drop n)):=by
 cases h with
 |ptr _ _ _ vf a1 a2 a3=>
  refine .ptr _ b (o+n) (fun j=>vf (n+j)) (fun j x hj=>?_) (fun j x hj=>?_) (fun j x hj=>?_)<;>rw [List.getElem?_drop] at hj
  ·rw [Nat.add_assoc];exact a1 _ x hj
  ·rw [Nat.add_assoc];exact a2 _ x hj
  ·exact a3 _ x hj
theorem zO.z9j {l:Nat->Lab} {w:World} {b o:Nat} {cs:List T} (h:zO l w (.pointer (some ⟨b,o,none⟩)) (.ptr cs)) (j:Nat) (x:T) (hj:cs[j]?=some x):∃v,w.cell? ⟨b,o+j,none⟩=some v/\zO l w v x:=by
 cases h with
 |ptr _ _ _ vf a1 a2 a3=>exact ⟨vf j,a2 j x hj,a3 j x hj⟩
theorem zO.z0O {l:Nat->Lab} {w:World} {v:Value} {cs:List T} (h:zO l w v (.ptr cs)):∃b o,v= .pointer (some ⟨b,o,none⟩):=by
 cases h;exact ⟨_,_,rfl⟩
theorem wE {s:TypeId} {fs:Array Field} {f:Nat} {fd:Field} {n:Nat} (hu:P.underlying s=some (.struct fs)) (hf:fs[f]?=some fd) (hn:Zs P fd.type=some n) (h0:n≠0)
  (b off:Nat) (w:World):(Instr.fieldAt s (.pointer (some ⟨b,off,none⟩)) f).run P w= .ok (.pointer (some ⟨b,off+fd.offset,none⟩)) w:=by
 unfold Zs at hn
 cases hi:P.info? fd.type with
 |none=>rw [hi] at hn;simp at hn
 |some i=>
  rw [hi] at hn;simp at hn;subst hn;simp [Instr.fieldAt,run_underlying hu,hf,Instr.sureAddr,fieldPlace,sizeOf,typeInfo,hi,h0,ZW]
theorem zdV {s:TypeId} {x:Operand} {f:Nat} {fs:Array Field} {fd:Field} {n:Nat} {x':Ar} {v r:V} {p:List Bool} (hu:P.underlying s=some (.struct fs)) (hf:fs[f]?=some fd)
  (hn:Zs P fd.type=some n) (h0:n≠0) (ho:o.op= .fieldAddr s x f) (hx:opA x=some x') (h1:rd gc st x'=(v,p)) (hp:∀q∈p,q)
  (hv:(∃k m,v= .ptr k m/\r= .ptr k (m+fd.offset))∨(∃c,v= .t (.ptr c)/\r= .t (.ptr (c.drop fd.offset)))):zC P o gc st r:=by
 intro C Λ ac _ hg h;have hx1:=zf h hx h1 hp hg
 rcases hv with ⟨k,m,rfl,rfl⟩|⟨c,rfl,rfl⟩
 ·generalize hv:ac.eval x=v at hx1
  cases hx1 with
  |ptr hk h'=>exact ⟨_,by simp [execOp,ho,hv,wE hu hf hn h0],.ptr hk h'⟩
 ·have hr:=hx1.Zv;obtain ⟨b,o',hv⟩:=hr.z0O;rw [hv] at hr
  exact ⟨_,by simp [execOp,ho,hv,wE hu hf hn h0],.t hr.z4f⟩
theorem zd6 {s:TypeId} {x:Operand} {f:Nat} {fs:Array Field} {fd:Field} {n:Nat} {x':Ar} {k i m:Nat} {p:List Bool} (hu:P.underlying s=some (.struct fs)) (hf:fs[f]?=some fd)
  (hn:Zs P fd.type=some n) (h0:n≠0) (ho:o.op= .fieldAddr s x f) (hx:opA x=some x') (h1:rd gc st x'=(.fpt k i m,p)) (hp:∀q∈p,q):zC P o gc st (.fpt k i (m+fd.offset)):=by
 intro C Λ ac _ hg h;have hx1:=zf h hx h1 hp hg;generalize hv:ac.eval x=v at hx1
 cases hx1 with
 |fpt hk h'=>exact ⟨_,by simp [execOp,ho,hv,wE hu hf hn h0],.fpt hk h'⟩
theorem Yj {t:TypeId} {d:TypeDesc} (hu:P.underlying t=some d) (ha:zI P t=false) {b off:Nat} {w:World} {v:Value} (hc:w.cell? ⟨b,off,none⟩=some v):
  (Instr.loadAt t (.pointer (some ⟨b,off,none⟩))).run P w= .ok v w:=by
 have hagg:(isAgg t).run P w= .ok false w:=by
  unfold isAgg;rw [Sem.run_bind,run_underlying hu w];unfold zI at ha;rw [hu] at ha
  cases d<;>simp_all
 simp [Instr.loadAt,Instr.sureAddr,loadVar,hagg,hc]
theorem Y8 {t:TypeId} {n:Nat} (hn:Zs P t=some n) (ha:zI P t=true) {b off:Nat} {w:World} {vs:List Value} (hl:vs.length=n)
  (hc:∀(j:Nat) (v:Value),vs[j]?=some v->w.cell? ⟨b,off+j,none⟩=some v):
  (Instr.loadAt t (.pointer (some ⟨b,off,none⟩))).run P w= .ok (.agg vs.toArray) w:=by
 have hagg:(isAgg t).run P w= .ok true w:=by
  unfold isAgg;unfold zI at ha
  cases hu:P.underlying t with
  |none=>rw [hu] at ha;simp at ha
  |some d=>
   rw [hu] at ha;rw [Sem.run_bind,run_underlying hu w]
   cases d<;>simp_all
 unfold Zs at hn
 cases hi:P.info? t with
 |none=>rw [hi] at hn;simp at hn
 |some i=>
  rw [hi] at hn;simp at hn;subst hn
  have hlc:(loadCells ⟨b,off,none⟩ i.size).run P w= .ok vs.toArray w:=by
   rw [←hl]
   exact run_loadCells_list (P:=P) w ⟨b,off,none⟩ vs (fun j v hv=>by rw [ZW];exact hc j v hv)
  simp [Instr.loadAt,Instr.sureAddr,loadVar,hagg,sizeOf,typeInfo,hi,hlc]
theorem z0r {Q:Nat->Value->Prop}:∀(n:Nat),(∀j,j<n->∃v,Q j v)->∃vs:List Value,vs.length=n/\∀(j:Nat) (v:Value),vs[j]?=some v->Q j v
 |0,_=>⟨[],rfl,by simp⟩
 |n+1,h=>by
  obtain ⟨vs,hl,hv⟩:=z0r n (fun j hj=>h j (by omega));obtain ⟨v,hq⟩:=h n (by omega)
  refine ⟨vs++[v],by simp [hl],fun j u hu=>?_⟩
  by_cases hj:j<vs.length
  ·rw [List.getElem?_append_left hj] at hu;exact hv j u hu
  ·rw [List.getElem?_append_right (by omega)] at hu;by_cases e:j=n
   ·subst e;rw [hl] at hu;simp at hu;subst hu;exact hq
   ·rw [List.getElem?_eq_none (by simp;omega)] at hu;cases hu
theorem zaW {t:TypeId} {d:TypeDesc} {x:Operand} {x':Ar} {cs:List T} {c:T} {p:List Bool} (hu:P.underlying t=some d) (ha:zI P t=false)
  (ho:o.op= .load t x) (hx:opA x=some x') (h1:rd gc st x'=(.t (.ptr cs),p)) (hp:∀q∈p,q) (hc:cs[0]?=some c):zC P o gc st (.t c):=by
 intro C Λ ac _ hg h;have hr:=(zf h hx h1 hp hg).Zv;obtain ⟨b,o',hv⟩:=hr.z0O;rw [hv] at hr;obtain ⟨u,hu1,hu2⟩:=hr.z9j 0 c hc
 exact ⟨u,by simp [execOp,ho,hv,Yj hu ha (by simpa using hu1)],.t hu2⟩
theorem z9X {t:TypeId} {n:Nat} {x:Operand} {x':Ar} {cs:List T} {p:List Bool} (hn:Zs P t=some n) (ha:zI P t=true)
  (ho:o.op= .load t x) (hx:opA x=some x') (h1:rd gc st x'=(.t (.ptr cs),p)) (hp:∀q∈p,q) (hl:n<=cs.length):zC P o gc st (.agg ((cs.take n).map V.t)):=by
 intro C Λ ac _ hg h;have hr:=(zf h hx h1 hp hg).Zv;obtain ⟨b,off,hv⟩:=hr.z0O;rw [hv] at hr
 obtain ⟨vs,hvl,hvs⟩:=z0r (Q:=fun j v=>Λ.w.cell? ⟨b,off+j,none⟩=some v/\∀c,cs[j]?=some c->zO Λ.lab Λ.w v c) n (fun j hj=>by
  obtain ⟨u,hu1,hu2⟩:=hr.z9j j cs[j] (by simp [Nat.lt_of_lt_of_le hj hl])
  exact ⟨u,hu1,fun c hc=>by simp [Nat.lt_of_lt_of_le hj hl] at hc;subst hc;exact hu2⟩)
 refine ⟨.agg vs.toArray,by simp [execOp,ho,hv,Y8 hn ha hvl (fun j v hj=>(hvs j v hj).1)],.agg (by simp [hvl];omega) fun j u c h2 h3=>?_⟩
 rw [List.getElem?_map,Option.map_eq_some_iff] at h3;obtain ⟨c',h4,rfl⟩:=h3;rw [List.getElem?_take] at h4;split at h4
 ·exact .t ((hvs j u (by simpa using h2)).2 c' h4)
 ·cases h4
theorem Z4.WM {Λ:L} {s:S} (h:Z4 Λ s) {k:Nat} {cs:List V} (hk:zi s.sto k=some (.cells cs)) {b:Nat} (hb:Λ.lab b= .obj k):
  ∃(arr:Array Value) (e:TypeId),Λ.w.heap[b]?=some (.cells arr e (0,0))/\arr.size=cs.length/\∀(j:Nat) (v:Value) (c:V),arr[j]?=some v->cs[j]?=some c->zn Λ v c:=by
 obtain ⟨b',arr,e,h1,h2,h3,h4⟩:=(h.sto k _ hk).2;obtain rfl:=h.inj b b' k hb h1;exact ⟨arr,e,h2,h3,h4⟩
theorem z9h {t:TypeId} {d:TypeDesc} {x:Operand} {x':Ar} {k off:Nat} {cs:List V} {c:V} {p:List Bool} (hu:P.underlying t=some d) (ha:zI P t=false)
  (ho:o.op= .load t x) (hx:opA x=some x') (h1:rd gc st x'=(.ptr k off,p)) (hp:∀q∈p,q) (hk:zi st.s.sto k=some (.cells cs)) (hc:cs[off]?=some c):zC P o gc st c:=by
 intro C Λ ac _ hg h;have hx1:=zf h hx h1 hp hg;generalize hv:ac.eval x=v at hx1
 cases hx1 with
 |@ptr b _ _ _ h'=>
  obtain ⟨arr,e,h2,h3,h4⟩:=h.s.WM hk h';have hlt:off<cs.length:=(List.getElem?_eq_some_iff.1 hc).1
  have hcell:Λ.w.cell? ⟨b,off,none⟩=some (arr[off]'(by omega)):=by rw [cell_of_row Λ.w b off arr e _ h2];simp [h3,hlt]
  exact ⟨arr[off]'(by omega),by simp [execOp,ho,hv,Yj hu ha hcell],h4 off _ c (by simp) hc⟩
theorem zn.zd3 {Λ:L} {vs:List Value} {cs:List V} (h:∀(j:Nat) (v:Value) (c:V),vs[j]?=some v->cs[j]?=some c->zn Λ v c) (hl:vs.length=cs.length) (off n:Nat):
  zn Λ (.agg ((vs.drop off).take n).toArray) (.agg ((cs.drop off).take n)):=by
 refine .agg (by simp [hl]) fun j u c h5 h6=>?_
 have h5':((vs.drop off).take n)[j]?=some u:=by simpa using h5
 rw [List.getElem?_take] at h5' h6;split at h6
 ·rename_i hj;rw [if_pos hj] at h5';rw [List.getElem?_drop] at h5' h6;exact h _ u c h5' h6
 ·cases h6
theorem z8b {t:TypeId} {n:Nat} {x:Operand} {x':Ar} {k off:Nat} {cs:List V} {p:List Bool} (hn:Zs P t=some n) (ha:zI P t=true)
  (ho:o.op= .load t x) (hx:opA x=some x') (h1:rd gc st x'=(.ptr k off,p)) (hp:∀q∈p,q) (hk:zi st.s.sto k=some (.cells cs)) (hl:off+n<=cs.length):
  zC P o gc st (.agg ((cs.drop off).take n)):=by
 intro C Λ ac _ hg h;have hx1:=zf h hx h1 hp hg;generalize hv:ac.eval x=v at hx1
 cases hx1 with
 |@ptr b _ _ _ h'=>
  obtain ⟨arr,e,h2,h3,h4⟩:=h.s.WM hk h'
  have hvl:((arr.toList.drop off).take n).length=n:=by simp;omega
  have hcell:∀(j:Nat) (v:Value),((arr.toList.drop off).take n)[j]?=some v->Λ.w.cell? ⟨b,off+j,none⟩=some v:=by
   intro j v hj;rw [List.getElem?_take] at hj;split at hj
   ·rw [List.getElem?_drop] at hj;rw [cell_of_row Λ.w b _ arr e _ h2];simpa using hj
   ·cases hj
  exact ⟨.agg ((arr.toList.drop off).take n).toArray,by simp [execOp,ho,hv,Y8 hn ha hvl hcell],zn.zd3 (fun j v c e1 e2=>h4 j v c (by simpa using e1) e2) (by simpa using h3) off n⟩
theorem Z4.z6z {Λ:L} {s:S} (h:Z4 Λ s) {k i:Nat} {os:List (List V)} {cs:List V} (hk:zi s.sto k=some (.yJ os)) (hi:os[i]?=some cs) {b:Nat} (hb:Λ.lab b= .fob k i):
  ∃(arr:Array Value) (e:TypeId),Λ.w.heap[b]?=some (.cells arr e (0,0))/\arr.size=cs.length/\∀(j:Nat) (v:Value) (c:V),arr[j]?=some v->cs[j]?=some c->zn Λ v c:=by
 obtain ⟨_,h0⟩:=(h.sto k _ hk).2;obtain ⟨b',arr,e,h1,h2,h3,h4⟩:=h0 i cs hi;obtain rfl:=h.YO b b' k i hb h1;exact ⟨arr,e,h2,h3,h4⟩
theorem WB.uniq {Λ:L} {s:S} (h:Z4 Λ s) {k b b':Nat} (h1:WB Λ.lab k b) (h2:WB Λ.lab k b'):b=b':=by
 obtain ⟨i,a1,a2⟩:=h1;obtain ⟨j,b1,b2⟩:=h2;have e1:=a2 b' j b1;have e2:=b2 b i a1
 have:i=j:=by omega
 subst this;exact h.YO b b' k i a1 b1
theorem Z4.QM {Λ:L} {s:S} (h:Z4 Λ s) {k w:Nat} {cs:List V} (hk:zi s.sto k=some (.gro w cs)) {b:Nat} (hb:WB Λ.lab k b):
  ∃(arr:Array Value) (e:TypeId),Λ.w.heap[b]?=some (.cells arr e (0,0))/\cs.length<=arr.size/\∀(j:Nat) (v:Value) (c:V),arr[j]?=some v->cs[j]?=some c->zn Λ v c:=by
 obtain ⟨_,⟨_,h2⟩|⟨b',arr,e,h1,h2,h3,h4⟩⟩:=(h.sto k _ hk).2
 ·obtain ⟨i,a1,_⟩:=hb;exact absurd a1 (h2 b i)
 ·obtain rfl:=WB.uniq h hb h1;exact ⟨arr,e,h2,h3,h4⟩
theorem z7R {x:Operand} {x':Ar} {k ver n w:Nat} {cs:List V} {p:List Bool} (ho:o.op= .nilCheck x) (hx:opA x=some x') (h1:rd gc st x'=(.gpt k ver n,p)) (hp:∀q∈p,q) (hk:zi st.s.sto k=some (.gro w cs)) (hw:ver=w):zC P o gc st (.gpt k ver n):=by
 intro C Λ ac _ hg h;have hx1:=zf h hx h1 hp hg;generalize hv:ac.eval x=v at hx1
 cases hx1 with
 |gpt g0 g1 g2 g3=>
  obtain ⟨b,rfl,g4⟩:=g3 (hw.trans (h.s.sto k _ hk).2.1.symm)
  exact ⟨_,by simp [execOp,ho,hv],.gpt ⟨_,rfl⟩ g1 g2 (fun _=>⟨b,rfl,g4⟩)⟩
theorem zcx {s:TypeId} {x:Operand} {f:Nat} {fs:Array Field} {fd:Field} {n:Nat} {x':Ar} {k ver m w:Nat} {cs:List V} {p:List Bool} (hu:P.underlying s=some (.struct fs)) (hf:fs[f]?=some fd)
  (hn:Zs P fd.type=some n) (h0:n≠0) (ho:o.op= .fieldAddr s x f) (hx:opA x=some x') (h1:rd gc st x'=(.gpt k ver m,p)) (hp:∀q∈p,q) (hk:zi st.s.sto k=some (.gro w cs)) (hw:ver=w):zC P o gc st (.gpt k ver (m+fd.offset)):=by
 intro C Λ ac _ hg h;have hx1:=zf h hx h1 hp hg;generalize hv:ac.eval x=v at hx1
 cases hx1 with
 |gpt g0 g1 g2 g3=>
  obtain ⟨b,rfl,g4⟩:=g3 (hw.trans (h.s.sto k _ hk).2.1.symm)
  exact ⟨_,by simp [execOp,ho,hv,wE hu hf hn h0],.gpt ⟨_,rfl⟩ g1 g2 (fun _=>⟨b,rfl,g4⟩)⟩
theorem z9F {t:TypeId} {d:TypeDesc} {b off:Nat} {Λ:L} {cs:List V} {c:V} {arr:Array Value} {e:TypeId} (hu:P.underlying t=some d) (ha:zI P t=false) (h2:Λ.w.heap[b]?=some (.cells arr e (0,0))) (h3:cs.length<=arr.size)
  (h4:∀(j:Nat) (v:Value) (c:V),arr[j]?=some v->cs[j]?=some c->zn Λ v c) (hc:cs[off]?=some c):∃v,(Instr.loadAt t (.pointer (some ⟨b,off,none⟩))).run P Λ.w= .ok v Λ.w/\zn Λ v c:=by
 have hlt:off<cs.length:=(List.getElem?_eq_some_iff.1 hc).1
 have hcell:Λ.w.cell? ⟨b,off,none⟩=some (arr[off]'(by omega)):=by rw [cell_of_row Λ.w b off arr e _ h2];first |(simp;done)|(simp;omega)
 exact ⟨arr[off]'(by omega),Yj hu ha hcell,h4 off _ c (by simp) hc⟩
theorem za6 {t:TypeId} {n b off:Nat} {Λ:L} {cs:List V} {arr:Array Value} {e:TypeId} (hn:Zs P t=some n) (ha:zI P t=true) (h2:Λ.w.heap[b]?=some (.cells arr e (0,0))) (h3:cs.length<=arr.size)
  (h4:∀(j:Nat) (v:Value) (c:V),arr[j]?=some v->cs[j]?=some c->zn Λ v c) (hl:off+n<=cs.length):∃v,(Instr.loadAt t (.pointer (some ⟨b,off,none⟩))).run P Λ.w= .ok v Λ.w/\zn Λ v (.agg ((cs.drop off).take n)):=by
 have hvl:((arr.toList.drop off).take n).length=n:=by simp;omega
 have hcell:∀(j:Nat) (v:Value),((arr.toList.drop off).take n)[j]?=some v->Λ.w.cell? ⟨b,off+j,none⟩=some v:=by
  intro j v hj;rw [List.getElem?_take] at hj;split at hj
  ·rw [List.getElem?_drop] at hj;rw [cell_of_row Λ.w b _ arr e _ h2];simpa using hj
  ·cases hj
 refine ⟨.agg ((arr.toList.drop off).take n).toArray,Y8 hn ha hvl hcell,.agg (by simp;omega) fun j u c h5 h6=>?_⟩
 have h5':((arr.toList.drop off).take n)[j]?=some u:=by simpa using h5
 rw [List.getElem?_take] at h5' h6;split at h6
 ·rename_i hj;rw [if_pos hj] at h5';rw [List.getElem?_drop] at h5' h6;exact h4 _ u c (by simpa using h5') h6
 ·cases h6
theorem zcH {t:TypeId} {d:TypeDesc} {x:Operand} {x':Ar} {k i off:Nat} {os:List (List V)} {cs:List V} {c:V} {p:List Bool} (hu:P.underlying t=some d) (ha:zI P t=false)
  (ho:o.op= .load t x) (hx:opA x=some x') (h1:rd gc st x'=(.fpt k i off,p)) (hp:∀q∈p,q) (hk:zi st.s.sto k=some (.yJ os)) (hi:os[i]?=some cs) (hc:cs[off]?=some c):zC P o gc st c:=by
 intro C Λ ac _ hg h;have hx1:=zf h hx h1 hp hg;generalize hv:ac.eval x=v at hx1
 cases hx1 with
 |@fpt b _ _ _ _ h'=>
  obtain ⟨arr,e,h2,h3,h4⟩:=h.s.z6z hk hi h';obtain ⟨u,e1,e2⟩:=z9F (P:=P) hu ha h2 (by omega) h4 hc
  exact ⟨u,by simp [execOp,ho,hv,e1],e2⟩
theorem zaZ {t:TypeId} {n:Nat} {x:Operand} {x':Ar} {k i off:Nat} {os:List (List V)} {cs:List V} {p:List Bool} (hn:Zs P t=some n) (ha:zI P t=true)
  (ho:o.op= .load t x) (hx:opA x=some x') (h1:rd gc st x'=(.fpt k i off,p)) (hp:∀q∈p,q) (hk:zi st.s.sto k=some (.yJ os)) (hi:os[i]?=some cs) (hl:off+n<=cs.length):
  zC P o gc st (.agg ((cs.drop off).take n)):=by
 intro C Λ ac _ hg h;have hx1:=zf h hx h1 hp hg;generalize hv:ac.eval x=v at hx1
 cases hx1 with
 |@fpt b _ _ _ _ h'=>
  obtain ⟨arr,e,h2,h3,h4⟩:=h.s.z6z hk hi h';obtain ⟨u,e1,e2⟩:=za6 (P:=P) hn ha h2 (by omega) h4 hl
  exact ⟨u,by simp [execOp,ho,hv,e1],e2⟩
theorem zcC {t:TypeId} {d:TypeDesc} {x:Operand} {x':Ar} {k ver off w:Nat} {cs:List V} {c:V} {p:List Bool} (hu:P.underlying t=some d) (ha:zI P t=false)
  (ho:o.op= .load t x) (hx:opA x=some x') (h1:rd gc st x'=(.gpt k ver off,p)) (hp:∀q∈p,q) (hk:zi st.s.sto k=some (.gro w cs)) (hw:ver=w) (hc:cs[off]?=some c):zC P o gc st c:=by
 intro C Λ ac _ hg h;have hx1:=zf h hx h1 hp hg;generalize hv:ac.eval x=v at hx1
 cases hx1 with
 |gpt _ _ _ g3=>
  obtain ⟨b,rfl,g4⟩:=g3 (hw.trans (h.s.sto k _ hk).2.1.symm);obtain ⟨arr,e,h2,h3,h4⟩:=h.s.QM hk g4;obtain ⟨u,e1,e2⟩:=z9F (P:=P) hu ha h2 h3 h4 hc
  exact ⟨u,by simp [execOp,ho,hv,e1],e2⟩
theorem zb2 {t:TypeId} {n:Nat} {x:Operand} {x':Ar} {k ver off w:Nat} {cs:List V} {p:List Bool} (hn:Zs P t=some n) (ha:zI P t=true)
  (ho:o.op= .load t x) (hx:opA x=some x') (h1:rd gc st x'=(.gpt k ver off,p)) (hp:∀q∈p,q) (hk:zi st.s.sto k=some (.gro w cs)) (hw:ver=w) (hl:off+n<=cs.length):
  zC P o gc st (.agg ((cs.drop off).take n)):=by
 intro C Λ ac _ hg h;have hx1:=zf h hx h1 hp hg;generalize hv:ac.eval x=v at hx1
 cases hx1 with
 |gpt _ _ _ g3=>
  obtain ⟨b,rfl,g4⟩:=g3 (hw.trans (h.s.sto k _ hk).2.1.symm);obtain ⟨arr,e,h2,h3,h4⟩:=h.s.QM hk g4;obtain ⟨u,e1,e2⟩:=za6 (P:=P) hn ha h2 h3 h4 hl
  exact ⟨u,by simp [execOp,ho,hv,e1],e2⟩
end
section
variable {P:Program} {o:Oper} {gc:Bool} {st:St}
theorem yv {t:TypeId} {n:Nat} (h:Zs P t=some n) (w:World):(sizeOf t).run P w= .ok n w:=by
 unfold Zs at h
 cases hi:P.info? t with
 |none=>rw [hi] at h;simp at h
 |some i=>rw [hi] at h;simp at h;subst h;simp [sizeOf,typeInfo,hi]
theorem run_indexAt_slice {t e:TypeId} {sz:Nat} (hu:P.underlying t=some (.slice e)) (hs:Zs P e=some sz) {b off len cap:Nat} {k:IntKind} {n:Int} (h0:0<=n) (h1:n<len) (w:World):
  (Instr.indexAt t (.slice (some ⟨b,off,none⟩) len cap) (.int k n)).run P w= .ok (.pointer (some ⟨b,off+n.toNat*sz,none⟩)) w:=by
 simp [Instr.indexAt,asIntOf,run_underlying hu,yv hs,h0,h1,ZW]
theorem run_indexAt_array {t e:TypeId} {m sz:Nat} (hu:P.underlying t=some (.array m e)) (hs:Zs P e=some sz) {b off:Nat} {k:IntKind} {n:Int} (h0:0<=n) (h1:n<m) (w:World):
  (Instr.indexAt t (.pointer (some ⟨b,off,none⟩)) (.int k n)).run P w= .ok (.pointer (some ⟨b,off+n.toNat*sz,none⟩)) w:=by
 simp [Instr.indexAt,asIntOf,run_underlying hu,yv hs,Instr.sureAddr,h0,h1,ZW]
theorem lt_of_getElem? {xs:List (List T)} {n:Int} {c:List T} (h0:0<=n) (h:xs[n.toNat]?=some c):n<xs.length:=by
 have:=(List.getElem?_eq_some_iff.1 h).1;omega
theorem ze9 {t e:TypeId} {sz:Nat} {x i:Operand} {x' i':Ar} {v:V} {k:IntKind} {n:Int} {xs:List (List T)} {c:List T} {p1 p2:List Bool}
  (hu:P.underlying t=some (.slice e)) (hs:Zs P e=some sz) (ho:o.op= .indexAddr t x i) (hx:opA x=some x') (hi:opA i=some i')
  (h1:rd gc st x'=(v,p1)) (h2:rd gc st i'=(.t (.int k n),p2)) (hv:v.zy=some (.lst xs)) (hc:xs[n.toNat]?=some c) (hsz:c.length=sz/\sz≠0)
  (hp:∀q∈p1++(p2++[decide (0<=n)]),q):zC P o gc st (.t (.ptr c)):=by
 intro C Λ ac _ hg h;have hx1:=zf h hx h1 (fun q hq=>hp q (by simp [hq])) hg;have hi1:=zf h hi h2 (fun q hq=>hp q (by simp [hq])) hg;have h0:0<=n:=zDT (hp _ (by simp));have e2:=hi1.Zv.ZS;have hr:=hx1.zy hv;generalize hv':ac.eval x=u at hr;have hlt:=lt_of_getElem? h0 hc
 cases hr with
 |lst a cap sz' _ b off vf _ hsz' ha hr' hc' hrep=>
  obtain ⟨hcl,hz⟩:=hsz;have e3:c.length=sz':=hsz' _ _ hc
  have esz:sz'=sz:=by omega
  subst esz
  have hlc:0<c.length:=by omega
  have h0c:c[0]?=some c[0]:=by simp [hlc]
  have ea:=ha n.toNat 0 c _ hc h0c;subst ea
  refine ⟨_,by simp only [execOp,ho,hv',e2];simp [run_indexAt_slice hu hs h0 hlt],.t (.ptr c b _ (vf n.toNat) (fun j y hj=>hr' n.toNat j c y hc hj) (fun j y hj=>hc' n.toNat j c y hc hj) (fun j y hj=>hrep n.toNat j c y hc hj))⟩
theorem za8 {t e:TypeId} {sz:Nat} {x i:Operand} {x' i':Ar} {k:IntKind} {n:Int} {q off len:Nat} {p1 p2:List Bool}
  (hu:P.underlying t=some (.slice e)) (hs:Zs P e=some sz) (ho:o.op= .indexAddr t x i) (hx:opA x=some x') (hi:opA i=some i')
  (h1:rd gc st x'=(.slc q off len sz,p1)) (h2:rd gc st i'=(.t (.int k n),p2)) (hp:∀q∈p1++(p2++[decide (0<=n),decide (n<(len:Int))]),q):zC P o gc st (.ptr q (off+n.toNat*sz)):=by
 intro C Λ ac _ hg h;have hx1:=zf h hx h1 (fun q hq=>hp q (by simp [hq])) hg;have hi1:=zf h hi h2 (fun q hq=>hp q (by simp [hq])) hg;have h0:0<=n:=zDT (hp _ (by simp));have hlt:n<len:=zDT (hp _ (by simp));have e2:=hi1.Zv.ZS;generalize hv':ac.eval x=u at hx1
 cases hx1 with
 |slc hk _ h'=>exact ⟨_,by simp only [execOp,ho,hv',e2];simp [run_indexAt_slice hu hs h0 hlt],.ptr hk h'⟩
theorem zcS {t e:TypeId} {sz:Nat} {x i:Operand} {x' i':Ar} {k:IntKind} {n:Int} {q ver off len w:Nat} {cs:List V} {p1 p2:List Bool}
  (hu:P.underlying t=some (.slice e)) (hs:Zs P e=some sz) (ho:o.op= .indexAddr t x i) (hx:opA x=some x') (hi:opA i=some i')
  (h1:rd gc st x'=(.gsl q ver off len sz,p1)) (h2:rd gc st i'=(.t (.int k n),p2)) (hk:zi st.s.sto q=some (.gro w cs)) (hp:∀q∈p1++(p2++[decide (0<=n),decide (n<(len:Int)),decide (0<w),decide (ver=w)]),q):zC P o gc st (.gpt q ver (off+n.toNat*sz)):=by
 intro C Λ ac _ hg h;have hx1:=zf h hx h1 (fun q hq=>hp q (by simp [hq])) hg;have hi1:=zf h hi h2 (fun q hq=>hp q (by simp [hq])) hg;have h0:0<=n:=zDT (hp _ (by simp));have hlt:n<len:=zDT (hp _ (by simp));have hw:ver=w:=zDT (hp _ (by simp));have e2:=hi1.Zv.ZS;generalize hv':ac.eval x=u at hx1
 cases hx1 with
 |gsl _ hk1 hn1 h'=>
  rcases h' (hw.trans (h.s.sto q _ hk).2.1.symm) with ⟨_,hl⟩|⟨b,cap,N,rfl,hc,hb,hN,he⟩
  ·omega
  ·exact ⟨_,by simp only [execOp,ho,hv',e2];simp [run_indexAt_slice hu hs h0 hlt],.gpt ⟨_,rfl⟩ hk1 ⟨Nat.pos_of_ne_zero (fun h0=>by have:=(hn1.1 h0).2;omega),hn1.2⟩ (fun _=>⟨b,rfl,hb⟩)⟩
theorem z9W {t e:TypeId} {m sz:Nat} {x i:Operand} {x' i':Ar} {k:IntKind} {n:Int} {v r:V} {p1 p2:List Bool}
  (hu:P.underlying t=some (.array m e)) (hs:Zs P e=some sz) (ho:o.op= .indexAddr t x i) (hx:opA x=some x') (hi:opA i=some i')
  (h1:rd gc st x'=(v,p1)) (h2:rd gc st i'=(.t (.int k n),p2)) (hp:∀q∈p1++(p2++[decide (0<=n),decide (n<(m:Int))]),q)
  (hv:(∃a b,v= .ptr a b/\r= .ptr a (b+n.toNat*sz))∨∃c,v= .t (.ptr c)/\r= .t (.ptr (c.drop (n.toNat*sz)))):zC P o gc st r:=by
 intro C Λ ac _ hg h;have hx1:=zf h hx h1 (fun q hq=>hp q (by simp [hq])) hg;have hi1:=zf h hi h2 (fun q hq=>hp q (by simp [hq])) hg;have h0:0<=n:=zDT (hp _ (by simp));have hlt:n<m:=zDT (hp _ (by simp));have e2:=hi1.Zv.ZS
 rcases hv with ⟨a,b,rfl,rfl⟩|⟨c,rfl,rfl⟩
 ·generalize hv':ac.eval x=u at hx1
  cases hx1 with
  |ptr hk h'=>exact ⟨_,by simp only [execOp,ho,hv',e2];simp [run_indexAt_array hu hs h0 hlt],.ptr hk h'⟩
 ·have hr:=hx1.Zv;obtain ⟨b,o',hv'⟩:=hr.z0O;rw [hv'] at hr
  exact ⟨_,by simp only [execOp,ho,hv',e2];simp [run_indexAt_array hu hs h0 hlt],.t hr.z4f⟩
theorem zdH {t:TypeId} {x i:Operand} {x' i':Ar} {k:IntKind} {n:Int} {s:List UInt8} {b:UInt8} {p1 p2:List Bool}
  (hu:P.underlying t=some .string) (ho:o.op= .index t x i) (hx:opA x=some x') (hi:opA i=some i')
  (h1:rd gc st x'=(.t (.str s),p1)) (h2:rd gc st i'=(.t (.int k n),p2)) (hb:s[n.toNat]?=some b) (hp:∀q∈p1++(p2++[decide (0<=n)]),q):zC P o gc st (.t (.int .u8 b.toNat)):=by
 intro C Λ ac _ hg h;have hx1:=zf h hx h1 (fun q hq=>hp q (by simp [hq])) hg;have hi1:=zf h hi h2 (fun q hq=>hp q (by simp [hq])) hg;have h0:0<=n:=zDT (hp _ (by simp));have e1:=hx1.Zv.YY;have e2:=hi1.Zv.ZS
 have e3:(⟨⟨s⟩⟩:ByteArray)[n.toNat]?=some b:=by
  have hlt:=(List.getElem?_eq_some_iff.1 hb).1;rw [getElem?_pos (⟨⟨s⟩⟩:ByteArray) n.toNat (by exact hlt)];obtain ⟨_,rfl⟩:=List.getElem?_eq_some_iff.1 hb;rfl
 refine ⟨.int .u8 b.toNat,?_,.t (.int _ _)⟩;simp only [execOp,ho,e1,e2];simp [Instr.index,asIntOf,run_underlying hu,h0,e3]
theorem QG {t:TypeId} {d:TypeDesc} (hu:P.underlying t=some d) (ha:zI P t=false) {vs:Array Value} {off:Nat} {v:Value} (hv:vs[off]?=some v) (w:World):(part t vs off).run P w= .ok v w:=by
 have hagg:(isAgg t).run P w= .ok false w:=by
  unfold isAgg;rw [Sem.run_bind,run_underlying hu w];unfold zI at ha;rw [hu] at ha
  cases d<;>simp_all
 simp [part,hagg,hv]
theorem z1h {t:TypeId} {n:Nat} (hn:Zs P t=some n) (ha:zI P t=true) {vs:Array Value} {off:Nat} (w:World):(part t vs off).run P w= .ok (.agg (vs.extract off (off+n))) w:=by
 have hagg:(isAgg t).run P w= .ok true w:=by
  unfold isAgg;unfold zI at ha
  cases hu:P.underlying t with
  |none=>rw [hu] at ha;simp at ha
  |some d=>
   rw [hu] at ha;rw [Sem.run_bind,run_underlying hu w]
   cases d<;>simp_all
 simp [part,hagg,yv hn]
theorem zn.sub {Λ:L} {vs:Array Value} {cs:List V} (hs:vs.size=cs.length) (h:∀(j:Nat) (v:Value) (c:V),vs[j]?=some v->cs[j]?=some c->zn Λ v c) {off n:Nat} (_:off+n<=cs.length):
  zn Λ (.agg (vs.extract off (off+n))) (.agg ((cs.drop off).take n)):=by
 have:=zn.zd3 (Λ:=Λ) (vs:=vs.toList) (cs:=cs) (fun j v c e1 e2=>h j v c (by simpa using e1) e2) (by simpa using hs) off n
 have e:((vs.toList.drop off).take n).toArray=vs.extract off (off+n):=by
  apply Array.ext';simp [Nat.add_sub_cancel_left]
 rwa [e] at this
theorem zds {t:TypeId} {fs:Array Field} {f:Nat} {fd:Field} {d:TypeDesc} {x:Operand} {x':Ar} {cs:List V} {c:V} {p:List Bool} (hu:P.underlying t=some (.struct fs)) (hf:fs[f]?=some fd)
  (hd:P.underlying fd.type=some d) (ha:zI P fd.type=false)
  (ho:o.op= .field t x f) (hx:opA x=some x') (h1:rd gc st x'=(.agg cs,p)) (hp:∀q∈p,q) (hc:cs[fd.offset]?=some c):zC P o gc st c:=by
 intro C Λ ac _ hg h;have hx1:=zf h hx h1 hp hg;generalize hv':ac.eval x=u at hx1
 cases hx1 with
 |@agg vs _ hs h'=>
  have hlt:=(List.getElem?_eq_some_iff.1 hc).1
  have hg':vs[fd.offset]?=some (vs[fd.offset]'(by omega)):=by simp
  refine ⟨_,?_,(h' _ _ c hg' hc)⟩;simp only [execOp,ho,hv'];simp [Instr.field,run_underlying hu,hf,asAgg,QG hd ha hg']
theorem zcZ {t:TypeId} {fs:Array Field} {f:Nat} {fd:Field} {n:Nat} {x:Operand} {x':Ar} {cs:List V} {p:List Bool} (hu:P.underlying t=some (.struct fs)) (hf:fs[f]?=some fd)
  (hn:Zs P fd.type=some n) (ha:zI P fd.type=true)
  (ho:o.op= .field t x f) (hx:opA x=some x') (h1:rd gc st x'=(.agg cs,p)) (hp:∀q∈p,q) (hl:fd.offset+n<=cs.length):zC P o gc st (.agg (((cs.drop fd.offset).take n))):=by
 intro C Λ ac _ hg h;have hx1:=zf h hx h1 hp hg;generalize hv':ac.eval x=u at hx1
 cases hx1 with
 |@agg vs _ hs h'=>
  refine ⟨_,?_,zn.sub hs h' hl⟩;simp only [execOp,ho,hv'];simp [Instr.field,run_underlying hu,hf,asAgg,z1h hn ha]
theorem zdJ {t e:TypeId} {m sz:Nat} {d:TypeDesc} {x i:Operand} {x' i':Ar} {k:IntKind} {n:Int} {cs:List V} {c:V} {p1 p2:List Bool}
  (hu:P.underlying t=some (.array m e)) (hs:Zs P e=some sz) (hd:P.underlying e=some d) (ha:zI P e=false) (ho:o.op= .index t x i) (hx:opA x=some x') (hi:opA i=some i')
  (h1:rd gc st x'=(.agg cs,p1)) (h2:rd gc st i'=(.t (.int k n),p2)) (hc:cs[n.toNat*sz]?=some c) (hp:∀q∈p1++(p2++[decide (0<=n),decide (n<(m:Int))]),q):zC P o gc st c:=by
 intro C Λ ac _ hg h;have hx1:=zf h hx h1 (fun q hq=>hp q (by simp [hq])) hg;have hi1:=zf h hi h2 (fun q hq=>hp q (by simp [hq])) hg;have h0:0<=n:=zDT (hp _ (by simp));have hlt:n<m:=zDT (hp _ (by simp));have e2:=hi1.Zv.ZS;generalize hv':ac.eval x=u at hx1
 cases hx1 with
 |@agg vs _ hs' h'=>
  have hlt':=(List.getElem?_eq_some_iff.1 hc).1
  have hg':vs[n.toNat*sz]?=some (vs[n.toNat*sz]'(by omega)):=by simp
  refine ⟨_,?_,(h' _ _ c hg' hc)⟩;simp only [execOp,ho,hv',e2];simp [Instr.index,asIntOf,run_underlying hu,h0,hlt,yv hs,QG hd ha hg']
theorem zdn {t e:TypeId} {m sz:Nat} {x i:Operand} {x' i':Ar} {k:IntKind} {n:Int} {cs:List V} {p1 p2:List Bool}
  (hu:P.underlying t=some (.array m e)) (hs:Zs P e=some sz) (ha:zI P e=true) (ho:o.op= .index t x i) (hx:opA x=some x') (hi:opA i=some i')
  (h1:rd gc st x'=(.agg cs,p1)) (h2:rd gc st i'=(.t (.int k n),p2)) (hl:n.toNat*sz+sz<=cs.length) (hp:∀q∈p1++(p2++[decide (0<=n),decide (n<(m:Int))]),q):
  zC P o gc st (.agg (((cs.drop (n.toNat*sz)).take sz))):=by
 intro C Λ ac _ hg h;have hx1:=zf h hx h1 (fun q hq=>hp q (by simp [hq])) hg;have hi1:=zf h hi h2 (fun q hq=>hp q (by simp [hq])) hg;have h0:0<=n:=zDT (hp _ (by simp));have hlt:n<m:=zDT (hp _ (by simp));have e2:=hi1.Zv.ZS;generalize hv':ac.eval x=u at hx1
 cases hx1 with
 |@agg vs _ hs' h'=>
  refine ⟨_,?_,zn.sub hs' h' hl⟩;simp only [execOp,ho,hv',e2];simp [Instr.index,asIntOf,run_underlying hu,h0,hlt,yv hs,z1h hs ha]
theorem z3d {t:TypeId} {x:Operand} {x':Ar} {args:Array Operand} {ats:Array TypeId} {d:TypeDesc} {v:V} {n:Nat} {p:List Bool} (ha:args[0]?=some x) (hat:ats[0]?=some t) (hu:P.underlying t=some d)
  (hd:d= .string∨∃e,d= .slice e) (ho:o.op= .call {callee:= .builtin .len,args:=args,argTypes:=ats}) (hx:opA x=some x') (h1:rd gc st x'=(v,p)) (hp:∀q∈p,q)
  (hv:(d= .string/\∃s,v= .t (.str s)/\n=s.length)∨((∃e,d= .slice e)/\((∃xs,v.zy=some (.lst xs)/\n=xs.length)∨∃a b c,v= .slc a b n c))):zC P o gc st (.t (.int .i64 n)):=by
 intro C Λ ac _ hg h;have hx1:=zf h hx h1 hp hg
 have hax:(args.map ac.eval)[0]?=some (ac.eval x):=by simp [ha]
 refine ⟨.int .i64 n,?_,.t (.int _ _)⟩
 rcases hv with ⟨rfl,s,rfl,rfl⟩|⟨⟨e,rfl⟩,⟨xs,hc,rfl⟩|⟨a,b,c,rfl⟩⟩
 ·have e1:=hx1.Zv.YY;rw [e1] at hax;simp only [execOp,ho,resolve,Sem.run_bind,Sem.run_pure,Result.andThen_ok,invoke,builtin];simp [Builtin.len_,hat,hax,run_underlying hu,goInt];rfl
 ·have hr:=hx1.zy hc;generalize hv':ac.eval x=u at hr hax
  cases hr with
  |lst a cap sz _ b off vf _ h1 h2 h3 h4 h5=>
   simp only [execOp,ho,resolve,Sem.run_bind,Sem.run_pure,Result.andThen_ok,invoke,builtin];simp [Builtin.len_,hat,hax,run_underlying hu,goInt]
 ·generalize hv':ac.eval x=u at hx1 hax
  cases hx1 with
  |slc hk _ h'=>
   simp only [execOp,ho,resolve,Sem.run_bind,Sem.run_pure,Result.andThen_ok,invoke,builtin];simp [Builtin.len_,hat,hax,run_underlying hu,goInt]
theorem zbi {t:TypeId} {x:Operand} {x':Ar} {args:Array Operand} {ats:Array TypeId} {e:TypeId} {k ver off n sz w:Nat} {cs:List V} {p:List Bool} (ha:args[0]?=some x) (hat:ats[0]?=some t) (hu:P.underlying t=some (.slice e))
  (ho:o.op= .call {callee:= .builtin .len,args:=args,argTypes:=ats}) (hx:opA x=some x') (h1:rd gc st x'=(.gsl k ver off n sz,p)) (hp:∀q∈p,q) (hk:zi st.s.sto k=some (.gro w cs)) (hw:ver=w):zC P o gc st (.t (.int .i64 n)):=by
 intro C Λ ac _ hg h;have hx1:=zf h hx h1 hp hg
 have hax:(args.map ac.eval)[0]?=some (ac.eval x):=by simp [ha]
 refine ⟨.int .i64 n,?_,.t (.int _ _)⟩;generalize hv':ac.eval x=u at hx1 hax
 cases hx1 with
 |gsl _ hk1 hn1 h'=>
  rcases h' (hw.trans (h.s.sto k _ hk).2.1.symm) with ⟨⟨a,rfl⟩,hl⟩|⟨b,cap,N,rfl,hc,hb,hN,he⟩
  ·subst hl;simp only [execOp,ho,resolve,Sem.run_bind,Sem.run_pure,Result.andThen_ok,invoke,builtin];simp [Builtin.len_,hat,hax,run_underlying hu,goInt]
  ·simp only [execOp,ho,resolve,Sem.run_bind,Sem.run_pure,Result.andThen_ok,invoke,builtin];simp [Builtin.len_,hat,hax,run_underlying hu,goInt]
end
section
variable {P:Program} {o:Oper} {gc:Bool} {st:St}
theorem extract_mk (s:List UInt8) (l h:Nat):(⟨⟨s⟩⟩:ByteArray).extract l h=⟨⟨(s.take h).drop l⟩⟩:=by
 apply ByteArray.ext;apply Array.ext';rw [Lib.extract_data];simp [List.drop_take]
theorem qD {k:IntKind} {n:Int} {y:Nat} (h0:0<=n) (h1:n<=y) (c:BoundsCode) (w:World):(Instr.sliceBound (.int k n) y c).run P w= .ok n.toNat w:=by
 simp [Instr.sliceBound,asIntOf,h0,h1]
theorem Y4 {C:Ctx} {Λ:L} {ac:Act} (h:Rel C Λ st ac) {y:Option Operand} {x:Option Ar} (hy:qZ y=some x) {d n:Int} {p:List Bool} (hb:bnd x gc st d=some (n,p))
  (hp:∀q∈p,q) (hg:gc=true):(y=none/\n=d)∨∃z k,y=some z/\ac.eval z= .int k n:=by
 cases y with
 |none=>
  simp [qZ] at hy;subst hy;simp [bnd] at hb;exact .inl ⟨rfl,hb.1.symm⟩
 |some z=>
  simp only [qZ,Option.map_eq_some_iff] at hy;obtain ⟨a,ha,rfl⟩:=hy;simp only [bnd] at hb;split at hb
  ·rename_i m q hr;simp at hb;obtain ⟨rfl,rfl⟩:=hb;have hv:=zf h ha hr hp hg;exact .inr ⟨z,_,rfl,hv.Zv.ZS⟩
  ·simp at hb
theorem yu {b:Bool} {len cap:Nat} {lo hi:Option Value} {l h:Int} (hlo:lo=none/\l=0∨∃k,lo=some (.int k l)) (hhi:hi=none/\h=len∨∃k,hi=some (.int k h))
  (h0:0<=l) (h1:l<=h) (h2:h<=cap) (w:World):(Instr.sliceBounds b len cap lo hi none).run P w= .ok (l.toNat,h.toNat,cap) w:=by
 rcases hhi with ⟨rfl,rfl⟩|⟨k,rfl⟩
 ·rcases hlo with ⟨rfl,rfl⟩|⟨k',rfl⟩
  ·simp [Instr.sliceBounds]
  ·simp [Instr.sliceBounds,qD h0 h1]
 ·have hh:0<=h:=by omega
  rcases hlo with ⟨rfl,rfl⟩|⟨k',rfl⟩
  ·simp [Instr.sliceBounds,qD hh h2]
  ·simp [Instr.sliceBounds,qD hh h2,qD (y:=h.toNat) h0 (by omega)]
theorem zdB {t:TypeId} {x:Operand} {lo hi:Option Operand} {x':Ar} {lo' hi':Option Ar} {s:List UInt8} {l h:Int} {p p1 p2:List Bool} (hu:P.underlying t=some .string)
  (ho:o.op= .slice t x lo hi none) (hx:opA x=some x') (hl:qZ lo=some lo') (hh:qZ hi=some hi') (h1:rd gc st x'=(.t (.str s),p))
  (h2:bnd lo' gc st 0=some (l,p1)) (h3:bnd hi' gc st s.length=some (h,p2)) (hp:∀q∈p++(p1++(p2++[decide (0<=l),decide (l<=h),decide (h<=(s.length:Int))])),q):
  zC P o gc st (.t (.str ((s.take h.toNat).drop l.toNat))):=by
 intro C Λ ac _ hg hr;have hx1:=zf hr hx h1 (fun q hq=>hp q (by simp [hq])) hg;have e1:=hx1.Zv.YY;have b1:=Y4 hr hl h2 (fun q hq=>hp q (by simp [hq])) hg;have b2:=Y4 hr hh h3 (fun q hq=>hp q (by simp [hq])) hg;have g0:0<=l:=zDT (hp _ (by simp));have g1:l<=h:=zDT (hp _ (by simp));have g2:h<=s.length:=zDT (hp _ (by simp));refine ⟨.string ⟨⟨(s.take h.toNat).drop l.toNat⟩⟩,?_,.t (.str _)⟩
 have hb:=yu (P:=P) (b:=false) (len:=s.length) (cap:=s.length) (lo:=lo.map ac.eval) (hi:=hi.map ac.eval) (l:=l) (h:=h)
  (by rcases b1 with ⟨rfl,rfl⟩|⟨z,k,rfl,e⟩<;>simp [*]) (by rcases b2 with ⟨rfl,rfl⟩|⟨z,k,rfl,e⟩<;>simp [*]) g0 g1 g2 Λ.w
 have hs:(⟨⟨s⟩⟩:ByteArray).size=s.length:=rfl;simp only [execOp,ho,e1,Option.map_none];simp [Instr.sliceAt,Instr.slice,run_underlying hu,hs,hb,extract_mk]
theorem W3 {sz:Nat} {xs:List (List T)} (h:ye sz xs=true) (i:Nat) (c:List T) (hc:xs[i]?=some c):c.length=sz:=by
 unfold ye at h;rw [List.all_eq_true] at h;simpa using h c (zMG hc)
theorem zO.sub {lb:Nat->Lab} {w:World} {a:Option Addr} {n cap sz l h:Nat} {xs:List (List T)} (hr:zO lb w (.slice a n cap) (.lst xs)) (hsz:∀(i:Nat) (c:List T),xs[i]?=some c->c.length=sz)
  (h1:l<=h) (h2:h<=xs.length):zO lb w (.slice (if cap=l then a else a.map (·.add (l*sz))) (h - l) (cap - l)) (.lst ((xs.take h).drop l)):=by
 cases hr with
 |lst _ _ sz' _ b off vf hcap hsz' ha hr' hc' hrep=>
  have hlen:((xs.take h).drop l).length=h - l:=by simp;omega
  have hget:∀(i:Nat) (c:List T),((xs.take h).drop l)[i]?=some c->xs[l+i]?=some c/\l+i<h:=by
   intro i c hi;rw [List.getElem?_drop,List.getElem?_take] at hi;split at hi
   ·exact ⟨hi,by assumption⟩
   ·cases hi
  have key:zO lb w (.slice (if cap=l then a else a.map (·.add (l*sz))) ((xs.take h).drop l).length (cap - l)) (.lst ((xs.take h).drop l)):=by
   refine .lst _ _ sz' _ b (off+l*sz') (fun i j=>vf (l+i) j) (by rw [hlen];omega) (fun i c hi=>hsz' _ c (hget i c hi).1) ?_ ?_ ?_ ?_
   ·intro i j c x hi hj;have:=(hget i c hi);have ea:=ha _ j c x this.1 hj;subst ea
    have:cap≠l:=by omega
    have e1:=hsz _ c (hget i c hi).1;have e2:=hsz' _ c (hget i c hi).1
    have:sz=sz':=by omega
    subst this;simp [*,ZW]
   ·intro i j c x hi hj;have:=hr' _ j c x (hget i c hi).1 hj
    rwa [Nat.add_mul,←Nat.add_assoc] at this
   ·intro i j c x hi hj;have:=hc' _ j c x (hget i c hi).1 hj
    rwa [Nat.add_mul,←Nat.add_assoc] at this
   ·intro i j c x hi hj;exact hrep _ j c x (hget i c hi).1 hj
  rwa [hlen] at key
theorem zdu {t e:TypeId} {sz:Nat} {x:Operand} {lo hi:Option Operand} {x':Ar} {lo' hi':Option Ar} {v:V} {xs:List (List T)} {l h:Int} {p p1 p2:List Bool} (hu:P.underlying t=some (.slice e)) (hs:Zs P e=some sz)
  (ho:o.op= .slice t x lo hi none) (hx:opA x=some x') (hl:qZ lo=some lo') (hh:qZ hi=some hi') (h1:rd gc st x'=(v,p)) (hv:v.zy=some (.lst xs))
  (h2:bnd lo' gc st 0=some (l,p1)) (h3:bnd hi' gc st xs.length=some (h,p2)) (hp:∀q∈p++(p1++(p2++[decide (0<=l),decide (l<=h),decide (h<=(xs.length:Int)),ye sz xs])),q):
  zC P o gc st (.t (.lst ((xs.take h.toNat).drop l.toNat))):=by
 intro C Λ ac _ hg hr;have hx1:=zf hr hx h1 (fun q hq=>hp q (by simp [hq])) hg;have b1:=Y4 hr hl h2 (fun q hq=>hp q (by simp [hq])) hg;have b2:=Y4 hr hh h3 (fun q hq=>hp q (by simp [hq])) hg;have g0:0<=l:=zDT (hp _ (by simp));have g1:l<=h:=zDT (hp _ (by simp));have g2:h<=xs.length:=zDT (hp _ (by simp));have hsz:=W3 (hp (ye sz xs) (by simp));have hrx:=hx1.zy hv;generalize hv':ac.eval x=u at hrx;have hrx':=hrx
 cases hrx with
 |lst a cap sz' _ b off vf hcap _ _ _ _ _=>
  have hb:=yu (P:=P) (b:=true) (len:=xs.length) (cap:=cap) (lo:=lo.map ac.eval) (hi:=hi.map ac.eval) (l:=l) (h:=h)
   (by rcases b1 with ⟨rfl,rfl⟩|⟨z,k,rfl,e⟩<;>simp [*]) (by rcases b2 with ⟨rfl,rfl⟩|⟨z,k,rfl,e⟩<;>simp [*]) g0 g1 (by omega) Λ.w
  refine ⟨_,?_,.t (hrx'.sub hsz (l:=l.toNat) (h:=h.toNat) (by omega) (by omega))⟩;simp only [execOp,ho,hv',Option.map_none];simp [Instr.sliceAt,Instr.slice,run_underlying hu,hb,yv hs]
theorem zdA {t e:TypeId} {sz:Nat} {x:Operand} {lo hi:Option Operand} {x':Ar} {lo' hi':Option Ar} {q off len s:Nat} {l h:Int} {p p1 p2:List Bool} (hu:P.underlying t=some (.slice e)) (hs:Zs P e=some sz)
  (ho:o.op= .slice t x lo hi none) (hx:opA x=some x') (hl:qZ lo=some lo') (hh:qZ hi=some hi') (h1:rd gc st x'=(.slc q off len s,p))
  (h2:bnd lo' gc st 0=some (l,p1)) (h3:bnd hi' gc st len=some (h,p2)) (hp:∀b∈p++(p1++(p2++[decide (l=0),decide (0<=h),decide (h<=(len:Int)),s==sz])),b):
  zC P o gc st (.slc q off h.toNat s):=by
 intro C Λ ac _ hg hr;have hx1:=zf hr hx h1 (fun b hb=>hp b (by simp [hb])) hg;have b1:=Y4 hr hl h2 (fun b hb=>hp b (by simp [hb])) hg;have b2:=Y4 hr hh h3 (fun b hb=>hp b (by simp [hb])) hg;have g0:l=0:=zDT (hp _ (by simp));have g1:0<=h:=zDT (hp _ (by simp));have g2:h<=len:=zDT (hp _ (by simp));subst g0;generalize hv':ac.eval x=u at hx1
 cases hx1 with
 |@slc b _ _ _ cap _ hk hc h'=>
  have hb:=yu (P:=P) (b:=true) (len:=len) (cap:=cap) (lo:=lo.map ac.eval) (hi:=hi.map ac.eval) (l:=0) (h:=h)
   (by rcases b1 with ⟨rfl,h0⟩|⟨z,k,rfl,e⟩<;>simp [*]) (by rcases b2 with ⟨rfl,rfl⟩|⟨z,k,rfl,e⟩<;>simp [*]) (by omega) g1 (by omega) Λ.w
  have hcap:h.toNat<=cap:=by omega
  refine ⟨_,?_,.slc hk hcap h'⟩;simp only [execOp,ho,hv',Option.map_none];simp [Instr.sliceAt,Instr.slice,run_underlying hu,hb,yv hs];intro _;simp [Addr.add]
theorem ze0 {t e:TypeId} {sz:Nat} {x:Operand} {lo hi:Option Operand} {x':Ar} {lo' hi':Option Ar} {q ver off len s w:Nat} {cs:List V} {l h:Int} {p p1 p2:List Bool} (hu:P.underlying t=some (.slice e)) (hs:Zs P e=some sz)
  (ho:o.op= .slice t x lo hi none) (hx:opA x=some x') (hl:qZ lo=some lo') (hh:qZ hi=some hi') (h1:rd gc st x'=(.gsl q ver off len s,p))
  (h2:bnd lo' gc st 0=some (l,p1)) (h3:bnd hi' gc st len=some (h,p2)) (hp:∀b∈p++(p1++(p2++[decide (0<=l),decide (l<=h),decide (h<=(len:Int)),s==sz,decide (ver=w)])),b) (hk:zi st.s.sto q=some (.gro w cs)):
  zC P o gc st (.gsl q ver (off+l.toNat*s) (h.toNat - l.toNat) s):=by
 intro C Λ ac _ hg hr;have hx1:=zf hr hx h1 (fun b hb=>hp b (by simp [hb])) hg;have b1:=Y4 hr hl h2 (fun b hb=>hp b (by simp [hb])) hg;have b2:=Y4 hr hh h3 (fun b hb=>hp b (by simp [hb])) hg;have g0:0<=l:=zDT (hp _ (by simp));have g1:l<=h:=zDT (hp _ (by simp));have g2:h<=len:=zDT (hp _ (by simp));have hw:ver=w:=zDT (hp _ (by simp));have hse:(s==sz)=true:=hp _ (by simp)
 have hse':s=sz:=by simpa using hse
 subst hse';generalize hv':ac.eval x=u at hx1
 cases hx1 with
 |gsl _ hk1 hn1 h'=>
  rcases h' (hw.trans (hr.s.sto q _ hk).2.1.symm) with ⟨⟨a,rfl⟩,hl0⟩|⟨b,cap,N,rfl,hc,hb,hN,he⟩
  ·subst hl0
   have hl':l=0:=by omega
   have hh':h=0:=by omega
   subst hl' hh'
   have hb:=yu (P:=P) (b:=true) (len:=0) (cap:=0) (lo:=lo.map ac.eval) (hi:=hi.map ac.eval) (l:=0) (h:=0)
    (b1.elim (fun ⟨e0,e1⟩=> .inl ⟨by rw [e0];rfl,e1⟩) (fun ⟨z,k,e0,e1⟩=> .inr ⟨k,by rw [e0];simp [e1]⟩)) (b2.elim (fun ⟨e0,e1⟩=> .inl ⟨by rw [e0];rfl,e1⟩) (fun ⟨z,k,e0,e1⟩=> .inr ⟨k,by rw [e0];simp [e1]⟩)) (by omega) (by omega) (by omega) Λ.w
   refine ⟨.slice a 0 0,?_,.gsl ⟨_,_,_,rfl⟩ hk1 ⟨fun _=>⟨⟨_,rfl⟩,by simp⟩,hn1.2⟩ (fun _=> .inl ⟨⟨_,rfl⟩,by simp⟩)⟩
   simp only [execOp,ho,hv',Option.map_none];simp [Instr.sliceAt,Instr.slice,run_underlying hu,hb,yv hs]
  ·have hb1:=yu (P:=P) (b:=true) (len:=len) (cap:=cap) (lo:=lo.map ac.eval) (hi:=hi.map ac.eval) (l:=l) (h:=h)
    (b1.elim (fun ⟨e0,e1⟩=> .inl ⟨by rw [e0];rfl,e1⟩) (fun ⟨z,k,e0,e1⟩=> .inr ⟨k,by rw [e0];simp [e1]⟩)) (b2.elim (fun ⟨e0,e1⟩=> .inl ⟨by rw [e0];rfl,e1⟩) (fun ⟨z,k,e0,e1⟩=> .inr ⟨k,by rw [e0];simp [e1]⟩)) g0 g1 (by omega) Λ.w
   by_cases hcl:cap=l.toNat
   ·
    refine ⟨.slice (some ⟨b,off,none⟩) 0 0,?_,.gsl ⟨_,_,_,rfl⟩ hk1 ⟨fun _=>⟨⟨_,rfl⟩,by omega⟩,hn1.2⟩ (fun _=> .inl ⟨⟨_,rfl⟩,by omega⟩)⟩
    simp only [execOp,ho,hv',Option.map_none];rw [hcl] at hb1 hc;simp [Instr.sliceAt,Instr.slice,run_underlying hu,hb1,yv hs,hcl];omega
   ·refine ⟨.slice (some ⟨b,off+l.toNat*s,none⟩) (h.toNat - l.toNat) (cap - l.toNat),?_,.gsl ⟨_,_,_,rfl⟩ hk1 ⟨fun h0=>by obtain ⟨⟨a',e'⟩,_⟩:=hn1.1 h0;simp at e';omega,hn1.2⟩ (fun _=> .inr ⟨b,cap - l.toNat,N,rfl,by omega,hb,hN,?_⟩)⟩
    ·simp only [execOp,ho,hv',Option.map_none];simp [Instr.sliceAt,Instr.slice,run_underlying hu,hb1,yv hs,Addr.add,hcl]
    ·have:l.toNat<=cap:=by omega
     rw [←he,Nat.add_assoc,←Nat.add_mul];congr 2;omega
theorem zcj {b:Bool} {x y:Operand} {x' y':Ar} {args:Array Operand} {ats:Array TypeId} {k:IntKind} {m n:Int} {p1 p2:List Bool} (ha:args.toList=[x,y])
  (ho:o.op= .call {callee:= .builtin (if b then .max else .min),args:=args,argTypes:=ats}) (hx:opA x=some x') (hy:opA y=some y')
  (h1:rd gc st x'=(.t (.int k m),p1)) (h2:rd gc st y'=(.t (.int k n),p2)) (hp:∀q∈p1++p2,q):
  zC P o gc st (.t (.int k (if b then (if n>m then n else m) else (if n<m then n else m)))):=by
 intro C Λ ac _ hg h;have hx1:=zf h hx h1 (fun q hq=>hp q (by simp [hq])) hg;have hy1:=zf h hy h2 (fun q hq=>hp q (by simp [hq])) hg;have e1:=hx1.Zv.ZS;have e2:=hy1.Zv.ZS
 have hm:args.toList.map ac.eval=[.int k m,.int k n]:=by simp [ha,e1,e2]
 refine ⟨_,?_,.t (.int _ _)⟩;cases b
 ·simp only [execOp,ho,resolve,Sem.run_bind,Sem.run_pure,Result.andThen_ok,invoke,builtin,Bool.false_eq_true,if_false];simp [Builtin.min_,Builtin.min2,hm]
 ·simp only [execOp,ho,resolve,Sem.run_bind,Sem.run_pure,Result.andThen_ok,invoke,builtin,if_true];simp [Builtin.max_,Builtin.max2,hm]
end
section
variable {P:Program} {o:Oper} {gc:Bool} {st:St}
def Yb (Λ:L) (arr:Array Value) (cs:List V):Prop:=
 arr.size=cs.length/\∀(j:Nat) (v:Value) (c:V),arr[j]?=some v->cs[j]?=some c->zn Λ v c
theorem Yb.set {Λ:L} {arr:Array Value} {cs:List V} (h:Yb Λ arr cs) {i:Nat} {v:Value} {c:V} (hv:zn Λ v c):Yb Λ (arr.setIfInBounds i v) (cs.set i c):=by
 refine ⟨by simp [h.1],fun j u x hu hx=>?_⟩
 rw [Array.getElem?_setIfInBounds] at hu;rw [List.getElem?_set] at hx;by_cases e:i=j
 ·subst e;by_cases hlt:i<arr.size
  ·have hlt':i<cs.length:=by rw [←h.1];exact hlt
   simp [hlt] at hu;simp [hlt'] at hx;subst hu;subst hx;exact hv
  ·simp [hlt] at hu
 ·simp only [e,if_false] at hu hx;exact h.2 j u x hu hx
theorem Yb.foldl {Λ:L} (off:Nat):∀(vs:List Value) (us:List V) (s:Nat) (arr:Array Value) (cs:List V),vs.length=us.length->
  (∀(j:Nat) (v:Value) (c:V),vs[j]?=some v->us[j]?=some c->zn Λ v c)->Yb Λ arr cs->
  Yb Λ ((vs.zipIdx s).foldl (fun cs (c,j)=>cs.setIfInBounds (off+j) c) arr) (setAt cs (off+s) us)
 |[],[],s,arr,cs,_,_,h=>by simpa [setAt] using h
 |v::vs,u::us,s,arr,cs,hl,hv,h=>by
  simp only [List.zipIdx_cons,List.foldl_cons,setAt];rw [Nat.add_assoc];exact Yb.foldl off vs us (s+1) _ _ (by simpa using hl) (fun j a b h1 h2=>hv (j+1) a b (by simpa using h1) (by simpa using h2)) (h.set (hv 0 v u Z Z))
 |[],_::_,_,_,_,hl,_,_=>by simp at hl
 |_::_,[],_,_,_,hl,_,_=>by simp at hl
theorem Yd:∀(us:List V) (cs:List V) (off:Nat),(setAt cs off us).length=cs.length
 |[],_,_=>rfl
 |u::us,cs,off=>by simp [setAt,Yd us]
theorem zn.parts {Λ:L} {v:Value} {x:V} {ps:List V} (h:zn Λ v x) (hp:x.parts=some ps):Yb Λ v.cells ps:=by
 have one:∀{v:Value} {y:V},v.cells=#[v]->zn Λ v y->Yb Λ v.cells [y]:=by
  intro v y hv hy;rw [hv];refine ⟨rfl,fun j u c hu hc=>?_⟩
  cases j with
  |zero=>simp at hu hc;subst hu;subst hc;exact hy
  |succ j=>simp at hc
 cases h with
 |t h=>simp [V.parts] at hp;subst hp;refine one ?_ (.t h);cases h<;>rfl
 |zV=>simp [V.parts] at hp;subst hp;exact one Z .zV
 |own h a b c d=>simp [V.parts] at hp;subst hp;refine one ?_ (.own h a b c d);cases h<;>rfl
 |slc a c h=>simp [V.parts] at hp;subst hp;exact one Z (.slc a c h)
 |agg hs h=>simp [V.parts] at hp;subst hp;exact ⟨by simpa [Value.cells] using hs,h⟩
 |tup _ _=>simp [V.parts] at hp
 |ptr a h=>simp [V.parts] at hp;subst hp;exact one Z (.ptr a h)
 |mp a h=>simp [V.parts] at hp;subst hp;exact one Z (.mp a h)
 |fn hs h=>simp [V.parts] at hp;subst hp;exact one Z (.fn hs h)
 |gd _ _=>simp [V.parts] at hp
 |top=>simp [V.parts] at hp
 |ub _ _=>simp [V.parts] at hp
 |ui=>simp [V.parts] at hp;subst hp;exact one Z .ui
 |fpt a h=>simp [V.parts] at hp;subst hp;exact one Z (.fpt a h)
 |gpt hv a b h=>simp [V.parts] at hp;subst hp;refine one ?_ (.gpt hv a b h);obtain ⟨_,rfl⟩:=hv;rfl
 |gsl hv a b h=>simp [V.parts] at hp;subst hp;refine one ?_ (.gsl hv a b h);obtain ⟨_,_,_,rfl⟩:=hv;rfl
 |fow h a b c d=>simp [V.parts] at hp;subst hp;refine one ?_ (.fow h a b c d);cases h<;>rfl
theorem Q5 {C:Ctx} {Λ:L} {ac:Act} (h:Rel C Λ st ac) (hg:gc=true) (place:Nat->Option (Nat×Nat)):∀(parts:List (Nat×Operand)) (ps:List (Nat×Nat×Ar)) (arr:Array Value) (cs cs':List V) (p:List Bool),
  partsOf place parts=some ps->Yb Λ arr cs->Qw st gc cs ps=some (cs',p)->(∀q∈p,q)->
  ∃arr',Instr.fill place arr (parts.map fun (i,x)=>(i,ac.eval x))=some arr'/\Yb Λ arr' cs'
 |[],ps,arr,cs,cs',p,hps,hr,hf,_=>by
  simp [partsOf] at hps;subst hps;simp [Qw] at hf;obtain ⟨rfl,rfl⟩:=hf;exact ⟨arr,rfl,hr⟩
 |(i,x)::parts,ps,arr,cs,cs',p,hps,hr,hf,hp=>by
  simp only [partsOf] at hps;split at hps
  ·rename_i off n a l h1 h2 h3;simp at hps;subst hps;simp only [Qw] at hf;generalize hrd:rd gc st a=va at hf;obtain ⟨v,p1⟩:=va;simp only at hf;split at hf
   ·simp at hf
   ·rename_i us hus;split at hf
    ·rename_i hle;split at hf
     ·rename_i c q hrest;simp at hf;obtain ⟨rfl,rfl⟩:=hf;have hv:=zf h h2 hrd (fun q hq=>hp q (by simp [hq])) hg;have hc:=hv.parts hus;have hfold:=Yb.foldl off (ac.eval x).cells.toList us 0 arr cs (by simpa using hc.1) (fun j a b e1 e2=>hc.2 j a b (by simpa using e1) e2) hr;obtain ⟨arr',h4,h5⟩:=Q5 h hg place parts l _ _ _ _ h3 hfold hrest (fun q hq=>hp q (by simp [hq]));refine ⟨arr',?_,h5⟩
      have hsz:(ac.eval x).cells.size=n:=by rw [hc.1];exact hle.1
      have hsz2:arr.size=cs.length:=hr.1;simp only [List.map_cons,Instr.fill,h1,hsz]
      have:¬ (off+n>arr.size):=by omega
      simp only [ne_eq,not_true_eq_false,decide_false,this,Bool.or_self,Bool.false_eq_true,if_false];rw [←h4];congr 1;rw [←Array.foldl_toList,Array.toList_zipIdx]
     ·simp at hf
    ·simp at hf
  ·simp at hps
theorem y4 {t:TypeId} {zs:List V} (h:ZK P t=some zs):∃i z,P.info? t=some i/\i.zero=some z/\zs.length=i.size/\wz z.cells.toList zs=true:=by
 unfold ZK at h;split at h
 ·rename_i i zs' hi _;split at h
  ·rename_i z hz;split at h
   ·rename_i hc;simp at h;subst h;simp at hc;exact ⟨i,z,hi,hz,hc.2,hc.1⟩
   ·simp at h
  ·simp at h
 ·simp at h
theorem yc {Λ:L} {z:Value} {zs:List V} (h:wz z.cells.toList zs=true):Yb Λ z.cells zs:=by
 obtain ⟨h1,h2⟩:=z1F (Λ:=Λ) h
 exact ⟨by simpa using h1,fun j v c hv hc=>h2 j v c (by simpa using hv) hc⟩
theorem z6P {t:TypeId} {parts:Array (Nat×Operand)} {zs cs:List V} {ps:List (Nat×Nat×Ar)} {p:List Bool} (ho:o.op= .build t parts) (hz:ZK P t=some zs)
  (hps:(∃fs pl,P.underlying t=some (.struct fs)/\placesOf P fs=some pl/\partsOf (pl.toArray[·]?) parts.toList=some ps)∨
   (∃m e sz,P.underlying t=some (.array m e)/\Zs P e=some sz/\partsOf (fun i=>some (i*sz,sz)) parts.toList=some ps))
  (hf:Qw st gc zs ps=some (cs,p)) (hp:∀q∈p,q):zC P o gc st (.agg cs):=by
 intro C Λ ac _ hg h;obtain ⟨i,z,hi,hz1,hlen,hok⟩:=y4 hz;have hrc:=yc (Λ:=Λ) hok
 have fin:∀arr',P.built t (parts.map fun (i,x)=>(i,ac.eval x)).toList=some arr'->Yb Λ arr' cs->∃v,(execOp ac.eval o).run P Λ.w= .ok (.value v) Λ.w/\zn Λ v (.agg cs):=by
  intro arr' h1 h2;refine ⟨.agg arr',?_,.agg h2.1 fun j v c e1 e2=>h2.2 j v c e1 e2⟩;simp only [execOp,ho,Sem.run_bind,run_build Λ.w t _ arr' h1];rfl
 rcases hps with ⟨fs,pl,hu,hpl,hpo⟩|⟨m,e,sz,hu,hs,hpo⟩
 ·obtain ⟨arr',h1,h2⟩:=Q5 h hg _ _ _ _ _ _ _ hpo hrc hf hp;refine fin arr' ?_ h2;unfold placesOf at hpl;simp only [Program.built,hi,hu,hz1,hpl,Array.toList_map];exact h1
 ·obtain ⟨arr',h1,h2⟩:=Q5 h hg _ _ _ _ _ _ _ hpo hrc hf hp;refine fin arr' ?_ h2;unfold Zs at hs
  cases hie:P.info? e with
  |none=>rw [hie] at hs;simp at hs
  |some ie=>
   rw [hie] at hs;simp at hs;subst hs;simp only [Program.built,hi,hu,hz1,hie,Array.toList_map];exact h1
theorem zdf {f:FuncId} {first caps:Array Operand} {caps':List Ar} {cs:List (Nat×Nat)} (ho:o.op= .makeFunc (.func f) first caps) (hfirst:first.isEmpty=true) (hc:caps.toList.mapM opA=some caps')
  (hcs:Wl st caps'=some cs):zC P o gc st (.fn f cs):=by
 intro C Λ ac _ hg h
 have key:∀(xs:List Operand) (ys:List Ar) (cs:List (Nat×Nat)),xs.mapM opA=some ys->Wl st ys=some cs->
   (xs.map ac.eval).length=cs.length/\∀(j:Nat) (v:Value) (c:Nat×Nat),(xs.map ac.eval)[j]?=some v->cs[j]?=some c->∃b,v= .pointer (some ⟨b,c.2,none⟩)/\Λ.lab b= .obj c.1/\c.1<Λ.nxt:=by
  intro xs
  induction xs with
  |nil=>intro ys cs h1 h2;simp at h1;subst h1;simp [Wl] at h2;subst h2;simp
  |cons x xs ih=>
   intro ys cs h1 h2;simp only [List.mapM_cons,Option.bind_eq_bind,Option.pure_def,Option.bind_eq_some_iff] at h1;obtain ⟨y,hy,ys',hys,h1⟩:=h1;simp at h1;subst h1;simp only [Wl] at h2;split at h2
   ·rename_i k off cs' hv hcs';simp at h2;subst h2;obtain ⟨i1,i2⟩:=ih ys' cs' hys hcs'
    refine ⟨by simpa using i1,fun j v c hj hc=>?_⟩
    cases j with
    |zero=>
     simp at hj hc;subst hj;subst hc;have hr:=h.opd hy;rw [hv] at hr;generalize ac.eval x=u at hr
     cases hr with
     |@ptr b _ _ hk hb=>exact ⟨b,rfl,hb,hk⟩
    |succ j=>exact i2 j v c (by simpa using hj) (by simpa using hc)
   ·simp at h2
 obtain ⟨k1,k2⟩:=key _ _ _ hc hcs
 have he:first=#[]:=by simpa using hfirst
 subst he
 refine ⟨.func (.func f) #[] (caps.map ac.eval),by simp [execOp,ho,Instr.makeFunc],.fn (by simpa using k1) fun j v c hj hc=>k2 j v c (by simpa using hj) hc⟩
theorem Zy {t:TypeId} (x y:Value) (w:World) (b:Bool)
  (h:∀n,(Op.equalIn (n+1) t x y).run P w= .ok b w):(Op.equal t x y).run P w= .ok b w:=h 9999
theorem zc4 {neg:Bool} {t ty:TypeId} {x:Operand} {x':Ar} {k i off:Nat} {e:TypeId} {p:List Bool} (hu:P.underlying t=some (.pointer e))
  (ho:o.op= .binOp (if neg then .neq else .eql) t x (.const (.pointer none)) ty) (hx:opA x=some x') (h1:rd gc st x'=(.fpt k i off,p)) (hp:∀q∈p,q):zC P o gc st (.t (.bool neg)):=by
 intro C Λ ac _ hg h;have hx1:=zf h hx h1 hp hg;generalize hv':ac.eval x=u at hx1;have hc:∀v,ac.eval (.const v)=v:=fun _=>rfl;refine ⟨.bool neg,?_,.t (.bool _)⟩
 cases hx1 with
 |@fpt bl _ _ _ hk' h'=>
  have hq:(Op.equal t (.pointer (some ⟨bl,off,none⟩)) (.pointer none)).run P Λ.w= .ok false Λ.w:=Zy _ _ Λ.w false (fun n=>by simp [Op.equalIn,run_underlying hu])
  cases neg<;>simp [execOp,ho,hv',hc,eqGuard,binOp,hq]
theorem zb5 {neg:Bool} {t ty:TypeId} {x:Operand} {x':Ar} {k ver off w:Nat} {cs:List V} {e:TypeId} {p:List Bool} (hu:P.underlying t=some (.pointer e))
  (ho:o.op= .binOp (if neg then .neq else .eql) t x (.const (.pointer none)) ty) (hx:opA x=some x') (h1:rd gc st x'=(.gpt k ver off,p)) (hp:∀q∈p,q) (hk:zi st.s.sto k=some (.gro w cs)) (hw:ver=w):zC P o gc st (.t (.bool neg)):=by
 intro C Λ ac _ hg h;have hx1:=zf h hx h1 hp hg;generalize hv':ac.eval x=u at hx1;have hc:∀v,ac.eval (.const v)=v:=fun _=>rfl;refine ⟨.bool neg,?_,.t (.bool _)⟩
 cases hx1 with
 |gpt _ hk' _ h'=>
  obtain ⟨bl,rfl,_⟩:=h' (hw.trans (h.s.sto k _ hk).2.1.symm)
  have hq:(Op.equal t (.pointer (some ⟨bl,off,none⟩)) (.pointer none)).run P Λ.w= .ok false Λ.w:=Zy _ _ Λ.w false (fun n=>by simp [Op.equalIn,run_underlying hu])
  cases neg<;>simp [execOp,ho,hv',hc,eqGuard,binOp,hq]
theorem z5r {neg:Bool} {t ty:TypeId} {x y:Operand} {x':Ar} {v:V} {b:Bool} {p:List Bool} (hu:(∃e,P.underlying t=some (.pointer e))/\y= .const (.pointer none)∨(∃k e,P.underlying t=some (.map k e))/\y= .const (.map none))
  (ho:o.op= .binOp (if neg then .neq else .eql) t x y ty) (hx:opA x=some x') (h1:rd gc st x'=(v,p)) (hp:∀q∈p,q)
  (hv:(y= .const (.pointer none)/\((v= .t .QP/\b=!neg)∨((∃k o,v= .ptr k o)/\b=neg)∨((∃c,v= .t (.ptr c))/\b=neg)))∨(y= .const (.map none)/\((v= .t .qG/\b=!neg)∨((∃k,v= .mp k)/\b=neg)))):
  zC P o gc st (.t (.bool b)):=by
 intro C Λ ac _ hg h;have hx1:=zf h hx h1 hp hg;generalize hv':ac.eval x=u at hx1;have hc:∀v,ac.eval (.const v)=v:=fun _=>rfl;refine ⟨.bool b,?_,.t (.bool _)⟩
 rcases hv with ⟨hy,hv⟩|⟨hy,hv⟩
 ·rcases hu with ⟨⟨e,hu⟩,_⟩|⟨_,hy'⟩
  ·subst hy
   rcases hv with ⟨rfl,hb⟩|⟨⟨k,off,rfl⟩,hb⟩|⟨⟨c,rfl⟩,hb⟩
   ·cases hx1 with
    |t h'=>
     cases h'
     have hq:(Op.equal t (.pointer none) (.pointer none)).run P Λ.w= .ok true Λ.w:=Zy _ _ Λ.w true (fun n=>by simp [Op.equalIn,run_underlying hu])
     cases neg<;>simp [execOp,ho,hv',hc,eqGuard,binOp,hq,hb]
   ·cases hx1 with
    |@ptr bl _ _ hk' h'=>
     have hq:(Op.equal t (.pointer (some ⟨bl,off,none⟩)) (.pointer none)).run P Λ.w= .ok false Λ.w:=Zy _ _ Λ.w false (fun n=>by simp [Op.equalIn,run_underlying hu])
     cases neg<;>simp [execOp,ho,hv',hc,eqGuard,binOp,hq,hb]
   ·cases hx1 with
    |t h'=>
     cases h' with
     |ptr _ bl off vf a1 a2 a3=>
     have hq:(Op.equal t (.pointer (some ⟨bl,off,none⟩)) (.pointer none)).run P Λ.w= .ok false Λ.w:=Zy _ _ Λ.w false (fun n=>by simp [Op.equalIn,run_underlying hu])
     cases neg<;>simp [execOp,ho,hv',hc,eqGuard,binOp,hq,hb]
  ·rw [hy] at hy';simp at hy'
 ·rcases hu with ⟨_,hy'⟩|⟨⟨k,e,hu⟩,_⟩
  ·rw [hy] at hy';simp at hy'
  ·subst hy
   rcases hv with ⟨rfl,hb⟩|⟨⟨k,rfl⟩,hb⟩
   ·cases hx1 with
    |t h'=>
     cases h'
     have hq:(Op.equal t (.map none) (.map none)).run P Λ.w= .ok true Λ.w:=Zy _ _ Λ.w true (fun n=>by simp [Op.equalIn,run_underlying hu])
     cases neg<;>simp [execOp,ho,hv',hc,eqGuard,binOp,hq,hb]
   ·cases hx1 with
    |@mp bl _ hk' h'=>
     have hq:(Op.equal t (.map (some bl)) (.map none)).run P Λ.w= .ok false Λ.w:=Zy _ _ Λ.w false (fun n=>by simp [Op.equalIn,run_underlying hu])
     cases neg<;>simp [execOp,ho,hv',hc,eqGuard,binOp,hq,hb]
theorem zbN {c x y:Operand} {c' x':Ar} {cb xa:Bool} {p1 p2:List Bool} (ho:o.op= .pick c x y) (hc:opA c=some c') (hx:opA x=some x')
  (h1:rd gc st c'=(.t (.bool cb),p1)) (h2:rd (gc&&cb) st x'=(.t (.bool xa),p2)) (hp:∀q∈p1++(p2++[cb]),q):zC P o gc st (.t (.bool xa)):=by
 intro C Λ a _ hg h;have hc1:=zf h hc h1 (fun q hq=>hp q (by simp [hq])) hg;have ec:=hc1.Zv.yW;have hcb:cb=true:=hp cb (by simp);subst hcb;have hx1:=zf h hx h2 (fun q hq=>hp q (by simp [hq])) (by simp [hg])
 exact ⟨a.eval x,by simp [execOp,ho,ec,asBool],.t hx1.Zv⟩
theorem zbz {c x y:Operand} {c' y':Ar} {cb xb:Bool} {p1 p3:List Bool} (ho:o.op= .pick c x y) (hc:opA c=some c') (hy:opA y=some y')
  (h1:rd gc st c'=(.t (.bool cb),p1)) (h3:rd (gc&&!cb) st y'=(.t (.bool xb),p3)) (hp:∀q∈p1++(p3++[!cb]),q):zC P o gc st (.t (.bool xb)):=by
 intro C Λ a _ hg h;have hc1:=zf h hc h1 (fun q hq=>hp q (by simp [hq])) hg;have ec:=hc1.Zv.yW;have hcb:(!cb)=true:=hp (!cb) (by simp)
 have hcb':cb=false:=by simpa using hcb
 subst hcb';have hy1:=zf h hy h3 (fun q hq=>hp q (by simp [hq])) (by simp [hg])
 exact ⟨a.eval y,by simp [execOp,ho,ec,asBool],.t hy1.Zv⟩
end
section
variable {P:Program} {ops:Array Oper} {o:Oper} {gc:Bool} {st:St}
theorem ze3 {x:Operand} {ix:Nat} {x':Ar} {vs:List V} {v:V} {p:List Bool} (ho:o.op= .extract x ix) (hx:opA x=some x') (h1:rd gc st x'=(.tup vs,p)) (hp:∀q∈p,q) (hv:vs[ix]?=some v):zC P o gc st v:=by
 intro C Λ ac _ hg h;have hx1:=zf h hx h1 hp hg;generalize hv':ac.eval x=u at hx1
 cases hx1 with
 |@tup us _ hs h'=>
  have hlt:=(List.getElem?_eq_some_iff.1 hv).1
  have hg':us[ix]?=some (us[ix]'(by omega)):=by simp
  refine ⟨_,?_,h' _ _ v hg' hv⟩;simp only [execOp,ho,hv'];simp [Instr.extract,hg']
theorem z56 {aop:AOp} {v:V} {ps:List Bool} (hres:ZV P ops o=some aop) (he:zg gc st aop=some (v,ps)) (hp:∀q∈ps,q):zC P o gc st v:=by
 unfold ZV at hres;split at hres
 ·rename_i t hop;simp at hres;subst hres;simp only [zg,Option.some.injEq] at he;exact zbr (x:= .s t) (p:=ps) (.inl hop) Z he hp
 ·rename_i t hop;simp at hres;subst hres;simp only [zg,Option.some.injEq] at he;exact zbr (x:= .s t) (p:=ps) (.inr hop) Z he hp
 ·rename_i c hop;simp only [Option.map_eq_some_iff] at hres;obtain ⟨x,hx,rfl⟩:=hres;simp [zg] at he;obtain ⟨rfl,rfl⟩:=he;exact zcl (.inl hop) (fun _=> .z3Y hx)
 ·rename_i c hop;simp only [Option.map_eq_some_iff] at hres;obtain ⟨x,hx,rfl⟩:=hres;simp [zg] at he;obtain ⟨rfl,rfl⟩:=he;exact zcl (.inr hop) (fun _=> .z3Y hx)
 ·rename_i f hop;simp at hres;subst hres;simp [zg] at he;obtain ⟨rfl,rfl⟩:=he;exact zbr (v:= .t (.fn f)) (x:= .c (.t (.fn f))) (p:=[]) (.inl hop) Z Z (by simp)
 ·rename_i f hop;simp at hres;subst hres;simp [zg] at he;obtain ⟨rfl,rfl⟩:=he;exact zbr (v:= .t (.fn f)) (x:= .c (.t (.fn f))) (p:=[]) (.inr hop) Z Z (by simp)
 ·
  rename_i c a b hop;simp only [Option.bind_eq_bind,Option.bind_eq_some_iff,Option.some.injEq] at hres;obtain ⟨c',hc,a',ha,b',hb,rfl⟩:=hres;simp only [zg] at he;split at he
  ·rename_i cb p1 hc1;split at he
   ·rename_i h2 h3;simp only [Option.some.injEq,Prod.mk.injEq] at he;obtain ⟨rfl,rfl⟩:=he;exact zd7 hop hc ha hb hc1 h2 h3 hp
   ·rename_i h2 h3;simp only [Option.some.injEq,Prod.mk.injEq] at he;obtain ⟨rfl,rfl⟩:=he;exact zbN hop hc ha hc1 h2 hp
   ·rename_i h2 h3;simp only [Option.some.injEq,Prod.mk.injEq] at he;obtain ⟨rfl,rfl⟩:=he;exact zbz hop hc hb hc1 h3 hp
   ·simp at he
  ·simp at he
 ·
  rename_i op ty x hop;simp only [Option.bind_eq_bind,Option.bind_eq_some_iff,Option.some.injEq] at hres;obtain ⟨x',hx,rfl⟩:=hres
  cases op with
  |not=>
   simp only [zg] at he;split at he
   ·rename_i h1;simp only [Option.some.injEq,Prod.mk.injEq] at he;obtain ⟨rfl,rfl⟩:=he;exact zdv hop hx h1 hp
   ·simp at he
  |neg=>
   simp only [zg] at he;split at he
   ·rename_i h1;simp only [Option.some.injEq,Prod.mk.injEq] at he;obtain ⟨rfl,rfl⟩:=he;exact ze6 hop hx h1 hp
   ·simp at he
  |_=>simp [zg] at he
 ·
  rename_i op xt x y ty hop
  have hbin:∀aop,((opA x).bind fun a=>(opA y).bind fun b=>some (AOp.bin op a b))=some aop->zg gc st aop=some (v,ps)->zC P o gc st v:=by
   intro aop h1 h2;simp only [Option.bind_eq_some_iff,Option.some.injEq] at h1;obtain ⟨x',hx,y',hy,rfl⟩:=h1;simp only [zg] at h2;split at h2
   ·rename_i a p1 b p2 e1 e2;simp only [Option.map_eq_some_iff] at h2;obtain ⟨⟨r,p3⟩,hb,h2⟩:=h2;simp at h2;obtain ⟨rfl,rfl⟩:=h2;exact ze5 hop hx hy e1 e2 hb hp
   ·rename_i k p1 k' n p2 e1 e2;split at h2
    ·rename_i hk;subst hk;split at h2
     ·simp only [Option.some.injEq,Prod.mk.injEq] at h2;obtain ⟨rfl,rfl⟩:=h2;exact z9A hop hx hy e1 e2 (.inl ⟨rfl,rfl⟩) hp
     ·simp only [Option.some.injEq,Prod.mk.injEq] at h2;obtain ⟨rfl,rfl⟩:=h2;exact z9A hop hx hy e1 e2 (.inr ⟨rfl,rfl⟩) hp
     ·simp at h2
    ·simp at h2
   ·simp at h2
  split at hres
  ·exact hbin _ hres he
  ·exact hbin _ hres he
  ·rename_i hu;split at hres
   ·simp only [Option.bind_eq_bind,Option.bind_eq_some_iff,Option.some.injEq] at hres;obtain ⟨x',hx,y',hy,rfl⟩:=hres;simp only [zg] at he;split at he
    ·rename_i e1 e2;simp only [Option.some.injEq,Prod.mk.injEq] at he;obtain ⟨rfl,rfl⟩:=he;exact zch (neg:=false) hu hop hx hy e1 e2 hp
    ·simp at he
   ·simp only [Option.bind_eq_bind,Option.bind_eq_some_iff,Option.some.injEq] at hres;obtain ⟨x',hx,y',hy,rfl⟩:=hres;simp only [zg] at he;split at he
    ·rename_i e1 e2;simp only [Option.some.injEq,Prod.mk.injEq] at he;obtain ⟨rfl,rfl⟩:=he;have:=zch (neg:=true) hu hop hx hy e1 e2 hp;simpa using this
    ·simp at he
   ·simp at hres
  ·rename_i e hu
   have key:∀neg,o.op= .binOp (if neg then .neq else .eql) xt x (.const (.pointer none)) ty->∀x',opA x=some x'->zg gc st (.eqp neg x')=some (v,ps)->zC P o gc st v:=by
    intro neg hop x' hx he;simp only [zg] at he;split at he
    ·simp only [Option.some.injEq,Prod.mk.injEq] at he;obtain ⟨rfl,rfl⟩:=he;exact z5r (neg:=neg) (.inl ⟨⟨_,hu⟩,rfl⟩) hop hx (by assumption) hp (.inl ⟨rfl,.inl ⟨rfl,rfl⟩⟩)
    ·simp only [Option.some.injEq,Prod.mk.injEq] at he;obtain ⟨rfl,rfl⟩:=he;exact z5r (neg:=neg) (.inl ⟨⟨_,hu⟩,rfl⟩) hop hx (by assumption) hp (.inl ⟨rfl,.inr (.inl ⟨⟨_,_,rfl⟩,rfl⟩)⟩)
    ·simp only [Option.some.injEq,Prod.mk.injEq] at he;obtain ⟨rfl,rfl⟩:=he;exact z5r (neg:=neg) (.inl ⟨⟨_,hu⟩,rfl⟩) hop hx (by assumption) hp (.inl ⟨rfl,.inr (.inr ⟨⟨_,rfl⟩,rfl⟩)⟩)
    ·simp only [Option.some.injEq,Prod.mk.injEq] at he;obtain ⟨rfl,rfl⟩:=he;exact zc4 (neg:=neg) hu hop hx (by assumption) hp
    ·rename_i h1;split at he
     ·rename_i hk;simp only [Option.some.injEq,Prod.mk.injEq] at he;obtain ⟨rfl,rfl⟩:=he;exact zb5 (neg:=neg) hu hop hx h1 (fun q hq=>hp q (by simp [hq])) hk (zDT (hp _ (by simp)))
     ·simp at he
    ·simp at he
   split at hres
   ·simp only [Option.bind_eq_bind,Option.bind_eq_some_iff,Option.some.injEq] at hres;obtain ⟨x',hx,rfl⟩:=hres;exact key false hop x' hx he
   ·simp only [Option.bind_eq_bind,Option.bind_eq_some_iff,Option.some.injEq] at hres;obtain ⟨x',hx,rfl⟩:=hres;exact key true hop x' hx he
   ·simp at hres
  ·rename_i k e hu
   have key:∀neg,o.op= .binOp (if neg then .neq else .eql) xt x (.const (.map none)) ty->∀x',opA x=some x'->zg gc st (.eqm neg x')=some (v,ps)->zC P o gc st v:=by
    intro neg hop x' hx he;simp only [zg] at he;split at he
    ·simp only [Option.some.injEq,Prod.mk.injEq] at he;obtain ⟨rfl,rfl⟩:=he;exact z5r (neg:=neg) (.inr ⟨⟨_,_,hu⟩,rfl⟩) hop hx (by assumption) hp (.inr ⟨rfl,.inl ⟨rfl,rfl⟩⟩)
    ·simp only [Option.some.injEq,Prod.mk.injEq] at he;obtain ⟨rfl,rfl⟩:=he;exact z5r (neg:=neg) (.inr ⟨⟨_,_,hu⟩,rfl⟩) hop hx (by assumption) hp (.inr ⟨rfl,.inr ⟨⟨_,rfl⟩,rfl⟩⟩)
    ·simp at he
   split at hres
   ·simp only [Option.bind_eq_bind,Option.bind_eq_some_iff,Option.some.injEq] at hres;obtain ⟨x',hx,rfl⟩:=hres;exact key false hop x' hx he
   ·simp only [Option.bind_eq_bind,Option.bind_eq_some_iff,Option.some.injEq] at hres;obtain ⟨x',hx,rfl⟩:=hres;exact key true hop x' hx he
   ·simp at hres
  ·simp at hres
 ·
  rename_i src dst x hop;split at hres
  ·rename_i k1 k hs hd;simp only [Option.bind_eq_bind,Option.bind_eq_some_iff,Option.some.injEq] at hres;obtain ⟨x',hx,rfl⟩:=hres;simp only [zg] at he;split at he
   ·rename_i h1;simp only [Option.some.injEq,Prod.mk.injEq] at he;obtain ⟨rfl,rfl⟩:=he;exact zcU hs hd hop hx h1 hp
   ·simp at he
  ·rename_i hs hd;simp only [Option.bind_eq_bind,Option.bind_eq_some_iff,Option.some.injEq] at hres;obtain ⟨x',hx,rfl⟩:=hres;simp only [zg] at he;split at he
   ·rename_i h1;simp only [Option.some.injEq,Prod.mk.injEq] at he;obtain ⟨rfl,rfl⟩:=he;exact zbg hs hd hop hx h1 hp ⟨_,rfl⟩
   ·simp at he
  ·simp at hres
 ·
  rename_i x hop;simp only [Option.bind_eq_bind,Option.bind_eq_some_iff,Option.some.injEq] at hres;obtain ⟨x',hx,rfl⟩:=hres;simp only [zg] at he;split at he
  ·rename_i h1;simp only [Option.some.injEq,Prod.mk.injEq] at he;obtain ⟨rfl,rfl⟩:=he;exact z0Q hop hx h1 hp (.inl ⟨_,_,rfl⟩)
  ·rename_i h1;simp only [Option.some.injEq,Prod.mk.injEq] at he;obtain ⟨rfl,rfl⟩:=he;exact z0Q hop hx h1 hp (.inr (.inl ⟨_,rfl⟩))
  ·rename_i h1;simp only [Option.some.injEq,Prod.mk.injEq] at he;obtain ⟨rfl,rfl⟩:=he;exact z0Q hop hx h1 hp (.inr (.inr (.inl ⟨_,rfl⟩)))
  ·rename_i h1;simp only [Option.some.injEq,Prod.mk.injEq] at he;obtain ⟨rfl,rfl⟩:=he;exact z0Q hop hx h1 hp (.inr (.inr (.inr ⟨_,_,rfl⟩)))
  ·rename_i h1;simp only [Option.some.injEq,Prod.mk.injEq] at he;obtain ⟨rfl,rfl⟩:=he;exact z8Q hop hx h1 hp
  ·rename_i h1;split at he
   ·rename_i hk;simp only [Option.some.injEq,Prod.mk.injEq] at he;obtain ⟨rfl,rfl⟩:=he;exact z7R hop hx h1 (fun q hq=>hp q (by simp [hq])) hk (zDT (hp _ (by simp)))
   ·simp at he
  ·simp at he
 ·
  rename_i s x f hop;split at hres
  ·rename_i fs hu;simp only [Option.bind_eq_bind,Option.bind_eq_some_iff] at hres;obtain ⟨fd,hf,n,hn,hres⟩:=hres;split at hres
   ·simp at hres
   ·rename_i h0;simp only [Option.bind_eq_some_iff,Option.some.injEq] at hres;obtain ⟨x',hx,rfl⟩:=hres;simp only [zg] at he;split at he
    ·rename_i h1;simp only [Option.some.injEq,Prod.mk.injEq] at he;obtain ⟨rfl,rfl⟩:=he;exact zdV hu hf hn h0 hop hx h1 hp (.inl ⟨_,_,rfl,rfl⟩)
    ·rename_i h1;simp only [Option.some.injEq,Prod.mk.injEq] at he;obtain ⟨rfl,rfl⟩:=he;exact zdV hu hf hn h0 hop hx h1 hp (.inr ⟨_,rfl,rfl⟩)
    ·rename_i h1;simp only [Option.some.injEq,Prod.mk.injEq] at he;obtain ⟨rfl,rfl⟩:=he;exact zd6 hu hf hn h0 hop hx h1 hp
    ·rename_i h1;split at he
     ·rename_i hk;simp only [Option.some.injEq,Prod.mk.injEq] at he;obtain ⟨rfl,rfl⟩:=he;exact zcx hu hf hn h0 hop hx h1 (fun q hq=>hp q (by simp [hq])) hk (zDT (hp _ (by simp)))
     ·simp at he
    ·simp at he
  ·simp at hres
 ·
  rename_i t x hop;simp only [Option.bind_eq_bind,Option.bind_eq_some_iff] at hres;obtain ⟨n,hn,hres⟩:=hres;split at hres
  ·simp at hres
  ·rename_i d hu;split at hres
   ·rename_i hag;simp only [Option.bind_eq_some_iff,Option.some.injEq] at hres;obtain ⟨x',hx,rfl⟩:=hres;simp only [zg,if_true] at he;split at he
    ·rename_i h1;split at he
     ·rename_i hle;simp only [Option.some.injEq,Prod.mk.injEq] at he;obtain ⟨rfl,rfl⟩:=he;exact z9X hn hag hop hx h1 hp hle
     ·simp at he
    ·rename_i h1;split at he
     ·rename_i hk;split at he
      ·rename_i hle;simp only [Option.some.injEq,Prod.mk.injEq] at he;obtain ⟨rfl,rfl⟩:=he;exact z8b hn hag hop hx h1 hp hk hle
      ·simp at he
     ·simp at he
    ·rename_i h1;split at he
     ·rename_i hk;split at he
      ·rename_i hle;simp only [Option.some.injEq,Prod.mk.injEq] at he;obtain ⟨rfl,rfl⟩:=he;exact zb2 hn hag hop hx h1 (fun q hq=>hp q (by simp [hq])) hk (zDT (hp _ (by simp))) hle
      ·simp at he
     ·simp at he
    ·rename_i h1;split at he
     ·rename_i hk;split at he
      ·rename_i hi;split at he
       ·rename_i hle;simp only [Option.some.injEq,Prod.mk.injEq] at he;obtain ⟨rfl,rfl⟩:=he;exact zaZ hn hag hop hx h1 hp hk hi hle
       ·simp at he
      ·simp at he
     ·simp at he
    ·simp at he
   ·rename_i hag
    have hag':zI P t=false:=by simpa using hag
    simp only [Option.bind_eq_some_iff,Option.some.injEq] at hres;obtain ⟨x',hx,rfl⟩:=hres;simp only [zg,Bool.false_eq_true,if_false] at he;split at he
    ·rename_i h1;split at he
     ·rename_i hc;simp only [Option.some.injEq,Prod.mk.injEq] at he;obtain ⟨rfl,rfl⟩:=he;exact zaW hu hag' hop hx h1 hp hc
     ·simp at he
    ·rename_i h1;split at he
     ·rename_i hk;split at he
      ·rename_i hc;simp only [Option.some.injEq,Prod.mk.injEq] at he;obtain ⟨rfl,rfl⟩:=he;exact z9h hu hag' hop hx h1 hp hk hc
      ·simp at he
     ·simp at he
    ·rename_i h1;split at he
     ·rename_i hk;split at he
      ·rename_i hc;simp only [Option.some.injEq,Prod.mk.injEq] at he;obtain ⟨rfl,rfl⟩:=he;exact zcC hu hag' hop hx h1 (fun q hq=>hp q (by simp [hq])) hk (zDT (hp _ (by simp))) hc
      ·simp at he
     ·simp at he
    ·rename_i h1;split at he
     ·rename_i hk;split at he
      ·rename_i hi;split at he
       ·rename_i hc;simp only [Option.some.injEq,Prod.mk.injEq] at he;obtain ⟨rfl,rfl⟩:=he;exact zcH hu hag' hop hx h1 hp hk hi hc
       ·simp at he
      ·simp at he
     ·simp at he
    ·simp at he
 ·
  simp only [Option.bind_eq_bind,Option.bind_eq_some_iff,Option.some.injEq] at hres;obtain ⟨_,_,_,_,_,_,rfl⟩:=hres;simp [zg] at he
 ·
  rename_i t x ix hop;split at hres
  ·rename_i e hu;simp only [Option.bind_eq_bind,Option.bind_eq_some_iff,Option.some.injEq] at hres;obtain ⟨sz,hs,x',hx,i',hi,rfl⟩:=hres;simp only [zg] at he;split at he
   ·rename_i w p1 k n p2 h1 h2;split at he
    ·split at he
     ·rename_i hsz;subst hsz;simp only [Option.some.injEq,Prod.mk.injEq] at he;obtain ⟨rfl,rfl⟩:=he;exact za8 hu hs hop hx hi h1 h2 hp
     ·simp at he
    ·split at he
     ·rename_i hk;split at he
      ·rename_i hsz;subst hsz;simp only [Option.some.injEq,Prod.mk.injEq] at he;obtain ⟨rfl,rfl⟩:=he;exact zcS hu hs hop hx hi h1 h2 hk hp
      ·simp at he
     ·simp at he
    ·split at he
     ·rename_i hv;split at he
      ·rename_i hc;split at he
       ·rename_i hsz;simp only [Option.some.injEq,Prod.mk.injEq] at he;obtain ⟨rfl,rfl⟩:=he;exact ze9 hu hs hop hx hi h1 h2 hv hc hsz hp
       ·simp at he
      ·simp at he
     ·simp at he
   ·simp at he
  ·rename_i m e hu;simp only [Option.bind_eq_bind,Option.bind_eq_some_iff,Option.some.injEq] at hres;obtain ⟨sz,hs,x',hx,i',hi,rfl⟩:=hres;simp only [zg] at he;split at he
   ·rename_i h1 h2;simp only [Option.some.injEq,Prod.mk.injEq] at he;obtain ⟨rfl,rfl⟩:=he;exact z9W hu hs hop hx hi h1 h2 hp (.inl ⟨_,_,rfl,rfl⟩)
   ·rename_i h1 h2;simp only [Option.some.injEq,Prod.mk.injEq] at he;obtain ⟨rfl,rfl⟩:=he;exact z9W hu hs hop hx hi h1 h2 hp (.inr ⟨_,rfl,rfl⟩)
   ·simp at he
  ·simp at hres
 ·
  rename_i t x ix hop;split at hres
  ·rename_i hu;simp only [Option.bind_eq_bind,Option.bind_eq_some_iff,Option.some.injEq] at hres;obtain ⟨x',hx,i',hi,rfl⟩:=hres;simp only [zg] at he;split at he
   ·rename_i h1 h2;split at he
    ·rename_i hb;simp only [Option.some.injEq,Prod.mk.injEq] at he;obtain ⟨rfl,rfl⟩:=he;exact zdH hu hop hx hi h1 h2 hb hp
    ·simp at he
   ·simp at he
  ·rename_i m e hu;split at hres
   ·simp at hres
   ·rename_i d hd;simp only [Option.bind_eq_bind,Option.bind_eq_some_iff,Option.some.injEq] at hres;obtain ⟨sz,hs,x',hx,i',hi,rfl⟩:=hres;simp only [zg] at he;split at he
    ·rename_i h1 h2;split at he
     ·rename_i hag;split at he
      ·rename_i hle;simp only [Option.some.injEq,Prod.mk.injEq] at he;obtain ⟨rfl,rfl⟩:=he;exact zdn hu hs hag hop hx hi h1 h2 hle hp
      ·simp at he
     ·rename_i hag;split at he
      ·rename_i hc;simp only [Option.some.injEq,Prod.mk.injEq] at he;obtain ⟨rfl,rfl⟩:=he;exact zdJ hu hs hd (by simpa using hag) hop hx hi h1 h2 hc hp
      ·simp at he
    ·simp at he
  ·simp at hres
 ·
  rename_i t x lo hi hop;split at hres
  ·rename_i hu;simp only [Option.bind_eq_bind,Option.bind_eq_some_iff,Option.some.injEq] at hres;obtain ⟨l',hl,h',hh,x',hx,rfl⟩:=hres;simp only [zg] at he;split at he
   ·rename_i h1;split at he
    ·rename_i h2 h3;simp only [Option.some.injEq,Prod.mk.injEq] at he;obtain ⟨rfl,rfl⟩:=he;exact zdB hu hop hx hl hh h1 h2 h3 hp
    ·simp at he
   ·simp at he
  ·rename_i e hu;simp only [Option.bind_eq_bind,Option.bind_eq_some_iff,Option.some.injEq] at hres;obtain ⟨l',hl,h',hh,sz,hs,x',hx,rfl⟩:=hres;simp only [zg] at he;generalize hr:rd gc st x'=r at he;obtain ⟨v',p'⟩:=r;simp only at he;split at he
   ·rename_i h1;split at he
    ·rename_i h2 h3;simp only [Option.some.injEq,Prod.mk.injEq] at he;obtain ⟨rfl,rfl⟩:=he;exact zdu hu hs hop hx hl hh hr h1 h2 h3 hp
    ·simp at he
   ·split at he
    ·split at he
     ·rename_i h2 h3;simp only [Option.some.injEq,Prod.mk.injEq] at he;obtain ⟨rfl,rfl⟩:=he;exact zdA hu hs hop hx hl hh hr h2 h3 hp
     ·simp at he
    ·split at he
     ·rename_i hk h2 h3;simp only [Option.some.injEq,Prod.mk.injEq] at he;obtain ⟨rfl,rfl⟩:=he;exact ze0 hu hs hop hx hl hh hr h2 h3 hp hk
     ·simp at he
    ·simp at he
  ·simp at hres
 ·
  rename_i t x f hop;split at hres
  ·rename_i fs hu;simp only [Option.bind_eq_bind,Option.bind_eq_some_iff] at hres;obtain ⟨fd,hf,n,hn,hres⟩:=hres;split at hres
   ·simp at hres
   ·rename_i d hd;simp only [Option.bind_eq_some_iff,Option.some.injEq] at hres;obtain ⟨x',hx,rfl⟩:=hres;simp only [zg] at he;split at he
    ·rename_i h1;split at he
     ·rename_i hag;split at he
      ·rename_i hle;simp only [Option.some.injEq,Prod.mk.injEq] at he;obtain ⟨rfl,rfl⟩:=he;exact zcZ hu hf hn hag hop hx h1 hp hle
      ·simp at he
     ·rename_i hag;split at he
      ·rename_i hc;simp only [Option.some.injEq,Prod.mk.injEq] at he;obtain ⟨rfl,rfl⟩:=he;exact zds hu hf hd (by simpa using hag) hop hx h1 hp hc
      ·simp at he
    ·simp at he
  ·simp at hres
 ·
  rename_i t parts hop;split at hres
  ·rename_i fs hu;simp only [Option.bind_eq_bind,Option.bind_eq_some_iff,Option.some.injEq] at hres;obtain ⟨pl,hpl,zs,hz,ps',hps,rfl⟩:=hres;simp only [zg] at he;split at he
   ·rename_i hf;simp only [Option.some.injEq,Prod.mk.injEq] at he;obtain ⟨rfl,rfl⟩:=he;exact z6P hop hz (.inl ⟨fs,pl,hu,hpl,hps⟩) hf hp
   ·simp at he
  ·rename_i m e hu;simp only [Option.bind_eq_bind,Option.bind_eq_some_iff,Option.some.injEq] at hres;obtain ⟨sz,hs,zs,hz,ps',hps,rfl⟩:=hres;simp only [zg] at he;split at he
   ·rename_i hf;simp only [Option.some.injEq,Prod.mk.injEq] at he;obtain ⟨rfl,rfl⟩:=he;exact z6P hop hz (.inr ⟨m,e,sz,hu,hs,hps⟩) hf hp
   ·simp at he
  ·simp at hres
 ·
  rename_i f first caps hop;split at hres
  ·rename_i hfirst;simp only [Option.bind_eq_bind,Option.bind_eq_some_iff,Option.some.injEq] at hres;obtain ⟨caps',hc,rfl⟩:=hres;simp only [zg] at he;split at he
   ·rename_i hcs;simp only [Option.some.injEq,Prod.mk.injEq] at he;obtain ⟨rfl,rfl⟩:=he;exact zdf hop hfirst hc hcs
   ·simp at he
  ·simp at hres
 ·simp only [Option.bind_eq_bind,Option.bind_eq_some_iff,Option.some.injEq] at hres;obtain ⟨_,_,rfl⟩:=hres;simp [zg] at he
 ·simp only [Option.bind_eq_bind,Option.bind_eq_some_iff,Option.some.injEq] at hres;obtain ⟨_,_,_,_,rfl⟩:=hres;simp [zg] at he
 ·split at hres
  ·simp only [Option.bind_eq_bind,Option.bind_eq_some_iff] at hres;obtain ⟨_,_,_,_,_,_,hres⟩:=hres;split at hres
   ·simp only [Option.bind_eq_some_iff,Option.some.injEq] at hres;obtain ⟨_,_,rfl⟩:=hres;simp [zg] at he
   ·simp at hres
  ·simp at hres
 ·
  rename_i x ix hop;simp only [Option.bind_eq_bind,Option.bind_eq_some_iff,Option.some.injEq] at hres;obtain ⟨x',hx,rfl⟩:=hres;simp only [zg] at he;split at he
  ·rename_i h1;split at he
   ·rename_i hv;simp only [Option.some.injEq,Prod.mk.injEq] at he;obtain ⟨rfl,rfl⟩:=he;exact ze3 hop hx h1 hp hv
   ·simp at he
  ·simp at he
 ·split at hres
  ·simp at hres;subst hres;simp [zg] at he
  ·simp at hres
 ·split at hres
  ·simp only [Option.bind_eq_bind,Option.bind_eq_some_iff] at hres;obtain ⟨_,_,hres⟩:=hres;split at hres
   ·simp only [Option.bind_eq_some_iff,Option.some.injEq] at hres;obtain ⟨_,_,rfl⟩:=hres;simp [zg] at he
   ·simp at hres
  ·simp at hres
 ·
  rename_i args ats hop;split at hres
  ·rename_i t x hat ha;split at hres
   ·rename_i hu;simp only [Option.bind_eq_bind,Option.bind_eq_some_iff,Option.some.injEq] at hres;obtain ⟨x',hx,rfl⟩:=hres;simp only [zg] at he;split at he
    ·rename_i h1;simp only [Option.some.injEq,Prod.mk.injEq] at he;obtain ⟨rfl,rfl⟩:=he;exact z3d ha hat hu (.inl Z) hop hx h1 hp (.inl ⟨rfl,_,rfl,rfl⟩)
    ·simp at he
   ·rename_i hu;simp only [Option.bind_eq_bind,Option.bind_eq_some_iff,Option.some.injEq] at hres;obtain ⟨x',hx,rfl⟩:=hres;simp only [zg] at he;split at he
    ·rename_i h1;simp only [Option.some.injEq,Prod.mk.injEq] at he;obtain ⟨rfl,rfl⟩:=he;exact z3d ha hat hu (.inr ⟨_,rfl⟩) hop hx h1 hp (.inr ⟨⟨_,rfl⟩,.inl ⟨_,rfl,rfl⟩⟩)
    ·rename_i h1;simp only [Option.some.injEq,Prod.mk.injEq] at he;obtain ⟨rfl,rfl⟩:=he;exact z3d ha hat hu (.inr ⟨_,rfl⟩) hop hx h1 hp (.inr ⟨⟨_,rfl⟩,.inl ⟨_,rfl,rfl⟩⟩)
    ·rename_i h1;simp only [Option.some.injEq,Prod.mk.injEq] at he;obtain ⟨rfl,rfl⟩:=he;exact z3d (n:=0) ha hat hu (.inr ⟨_,rfl⟩) hop hx h1 hp (.inr ⟨⟨_,rfl⟩,.inl ⟨[],rfl,rfl⟩⟩)
    ·rename_i h1;simp only [Option.some.injEq,Prod.mk.injEq] at he;obtain ⟨rfl,rfl⟩:=he;exact z3d ha hat hu (.inr ⟨_,rfl⟩) hop hx h1 hp (.inr ⟨⟨_,rfl⟩,.inr ⟨_,_,_,rfl⟩⟩)
    ·rename_i h1;split at he
     ·rename_i hk;simp only [Option.some.injEq,Prod.mk.injEq] at he;obtain ⟨rfl,rfl⟩:=he;exact zbi ha hat hu hop hx h1 (fun q hq=>hp q (by simp [hq])) hk (zDT (hp _ (by simp)))
     ·simp at he
    ·rename_i h1;simp only [Option.some.injEq,Prod.mk.injEq] at he;obtain ⟨rfl,rfl⟩:=he;exact z3d ha hat hu (.inr ⟨_,rfl⟩) hop hx h1 hp (.inr ⟨⟨_,rfl⟩,.inl ⟨_,rfl,rfl⟩⟩)
    ·simp at he
   ·simp only [Option.bind_eq_bind,Option.bind_eq_some_iff,Option.some.injEq] at hres;obtain ⟨_,_,rfl⟩:=hres;simp [zg] at he
   ·simp at hres
  ·simp at hres
 ·
  rename_i args _ hop;split at hres
  ·rename_i x y ha;simp only [Option.bind_eq_bind,Option.bind_eq_some_iff,Option.some.injEq] at hres;obtain ⟨x',hx,y',hy,rfl⟩:=hres;simp only [zg] at he;split at he
   ·rename_i h1 h2;split at he
    ·rename_i hk;subst hk;simp only [Option.some.injEq,Prod.mk.injEq] at he;obtain ⟨rfl,rfl⟩:=he;exact zcj (b:=true) ha hop hx hy h1 h2 hp
    ·simp at he
   ·simp at he
  ·simp at hres
 ·
  rename_i args _ hop;split at hres
  ·rename_i x y ha;simp only [Option.bind_eq_bind,Option.bind_eq_some_iff,Option.some.injEq] at hres;obtain ⟨x',hx,y',hy,rfl⟩:=hres;simp only [zg] at he;split at he
   ·rename_i h1 h2;split at he
    ·rename_i hk;subst hk;simp only [Option.some.injEq,Prod.mk.injEq] at he;obtain ⟨rfl,rfl⟩:=he;have:=zcj (P:=P) (b:=false) ha hop hx hy h1 h2 hp;simpa using this
    ·simp at he
   ·simp at he
  ·simp at hres
 ·split at hres
  ·split at hres
   ·split at hres
    ·simp only [Option.bind_eq_bind,Option.bind_eq_some_iff] at hres;obtain ⟨_,_,_,_,hres⟩:=hres;split at hres
     ·simp at hres
     ·simp only [Option.bind_eq_some_iff,Option.some.injEq] at hres;obtain ⟨_,_,_,_,rfl⟩:=hres;simp [zg] at he
    ·simp at hres
   ·simp at hres
  ·simp at hres
 ·split at hres
  ·cases hres
  ·simp only [Option.bind_eq_bind,Option.bind_eq_some_iff,Option.some.injEq] at hres;obtain ⟨_,_,rfl⟩:=hres;simp [zg] at he
 ·simp only [Option.bind_eq_bind,Option.bind_eq_some_iff,Option.some.injEq] at hres;obtain ⟨_,_,rfl⟩:=hres;simp [zg] at he
 ·split at hres
  ·simp only [Option.bind_eq_bind,Option.bind_eq_some_iff,Option.some.injEq] at hres;obtain ⟨_,_,rfl⟩:=hres;simp [zg] at he
  ·simp at hres
 ·simp at hres
end
def zZ (l:Nat->Lab) (b:Nat) (x:Lab):Nat->Lab:=fun b'=>if b'=b then x else l b'
def Zz (f:Nat->Nat) (k n:Nat):Nat->Nat:=fun k'=>if k'=k then n else f k'
theorem zo {l:Nat->Lab} {b:Nat} {x:Lab}:zZ l b x b=x:=by simp [zZ]
theorem zu {l:Nat->Lab} {b b':Nat} {x:Lab} (h:b'≠b):zZ l b x b'=l b':=by simp [zZ,h]
theorem z1e {f:Nat->Nat} {k n:Nat}:Zz f k n k=n:=by simp [Zz]
theorem W4 {f:Nat->Nat} {k k' n:Nat} (h:k'≠k):Zz f k n k'=f k':=by simp [Zz,h]
structure yA (w w':World) (o:Obj):Prop where
 os:w'.os=w.os
 tape:w'.tape=w.tape
 output:w'.output=w.output
 heap:w'.heap=w.heap.push o
theorem yA.size {w w':World} {o:Obj} (g:yA w w' o):w'.heap.size=w.heap.size+1:=by rw [g.heap];simp
theorem yA.old {w w':World} {o:Obj} (g:yA w w' o) {b:Nat} (h:b<w.heap.size):w'.heap[b]?=w.heap[b]?:=by
 rw [g.heap,Array.getElem?_push];simp;omega
theorem yA.top {w w':World} {o:Obj} (g:yA w w' o):w'.heap[w.heap.size]?=some o:=by rw [g.heap];simp
theorem yA.alloc (w:World) (o:Obj):yA w (w.alloc o) o:=⟨rfl,rfl,rfl,rfl⟩
theorem yA.Yv (w:World) (o:Obj):yA w (w.drew.alloc o) o:=⟨rfl,rfl,rfl,rfl⟩
structure Zb (Λ Λ':L):Prop where
 fob:∀b k i,Λ'.lab b= .fob k i↔Λ.lab b= .fob k i
 far:∀b k i n,Λ'.lab b= .far k i n↔Λ.lab b= .far k i n
 frf:Λ'.frf=Λ.frf
 hob:∀b k i,Λ.lab b= .fob k i->Λ'.w.heap[b]?=Λ.w.heap[b]?
 har:∀b k i n,b<Λ.w.heap.size->Λ.lab b= .far k i n->Λ'.w.heap[b]?=Λ.w.heap[b]?
theorem Zb.refl (Λ:L):Zb Λ Λ:=⟨fun _ _ _=>Iff.rfl,fun _ _ _ _=>Iff.rfl,rfl,fun _ _ _ _=>rfl,fun _ _ _ _ _ _=>rfl⟩
theorem Zb.trans {A B C:L} (h:Zb A B) (k:Zb B C) (hs:A.w.heap.size<=B.w.heap.size):Zb A C:=
 ⟨fun b j i=>(k.fob b j i).trans (h.fob b j i),fun b j i n=>(k.far b j i n).trans (h.far b j i n),k.frf.trans h.frf,fun b j i e=>(k.hob b j i ((h.fob b j i).2 e)).trans (h.hob b j i e),
  fun b j i n hb e=>(k.har b j i n (Nat.lt_of_lt_of_le hb hs) ((h.far b j i n).2 e)).trans (h.har b j i n hb e)⟩
theorem Kp.old {Λ Λ':L} (F:Zb Λ Λ') (os:Λ'.w.os=Λ.w.os) (tape:Λ'.w.tape=Λ.w.tape) (output:Λ'.w.output=Λ.w.output) (size:Λ.w.heap.size<=Λ'.w.heap.size)
  (fix:∀b,b<Λ.w.heap.size->∀fr,Λ.lab b= .fix fr->Λ'.lab b= .fix fr/\Λ'.w.heap[b]?=Λ.w.heap[b]?)
  (arr:∀b,b<Λ.w.heap.size->∀k fr,Λ.lab b= .arr k fr->∀o,o<fr->Rd Λ'.lab b o/\Λ'.w.cell? ⟨b,o,none⟩=Λ.w.cell? ⟨b,o,none⟩)
  (nxt:Λ.nxt<=Λ'.nxt) (obj:∀b k,k<Λ.nxt->Λ.lab b= .obj k->Λ'.lab b= .obj k)
  (own:∀b k n,k<Λ.nxt->b<Λ.w.heap.size->Λ.lab b= .arr k n->Λ'.fro k=Λ.fro k->Λ'.lab b= .arr k n/\Λ'.w.heap[b]?=Λ.w.heap[b]?)
  (fro:∀k,k<Λ.nxt->Λ.fro k<=Λ'.fro k):Kp Λ Λ':=
 ⟨⟨os,tape,output,size,fix,arr,fun b hb k i fr hl o ho=>⟨by simp [Rd,(F.far b k i fr).2 hl,ho],cell?_heap (F.har b k i fr hb hl)⟩⟩,nxt,obj,own,fro,
  fun b k i _ hl=>⟨(F.fob b k i).2 hl,fun N hN=>by unfold Zk at hN⊢;rw [F.hob b k i hl];exact hN⟩,
  fun b k i n _ hb hl _=>⟨(F.far b k i n).2 hl,F.har b k i n hb hl⟩,fun k i _=>by rw [F.frf];exact Nat.le_refl _,fun b k i _ _ _ hl=>(F.fob b k i).1 hl⟩
def Lab.old:Lab->Bool
 | .fob _ _=>false
 | .far _ _ _=>false
 |_=>true
theorem Zb.relabel {Λ Λ':L} {b:Nat} {X:Lab} (hl:Λ'.lab=GB.zZ Λ.lab b X) (hX:X.old=true) (hb:(Λ.lab b).old=true) (hf:Λ'.frf=Λ.frf)
  (hh:∀c,c<Λ.w.heap.size->c≠b->Λ'.w.heap[c]?=Λ.w.heap[c]?) (hn:∀c,Λ.w.heap.size<=c->Λ.lab c= .fix none):Zb Λ Λ':=by
 have lt:∀{c:Nat},Λ.lab c≠ .fix none->c<Λ.w.heap.size:=fun {c} h=>by
  rcases Nat.lt_or_ge c Λ.w.heap.size with h'|h'
  ·exact h'
  ·exact absurd (hn c h') h
 refine ⟨fun c k i=>?_,fun c k i n=>?_,hf,fun c k i e=>?_,fun c k i n _ e=>?_⟩
 ·rw [hl];by_cases e:c=b
  ·subst e;rw [zo]
   exact ⟨fun h=>by rw [h] at hX;simp [Lab.old] at hX,fun h=>by rw [h] at hb;simp [Lab.old] at hb⟩
  ·rw [zu e]
 ·rw [hl];by_cases e:c=b
  ·subst e;rw [zo]
   exact ⟨fun h=>by rw [h] at hX;simp [Lab.old] at hX,fun h=>by rw [h] at hb;simp [Lab.old] at hb⟩
  ·rw [zu e]
 ·exact hh c (lt (by rw [e];simp)) (fun e'=>by subst e';rw [e] at hb;simp [Lab.old] at hb)
 ·exact hh c (lt (by rw [e];simp)) (fun e'=>by subst e';rw [e] at hb;simp [Lab.old] at hb)
theorem Zb.same {Λ Λ':L} {b:Nat} (hl:Λ'.lab=Λ.lab) (hb:(Λ.lab b).old=true) (hf:Λ'.frf=Λ.frf) (hh:∀c,c≠b->Λ'.w.heap[c]?=Λ.w.heap[c]?):Zb Λ Λ':=by
 refine ⟨fun c k i=>by rw [hl],fun c k i n=>by rw [hl],hf,fun c k i e=>hh c ?_,fun c k i n _ e=>hh c ?_⟩<;>(rintro rfl;rw [e] at hb;simp [Lab.old] at hb)
theorem Zb.new {Λ:L} {w':World} {o:Obj} (g:yA Λ.w w' o) (hb:∀b,Λ.w.heap.size<=b->Λ.lab b= .fix none) (X:Lab) (hX:X.old=true):
  Zb Λ {Λ with lab:=zZ Λ.lab Λ.w.heap.size X,w:=w'}:=
 Zb.relabel rfl hX (by rw [hb _ (Nat.le_refl _)];rfl) rfl (fun c hc _=>g.old hc) hb
theorem Kp.new {Λ:L} {w':World} {o:Obj} (g:yA Λ.w w' o) (hb:∀b,Λ.w.heap.size<=b->Λ.lab b= .fix none) (X:Lab) (hX:X.old=true:=by rfl):
  Kp Λ {Λ with lab:=zZ Λ.lab Λ.w.heap.size X,w:=w'}:=by
 have hne:∀{b:Nat},b<Λ.w.heap.size->zZ Λ.lab Λ.w.heap.size X b=Λ.lab b:=fun h=>zu (by omega);refine Kp.old (Zb.new g hb X hX) g.os g.tape g.output (by rw [g.size];omega) (fun b h fr hl=>⟨by simp only [hne h];exact hl,g.old h⟩) (fun b h k fr hl o ho=>⟨?_,cell?_heap (g.old h)⟩) (Nat.le_refl _) (fun b k _ hl=>?_) (fun b k n _ h hl _=>⟨by simp only [hne h];exact hl,g.old h⟩) (fun k _=>Nat.le_refl _)
 ·simp only [Rd,hne h,hl];exact ho
 ·have:b<Λ.w.heap.size:=by
   rcases Nat.lt_or_ge b Λ.w.heap.size with h|h
   ·exact h
   ·rw [hb b h] at hl;simp at hl
  simp only [hne this];exact hl
theorem Zb.Zz {Λ:L} {k n:Nat}:Zb Λ {Λ with fro:=GB.Zz Λ.fro k n}:=⟨fun _ _ _=>Iff.rfl,fun _ _ _ _=>Iff.rfl,rfl,fun _ _ _ _=>rfl,fun _ _ _ _ _ _=>rfl⟩
theorem Kp.Zz {Λ:L} {k n:Nat} (hn:Λ.fro k<=n):Kp Λ {Λ with fro:=Zz Λ.fro k n}:=by
 refine ⟨Fr.refl _ _,Nat.le_refl _,fun _ _ _ h=>h,fun b j m _ _ hl _=>⟨hl,rfl⟩,fun j _=>?_,fun _ _ _ _ h=>⟨h,fun _ h=>h⟩,fun _ _ _ _ _ _ h _=>⟨h,rfl⟩,fun _ _ _=>Nat.le_refl _,fun _ _ _ _ _ _ h=>h⟩;by_cases e:j=k
 ·subst e;simp [GB.Zz,hn]
 ·simp [GB.Zz,e]
theorem Zb.left {Λ:L} {b k fr n:Nat} (hb:Λ.lab b= .arr k fr):Zb Λ {Λ with lab:=zZ Λ.lab b (.fix (some fr)),fro:=GB.Zz Λ.fro k n}:=by
 refine ⟨fun c j i=>?_,fun c j i m=>?_,rfl,fun _ _ _ _=>rfl,fun _ _ _ _ _ _=>rfl⟩
 ·by_cases e:c=b
  ·subst e;simp [zo,hb]
  ·simp only [zu e]
 ·by_cases e:c=b
  ·subst e;simp [zo,hb]
  ·simp only [zu e]
theorem Kp.left {Λ:L} {b k fr n:Nat} (hb:Λ.lab b= .arr k fr) (hn:Λ.fro k<n):
  Kp Λ {Λ with lab:=zZ Λ.lab b (.fix (some fr)),fro:=GB.Zz Λ.fro k n}:=by
 refine Kp.old (Zb.left hb) Z Z Z (Nat.le_refl _) (fun c _ f hl=>⟨?_,rfl⟩) (fun c _ j f hl o ho=>⟨?_,rfl⟩) (Nat.le_refl _) (fun c j _ hl=>?_) (fun c j m _ _ hl hf=>?_) (fun j _=>?_)
 ·have:c≠b:=by rintro rfl;rw [hb] at hl;simp at hl
  simp only [zu this];exact hl
 ·by_cases e:c=b
  ·subst e;rw [hb] at hl;simp at hl;obtain ⟨rfl,rfl⟩:=hl;simp [Rd,zZ,ho]
  ·simp only [Rd,zu e,hl];exact ho
 ·have:c≠b:=by rintro rfl;rw [hb] at hl;simp at hl
  simp only [zu this];exact hl
 ·by_cases e:j=k
  ·subst e;simp [GB.Zz] at hf;omega
  ·have:c≠b:=by rintro rfl;rw [hb] at hl;simp at hl;exact e hl.1.symm
   exact ⟨by simp only [zu this];exact hl,rfl⟩
 ·by_cases e:j=k
  ·subst e;simp [GB.Zz];omega
  ·simp [GB.Zz,e]
structure Yp (w w':World) (b:Nat):Prop where
 os:w'.os=w.os
 tape:w'.tape=w.tape
 output:w'.output=w.output
 size:w'.heap.size=w.heap.size
 old:∀c,c≠b->w'.heap[c]?=w.heap[c]?
theorem Yp.setRow (w:World) (b:Nat) (cs:Array Value):Yp w (w.setRow b cs) b:=⟨rfl,rfl,rfl,by simp,fun c hc=>setRow_other w b c cs hc⟩
theorem Zb.wrote {Λ:L} {w':World} {b k:Nat} (g:Yp Λ.w w' b) (hb:Λ.lab b= .obj k):Zb Λ {Λ with w:=w'}:=
 Zb.same (b:=b) rfl (by rw [hb];rfl) rfl fun c hc=>g.old c hc
theorem Kp.wrote {Λ:L} {w':World} {b k:Nat} (g:Yp Λ.w w' b) (hb:Λ.lab b= .obj k):Kp Λ {Λ with w:=w'}:=by
 have hne:∀{c:Nat} {x:Lab},Λ.lab c=x->(∀j,x≠ .obj j)->c≠b:=fun h hx e=>hx k (by rw [←h,e,hb])
 exact Kp.old (Zb.wrote g hb) g.os g.tape g.output (by rw [g.size];exact Nat.le_refl _) (fun c _ fr hl=>⟨hl,g.old c (hne hl (by simp))⟩) (fun c _ j fr hl o ho=>⟨by simp [Rd,hl,ho],cell?_heap (g.old c (hne hl (by simp)))⟩) (Nat.le_refl _) (fun _ _ _ h=>h) (fun c j n _ _ hl _=>⟨hl,g.old c (hne hl (by simp))⟩) (fun _ _=>Nat.le_refl _)
theorem Zb.grown {Λ:L} {w':World} {b k fr fr' n:Nat} (g:Yp Λ.w w' b) (hb:Λ.lab b= .arr k fr):Zb Λ {Λ with lab:=zZ Λ.lab b (.arr k fr'),fro:=GB.Zz Λ.fro k n,w:=w'}:=by
 refine ⟨fun c j i=>?_,fun c j i m=>?_,rfl,fun c j i e=>g.old c ?_,fun c j i m _ e=>g.old c ?_⟩
 ·by_cases e:c=b
  ·subst e;simp [zo,hb]
  ·simp only [zu e]
 ·by_cases e:c=b
  ·subst e;simp [zo,hb]
  ·simp only [zu e]
 ·rintro rfl;rw [hb] at e;simp at e
 ·rintro rfl;rw [hb] at e;simp at e
theorem Kp.grown {Λ:L} {w':World} {b k fr fr' n:Nat} (g:Yp Λ.w w' b) (hb:Λ.lab b= .arr k fr) (hfr:fr<=fr') (hc:∀o,o<fr->w'.cell? ⟨b,o,none⟩=Λ.w.cell? ⟨b,o,none⟩) (hn:Λ.fro k<n):
  Kp Λ {Λ with lab:=zZ Λ.lab b (.arr k fr'),fro:=GB.Zz Λ.fro k n,w:=w'}:=by
 refine Kp.old (Zb.grown g hb) g.os g.tape g.output (by rw [g.size];exact Nat.le_refl _) (fun c _ f hl=>?_) (fun c _ j f hl o ho=>?_) (Nat.le_refl _) (fun c j _ hl=>?_) (fun c j m _ _ hl hf=>?_) (fun j _=>?_)
 ·have:c≠b:=by rintro rfl;rw [hb] at hl;simp at hl
  exact ⟨by simp only [zu this];exact hl,g.old c this⟩
 ·by_cases e:c=b
  ·subst e;rw [hb] at hl;simp at hl;obtain ⟨rfl,rfl⟩:=hl
   exact ⟨by simp [Rd,zZ];omega,hc o ho⟩
  ·exact ⟨by simp only [Rd,zu e,hl];exact ho,cell?_heap (g.old c e)⟩
 ·have:c≠b:=by rintro rfl;rw [hb] at hl;simp at hl
  simp only [zu this];exact hl
 ·by_cases e:j=k
  ·subst e;simp [GB.Zz] at hf;omega
  ·have:c≠b:=by rintro rfl;rw [hb] at hl;simp at hl;exact e hl.1.symm
   exact ⟨by simp only [zu this];exact hl,g.old c this⟩
 ·by_cases e:j=k
  ·subst e;simp [GB.Zz];omega
  ·simp [GB.Zz,e]
theorem Z4.step {Λ Λ':L} {s s':S} (h:Z4 Λ s) (hk:Kp Λ Λ') (hx:Λ'.nxt=Λ.nxt)
  (hsto:∀k o,zi s'.sto k=some o->(zi s.sto k=some o/\(∀b,Λ.lab b= .obj k->Λ'.w.heap[b]?=Λ.w.heap[b]?)/\Λ'.fro k=Λ.fro k)∨(k<Λ.nxt/\W5 Λ' k o))
  (hinj:∀b b' k,Λ'.lab b= .obj k->Λ'.lab b'= .obj k->b=b') (hnew:∀b,Λ'.w.heap.size<=b->Λ'.lab b= .fix none)
  (hbnd:∀b k,(Λ'.lab b= .obj k∨∃n,Λ'.lab b= .arr k n)->k<Λ.nxt) (hfrz:∀k,Λ.nxt<=k->Λ'.fro k=0) (F:Zb Λ Λ'):Z4 Λ' s':=by
 refine ⟨fun k o hko=>?_,hinj,hnew,fun b k hb=>by rw [hx];exact hbnd b k hb,fun k hk'=>hfrz k (by rw [←hx];exact hk'),fun b b' k i e1 e2=>h.YO b b' k i ((F.fob ..).1 e1) ((F.fob ..).1 e2),fun b k hb=>?_,fun k i hk'=>by rw [F.frf];exact h.z0H k i (by rw [←hx];exact hk')⟩
 rotate_left
 ·rw [hx];refine h.YM b k ?_
  rcases hb with ⟨i,hb⟩|⟨i,n,hb⟩
  ·exact .inl ⟨i,(F.fob ..).1 hb⟩
  ·exact .inr ⟨i,n,(F.far ..).1 hb⟩
 rcases hsto k o hko with ⟨h1,h2,h3⟩|⟨h1,h2⟩
 ·obtain ⟨a1,a2⟩:=h.sto k o h1
  exact ⟨by rw [hx];exact a1,a2.mono hk a1 h2 h3 (fun b i=>F.hob b k i) (fun b i=>(F.fob b k i).1) (fun i=>by rw [F.frf])⟩
 ·exact ⟨by rw [hx];exact h1,h2⟩
theorem y9.yq {Λ Λ':L} {k:Nat} (h:y9 Λ k) (F:Zb Λ Λ') (ho:∀b,Λ'.lab b≠ .obj k) (ha:∀b n,Λ'.lab b≠ .arr k n) (hf:Λ'.fro k=0):y9 Λ' k:=
 ⟨ho,ha,hf,fun b i e=>h.fob b i ((F.fob ..).1 e),fun b i n e=>h.far b i n ((F.far ..).1 e),fun i=>by rw [F.frf];exact h.frf i⟩
end Go.GB
