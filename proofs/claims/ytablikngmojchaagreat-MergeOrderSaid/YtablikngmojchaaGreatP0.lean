/-
  YtablikngmojchaaGreatP0: lemmas. No conditions.
-/
import Derived.Calls
import Derived.Orders
import Derived.Laws.World
import Derived.Lib.Bytealg
import Derived.Laws.Sem
import Derived.Laws.Tables
import Derived.Laws.Cells
import Derived.Laws.Rows
import Derived.Laws.Strings
import Derived.Lib.Strings
import Derived.Laws.AppendOwn
import Derived.Laws.CopyRow
import Derived.Laws.MakeOwn
set_option linter.all false
set_option maxRecDepth 100000
set_option maxHeartbeats 16000000
namespace Go.GB
theorem Z.{u} {α:Sort u} {a:α}:a=a:=rfl
theorem zLB {n m:Nat} (h:Nat.ble n m=true):n<=m:=Nat.le_of_ble_eq_true h
theorem zMG {α:Type} {l:List α} {i:Nat} {a:α} (h:l[i]?=some a):a∈l:=List.mem_of_getElem? h
theorem zDT {p:Prop} [s:Decidable p] (h:decide p=true):p:=of_decide_eq_true h
abbrev w00:=@Option.some.injEq
abbrev w01:=@Option.bind_eq_some_iff
abbrev w02:=@List.getElem?_eq_some_iff
abbrev w03:=@List.length_append
abbrev w04:=@Option.bind_eq_bind
abbrev w05:=@Prod.mk.injEq
abbrev w06:=@Option.map_eq_some_iff
abbrev w07:=@Bool.and_eq_true
abbrev w08:=@Nat.lt_of_lt_of_le
abbrev w09:=@Nat.le_refl
abbrev w0a:=@List.getElem?_append_left
abbrev w0b:=@List.getElem?_append_right
abbrev w0c:=@List.getElem?_map
abbrev w0d:=@List.length_cons
abbrev w0e:=@if_pos
abbrev w0f:=@List.getElem?_eq_getElem
abbrev w0g:=@if_neg
abbrev w0h:=@Bool.false_eq_true
abbrev w0i:=@List.all_eq_true
abbrev w0j:=@decide_eq_true_eq
abbrev w0k:=@List.mem_cons_of_mem
abbrev w0l:=@List.append_eq_nil_iff
abbrev w0m:=@List.mem_map
abbrev w0n:=@List.map_cons
abbrev w0o:=@Nat.le_trans
abbrev w0p:=@List.getElem?_take
abbrev w0q:=@List.length_eq_zero_iff
abbrev w0r:=@List.length_map
abbrev w0s:=@Nat.mul_le_mul_right
abbrev w0t:=@List.mem_cons
abbrev w0u:=@List.nil_append
abbrev w0v:=@List.mem_iff_getElem?
abbrev w0w:=@List.getD_eq_getElem?_getD
abbrev w0x:=@if_false
abbrev w0y:=@Nat.zero_add
abbrev w0z:=@List.getElem?_drop
abbrev w10:=@Nat.eq_of_beq_eq_true
abbrev w11:=@Nat.le_of_ble_eq_true
abbrev w12:=@Bool.not_or_self
abbrev w13:=@Nat.add_mul
abbrev w14:=@List.mem_append
abbrev w15:=@List.nodup_cons
abbrev w16:=@List.length_nil
abbrev w17:=@if_true
abbrev w18:=@Bool.false_and
abbrev w19:=@List.getElem?_eq_none
abbrev w1a:=@Nat.lt_or_ge
abbrev w1b:=@Bool.true_and
abbrev w1c:=@Array.getElem?_append_left
abbrev w1d:=@List.any_cons
abbrev w1e:=@Nat.add_assoc
abbrev w1f:=@List.take_add_one
abbrev w1g:=@List.append_assoc
abbrev w1h:=@List.size_toArray
abbrev w1i:=@List.mem_singleton
abbrev w1j:=@List.append_nil
abbrev w1k:=@Bool.or_eq_false_iff
abbrev w1l:=@List.take_of_length_le
abbrev w1m:=@List.drop_eq_nil_of_le
abbrev w1n:=@Bool.eq_iff_iff
abbrev w1o:=@Array.length_toList
abbrev w1p:=@Array.getD_eq_getD_getElem?
abbrev w1q:=@List.getElem?_set
abbrev w1r:=@List.flatten_cons
abbrev w1s:=@Array.getElem?_eq_some_iff
abbrev w1t:=@Array.getElem?_toList
abbrev w1u:=@decide_eq_false_iff_not
abbrev w1v:=@List.any_eq_true
abbrev w1w:=@Nat.add_zero
abbrev w1x:=@List.mem_cons_self
abbrev w1y:=@List.cons_append
abbrev w1z:=@Bool.false_or
abbrev w20:=@List.mem_range
abbrev w21:=@Bool.not_eq_true'
abbrev w22:=@List.ext_getElem?
abbrev w23:=@Array.size_append
abbrev w24:=@List.map_append
abbrev w25:=@Option.getD_some
abbrev w26:=@List.length_take
abbrev w27:=@Array.ext'
abbrev w28:=@List.getElem?_toArray
abbrev w29:=@Array.getElem?_modify
abbrev w2a:=@Bool.and_true
abbrev w2b:=@List.length_eraseIdx
abbrev w2c:=@Nat.add_comm
abbrev w2d:=@List.map_congr_left
abbrev w2e:=@List.flatMap_eq_nil_iff
inductive T where
 |bool (b:Bool)
 |int (k:IntKind) (n:Int)
 |str (s:List UInt8)
 |lst (xs:List (List T))
 |ptr (cs:List T)
 |fn (f:FuncId)
 |z2W
 |z0J
 |z6e
inductive V where
 |t (x:T)
 |zC
 |own (k sz:Nat) (xs:List (List T))
 |slc (k off len sz:Nat)
 |agg (cs:List V)
 |tup (vs:List V)
 |ptr (k off:Nat)
 |mp (k:Nat)
 |fn (f:FuncId) (caps:List (Nat×Nat))
 |gd (c:Bool) (x:V)
 |top
 |ub (c d:Prop)
 |fpt (k i off:Nat)
 |gpt (k ver off:Nat)
 |gsl (k ver off len sz:Nat)
 |fow (k i sz:Nat) (xs:List (List T))
inductive zd where
 |cells (cs:List V)
 |map (kag:Bool) (es:List (List T×V)) (st:Option (Nat×List Nat))
 |arr (n:Nat)
 |iter (q since:Nat) (seen:List Nat) (last:Nat)
 |gro (r:Nat) (cs:List V)
 |yL (os:List (List V))
 |y8 (ns:List Nat)
 |WN (kag:Bool) (I:List T->T->Prop)
inductive Lab where
 |fix (fr:Option Nat)
 |obj (k:Nat)
 |arr (k fr:Nat)
 |fob (k i:Nat)
 |far (k i fr:Nat)
structure L where
 lab:Nat->Lab
 fro:Nat->Nat
 nxt:Nat
 w:World
 frf:Nat->Nat->Nat
def Zl (w:World) (b:Nat):Option Nat:=
 match w.heap[b]? with
 |some (.cells arr _ _)=>some arr.size
 |_=>none
def Rd (l:Nat->Lab) (b o:Nat):Prop:=
 match l b with
 | .fix none=>True
 | .fix (some fr)=>o<fr
 | .arr _ fr=>o<fr
 | .obj _=>False
 | .far _ _ fr=>o<fr
 | .fob _ _=>False
inductive zI (l:Nat->Lab) (w:World):Value->T->Prop
 |bool (b:Bool):zI l w (.bool b) (.bool b)
 |int (k:IntKind) (n:Int):zI l w (.int k n) (.int k n)
 |str (s:List UInt8):zI l w (.string ⟨⟨s⟩⟩) (.str s)
 |fn (f:FuncId):zI l w (.func (.func f) #[] #[]) (.fn f)
 |z2W:zI l w (.pointer none) .z2W
 |z0J:zI l w (.map none) .z0J
 |z6e:zI l w .nilFunc .z6e
 |ptr (cs:List T) (b o:Nat) (vf:Nat->Value)
   (hr:∀(j:Nat) (x:T),cs[j]?=some x->Rd l b (o+j))
   (hc:∀(j:Nat) (x:T),cs[j]?=some x->w.cell? ⟨b,o+j,none⟩=some (vf j))
   (h:∀(j:Nat) (x:T),cs[j]?=some x->zI l w (vf j) x):
   zI l w (.pointer (some ⟨b,o,none⟩)) (.ptr cs)
 |lst (a:Option Addr) (cap sz:Nat) (xs:List (List T)) (b o:Nat) (vf:Nat->Nat->Value)
   (hcap:xs.length<=cap) (hsz:∀(i:Nat) (c:List T),xs[i]?=some c->c.length=sz)
   (ha:∀(i j:Nat) (c:List T) (x:T),xs[i]?=some c->c[j]?=some x->a=some ⟨b,o,none⟩)
   (hr:∀(i j:Nat) (c:List T) (x:T),xs[i]?=some c->c[j]?=some x->Rd l b (o+i*sz+j))
   (hc:∀(i j:Nat) (c:List T) (x:T),xs[i]?=some c->c[j]?=some x->w.cell? ⟨b,o+i*sz+j,none⟩=some (vf i j))
   (h:∀(i j:Nat) (c:List T) (x:T),xs[i]?=some c->c[j]?=some x->zI l w (vf i j) x):
   zI l w (.slice a xs.length cap) (.lst xs)
structure Fr (l:Nat->Lab) (w:World) (l':Nat->Lab) (w':World):Prop where
 os:w'.os=w.os
 tape:w'.tape=w.tape
 output:w'.output=w.output
 size:w.heap.size<=w'.heap.size
 fix:∀b,b<w.heap.size->∀fr,l b= .fix fr->l' b= .fix fr/\w'.heap[b]?=w.heap[b]?
 arr:∀b,b<w.heap.size->∀k fr,l b= .arr k fr->∀o,o<fr->Rd l' b o/\w'.cell? ⟨b,o,none⟩=w.cell? ⟨b,o,none⟩
 far:∀b,b<w.heap.size->∀k i fr,l b= .far k i fr->∀o,o<fr->Rd l' b o/\w'.cell? ⟨b,o,none⟩=w.cell? ⟨b,o,none⟩
theorem cell?_heap {w w':World} {b o:Nat} (h:w'.heap[b]?=w.heap[b]?):w'.cell? ⟨b,o,none⟩=w.cell? ⟨b,o,none⟩:=by
 simp [World.cell?,h]
theorem z9a {w:World} {b o:Nat} {v:Value} (h:w.cell? ⟨b,o,none⟩=some v):b<w.heap.size:=by
 unfold World.cell? at h;simp only at h
 cases hb:w.heap[b]? with
 |none=>rw [hb] at h;simp at h
 |some x=>exact (w1s.1 hb).1
theorem z1F {w:World} {b:Nat} {o:Obj} (h:w.heap[b]?=some o):b<w.heap.size:=(w1s.1 h).1
theorem Fr.refl (l:Nat->Lab) (w:World):Fr l w l w:=
 ⟨rfl,rfl,rfl,w09 _,fun _ _ _ h=>⟨h,rfl⟩,fun b _ k fr h o ho=>⟨by simp [Rd,h,ho],rfl⟩,fun b _ k i fr h o ho=>⟨by simp [Rd,h,ho],rfl⟩⟩
theorem Fr.step {l l':Nat->Lab} {w w':World} (h:Fr l w l' w') {b o:Nat} (hb:b<w.heap.size) (hr:Rd l b o):
  Rd l' b o/\w'.cell? ⟨b,o,none⟩=w.cell? ⟨b,o,none⟩:=by
 cases hl:l b with
 |fix fr=>
  have:=h.fix b hb fr hl;refine ⟨?_,cell?_heap this.2⟩;simpa [Rd,hl,this.1] using hr
 |obj k=>simp [Rd,hl] at hr
 |arr k fr=>
  have hr':o<fr:=by simpa [Rd,hl] using hr
  exact h.arr b hb k fr hl o hr'
 |fob k i=>simp [Rd,hl] at hr
 |far k i fr=>
  have hr':o<fr:=by simpa [Rd,hl] using hr
  exact h.far b hb k i fr hl o hr'
theorem Fr.trans {l1 l2 l3:Nat->Lab} {w1 w2 w3:World} (h:Fr l1 w1 l2 w2) (k:Fr l2 w2 l3 w3):Fr l1 w1 l3 w3:=by
 refine ⟨k.os.trans h.os,k.tape.trans h.tape,k.output.trans h.output,w0o h.size k.size,?_,?_,?_⟩
 ·intro b hb fr hl;obtain ⟨h1,h2⟩:=h.fix b hb fr hl;obtain ⟨k1,k2⟩:=k.fix b (w08 hb h.size) fr h1;exact ⟨k1,k2.trans h2⟩
 ·intro b hb n fr hl o ho;obtain ⟨h1,h2⟩:=h.arr b hb n fr hl o ho;obtain ⟨k1,k2⟩:=k.step (w08 hb h.size) h1;exact ⟨k1,k2.trans h2⟩
 ·intro b hb n i fr hl o ho;obtain ⟨h1,h2⟩:=h.far b hb n i fr hl o ho;obtain ⟨k1,k2⟩:=k.step (w08 hb h.size) h1;exact ⟨k1,k2.trans h2⟩
theorem zI.ZX {l l':Nat->Lab} {w w':World} (hf:∀b o v,w.cell? ⟨b,o,none⟩=some v->Rd l b o->Rd l' b o/\w'.cell? ⟨b,o,none⟩=w.cell? ⟨b,o,none⟩) {v:Value} {x:T} (h:zI l w v x):zI l' w' v x:=by
 induction h with
 |bool b=>exact .bool b
 |int k n=>exact .int k n
 |str s=>exact .str s
 |fn f=>exact .fn f
 |z2W=>exact .z2W
 |z0J=>exact .z0J
 |z6e=>exact .z6e
 |ptr cs b o vf hr hc _ ih=>
  refine .ptr cs b o vf ?_ ?_ ih
  ·intro j x h;exact (hf _ _ _ (hc j x h) (hr j x h)).1
  ·intro j x h;rw [(hf _ _ _ (hc j x h) (hr j x h)).2];exact hc j x h
 |lst a cap sz xs b o vf hcap hsz ha hr hc _ ih=>
  refine .lst a cap sz xs b o vf hcap hsz ha ?_ ?_ ih
  ·intro i j c x h1 h2;exact (hf _ _ _ (hc i j c x h1 h2) (hr i j c x h1 h2)).1
  ·intro i j c x h1 h2;rw [(hf _ _ _ (hc i j c x h1 h2) (hr i j c x h1 h2)).2];exact hc i j c x h1 h2
theorem zI.mono {l l':Nat->Lab} {w w':World} (hf:Fr l w l' w') {v:Value} {x:T} (h:zI l w v x):zI l' w' v x:=
 h.ZX fun _ _ _ hc hr=>hf.step (z9a hc) hr
def zh5 (l:Nat->Lab) (w:World) (k sz n:Nat) (v:Value):Prop:=
 ((∃a:Option Addr,v= .slice a 0 0)/\n=0)∨
 ∃(b cap:Nat) (arr:Array Value) (e:TypeId),v= .slice (some ⟨b,0,none⟩) n cap/\l b= .arr k (n*sz)/\
  w.heap[b]?=some (.cells arr e (0,0))/\arr.size=cap*sz/\n<=cap
def zfN (l:Nat->Lab) (w:World) (k i sz n:Nat) (v:Value):Prop:=
 ((∃a:Option Addr,v= .slice a 0 0)/\n=0)∨
 ∃(b cap:Nat) (arr:Array Value) (e:TypeId),v= .slice (some ⟨b,0,none⟩) n cap/\l b= .far k i (n*sz)/\
  w.heap[b]?=some (.cells arr e (0,0))/\arr.size=cap*sz/\n<=cap
def qu (l:Nat->Lab) (k b:Nat):Prop:=∃i,l b= .fob k i/\∀b' i',l b'= .fob k i'->i'<=i
def zfy (l:Nat->Lab) (w:World) (k off len sz:Nat) (v:Value):Prop:=
 ((∃a:Option Addr,v= .slice a 0 0)/\len=0)∨
 ∃(b cap N:Nat),v= .slice (some ⟨b,off,none⟩) len cap/\len<=cap/\qu l k b/\Zl w b=some N/\off+cap*sz=N
inductive zr (Λ:L):Value->V->Prop
 |t {v:Value} {x:T} (h:zI Λ.lab Λ.w v x):zr Λ v (.t x)
 |zC {a:Option Addr}:zr Λ (.slice a 0 0) .zC
 |own {v:Value} {k sz:Nat} {xs:List (List T)} (h:zI Λ.lab Λ.w v (.lst xs)) (hsz:∀(i:Nat) (c:List T),xs[i]?=some c->c.length=sz)
   (hk:k<Λ.nxt) (hn:xs.length<=Λ.fro k) (ho:xs.length=Λ.fro k->zh5 Λ.lab Λ.w k sz xs.length v):zr Λ v (.own k sz xs)
 |slc {b k off len cap sz:Nat} (hk:k<Λ.nxt) (hc:len<=cap) (h:Λ.lab b= .obj k):zr Λ (.slice (some ⟨b,off,none⟩) len cap) (.slc k off len sz)
 |agg {vs:Array Value} {cs:List V} (hs:vs.size=cs.length) (h:∀(j:Nat) (v:Value) (c:V),vs[j]?=some v->cs[j]?=some c->zr Λ v c):zr Λ (.agg vs) (.agg cs)
 |tup {vs:Array Value} {cs:List V} (hs:vs.size=cs.length) (h:∀(j:Nat) (v:Value) (c:V),vs[j]?=some v->cs[j]?=some c->zr Λ v c):zr Λ (.tuple vs) (.tup cs)
 |ptr {b k off:Nat} (hk:k<Λ.nxt) (h:Λ.lab b= .obj k):zr Λ (.pointer (some ⟨b,off,none⟩)) (.ptr k off)
 |mp {b k:Nat} (hk:k<Λ.nxt) (h:Λ.lab b= .obj k):zr Λ (.map (some b)) (.mp k)
 |fn {f:FuncId} {vs:Array Value} {cs:List (Nat×Nat)} (hs:vs.size=cs.length)
   (h:∀(j:Nat) (v:Value) (c:Nat×Nat),vs[j]?=some v->cs[j]?=some c->∃b,v= .pointer (some ⟨b,c.2,none⟩)/\Λ.lab b= .obj c.1/\c.1<Λ.nxt):
   zr Λ (.func (.func f) #[] vs) (.fn f cs)
 |gd {v:Value} {c:Bool} {x:V} (h:c=true->zr Λ v x) (h':c=false->v=undef):zr Λ v (.gd c x)
 |top {v:Value}:zr Λ v .top
 |ub {b:Bool} {c d:Prop} (h:b=true->c) (h':b=false->d):zr Λ (.bool b) (.ub c d)
 |fpt {b k i off:Nat} (hk:k<Λ.nxt) (h:Λ.lab b= .fob k i):zr Λ (.pointer (some ⟨b,off,none⟩)) (.fpt k i off)
 |gpt {v:Value} {k ver off:Nat} (hv:∃a,v= .pointer a) (hk:k<Λ.nxt) (hn:0<ver/\ver<=Λ.frf k 0) (h:ver=Λ.frf k 0->∃b,v= .pointer (some ⟨b,off,none⟩)/\qu Λ.lab k b):zr Λ v (.gpt k ver off)
 |gsl {v:Value} {k ver off len sz:Nat} (hv:∃a n c,v= .slice a n c) (hk:k<Λ.nxt) (hn:(ver=0->(∃a:Option Addr,v= .slice a 0 0)/\len=0)/\ver<=Λ.frf k 0) (h:ver=Λ.frf k 0->zfy Λ.lab Λ.w k off len sz v):zr Λ v (.gsl k ver off len sz)
 |fow {v:Value} {k i sz:Nat} {xs:List (List T)} (h:zI Λ.lab Λ.w v (.lst xs)) (hsz:∀(i:Nat) (c:List T),xs[i]?=some c->c.length=sz)
   (hk:k<Λ.nxt) (hn:xs.length<=Λ.frf k i) (ho:xs.length=Λ.frf k i->zfN Λ.lab Λ.w k i sz xs.length v):zr Λ v (.fow k i sz xs)
structure Kp (Λ Λ':L):Prop where
 fr:Fr Λ.lab Λ.w Λ'.lab Λ'.w
 nxt:Λ.nxt<=Λ'.nxt
 obj:∀b k,k<Λ.nxt->Λ.lab b= .obj k->Λ'.lab b= .obj k
 own:∀b k n,k<Λ.nxt->b<Λ.w.heap.size->Λ.lab b= .arr k n->Λ'.fro k=Λ.fro k->Λ'.lab b= .arr k n/\Λ'.w.heap[b]?=Λ.w.heap[b]?
 fro:∀k,k<Λ.nxt->Λ.fro k<=Λ'.fro k
 fob:∀b k i,k<Λ.nxt->Λ.lab b= .fob k i->Λ'.lab b= .fob k i/\∀N,Zl Λ.w b=some N->Zl Λ'.w b=some N
 far:∀b k i n,k<Λ.nxt->b<Λ.w.heap.size->Λ.lab b= .far k i n->Λ'.frf k i=Λ.frf k i->Λ'.lab b= .far k i n/\Λ'.w.heap[b]?=Λ.w.heap[b]?
 frf:∀k i,k<Λ.nxt->Λ.frf k i<=Λ'.frf k i
 z4C:∀b k i,k<Λ.nxt->0<Λ.frf k 0->Λ'.frf k 0=Λ.frf k 0->Λ'.lab b= .fob k i->Λ.lab b= .fob k i
theorem Kp.refl (Λ:L):Kp Λ Λ:=⟨Fr.refl _ _,w09 _,fun _ _ _ h=>h,fun _ _ _ _ _ h _=>⟨h,rfl⟩,fun _ _=>w09 _,fun _ _ _ _ h=>⟨h,fun _ h=>h⟩,fun _ _ _ _ _ _ h _=>⟨h,rfl⟩,fun _ _ _=>w09 _,fun _ _ _ _ _ _ h=>h⟩
theorem Kp.trans {A B C:L} (h:Kp A B) (k:Kp B C):Kp A C:=by
 refine ⟨h.fr.trans k.fr,w0o h.nxt k.nxt,fun b n hn hl=>k.obj b n (w08 hn h.nxt) (h.obj b n hn hl),?_,fun n hn=>w0o (h.fro n hn) (k.fro n (w08 hn h.nxt)),fun b n i hn hl=>?_,?_,fun n i hn=>w0o (h.frf n i hn) (k.frf n i (w08 hn h.nxt)),fun b n i hn hp hf hl=>?_⟩
 rotate_left
 ·obtain ⟨a1,a2⟩:=h.fob b n i hn hl;obtain ⟨b1,b2⟩:=k.fob b n i (w08 hn h.nxt) a1;exact ⟨b1,fun N hN=>b2 N (a2 N hN)⟩
 ·intro b n i m hn hb hl hf;have h1:=h.frf n i hn;have h2:=k.frf n i (w08 hn h.nxt);obtain ⟨e1,e2⟩:=h.far b n i m hn hb hl (by omega);obtain ⟨e3,e4⟩:=k.far b n i m (w08 hn h.nxt) (w08 hb h.fr.size) e1 (by omega);exact ⟨e3,e4.trans e2⟩
 ·have h1:=h.frf n 0 hn;have h2:=k.frf n 0 (w08 hn h.nxt);exact h.z4C b n i hn hp (by omega) (k.z4C b n i (w08 hn h.nxt) (by omega) (by omega) hl)
 intro b n m hn hb hl hf;have h1:=h.fro n hn;have h2:=k.fro n (w08 hn h.nxt);obtain ⟨e1,e2⟩:=h.own b n m hn hb hl (by omega);obtain ⟨e3,e4⟩:=k.own b n m (w08 hn h.nxt) (w08 hb h.fr.size) e1 (by omega);exact ⟨e3,e4.trans e2⟩
theorem zr.mono {Λ Λ':L} (hk:Kp Λ Λ') {v:Value} {x:V} (h:zr Λ v x):zr Λ' v x:=by
 induction h with
 |t h=>exact .t (h.mono hk.fr)
 |zC=>exact .zC
 |@own v k sz xs h hsz hl hn ho=>
  have hf:=hk.fro k hl;refine .own (h.mono hk.fr) hsz (w08 hl hk.nxt) (w0o hn hf) fun he=>?_
  rcases ho (by omega) with ho|⟨b,cap,arr,e,hv,hb,hh,hc,hm⟩
  ·exact .inl ho
  ·obtain ⟨e1,e2⟩:=hk.own b k _ hl (z1F hh) hb (by omega)
   exact .inr ⟨b,cap,arr,e,hv,e1,by rw [e2];exact hh,hc,hm⟩
 |slc hl hc h=>exact .slc (w08 hl hk.nxt) hc (hk.obj _ _ hl h)
 |agg hs _ ih=>exact .agg hs ih
 |tup hs _ ih=>exact .tup hs ih
 |ptr hl h=>exact .ptr (w08 hl hk.nxt) (hk.obj _ _ hl h)
 |mp hl h=>exact .mp (w08 hl hk.nxt) (hk.obj _ _ hl h)
 |fn hs h=>exact .fn hs fun j v c h1 h2=>let ⟨b,e1,e2,e3⟩:=h j v c h1 h2;⟨b,e1,hk.obj _ _ e3 e2,w08 e3 hk.nxt⟩
 |gd _ h' ih=>exact .gd ih h'
 |top=>exact .top
 |ub h h'=>exact .ub h h'
 |fpt hl h=>exact .fpt (w08 hl hk.nxt) (hk.fob _ _ _ hl h).1
 |@gpt v k ver off hv hl hn h=>
  have hf:=hk.frf k 0 hl;obtain ⟨hp,hn⟩:=hn;refine .gpt hv (w08 hl hk.nxt) ⟨hp,w0o hn hf⟩ fun he=>?_;obtain ⟨b,e1,i,e2,e3⟩:=h (by omega);exact ⟨b,e1,i,(hk.fob _ _ _ hl e2).1,fun b' i' h'=>e3 b' i' (hk.z4C b' k i' hl (by omega) (by omega) h')⟩
 |@gsl v k ver off len sz hv hl hn h=>
  have hf:=hk.frf k 0 hl;obtain ⟨hp,hn⟩:=hn;refine .gsl hv (w08 hl hk.nxt) ⟨hp,w0o hn hf⟩ fun he=>?_;by_cases h0:ver=0
  ·exact .inl (hp h0)
  rcases h (by omega) with h|⟨b,cap,N,hv,hc,⟨i,e2,e3⟩,hN,he'⟩
  ·exact .inl h
  ·obtain ⟨e1,e4⟩:=hk.fob _ _ _ hl e2;exact .inr ⟨b,cap,N,hv,hc,⟨i,e1,fun b' i' h'=>e3 b' i' (hk.z4C b' k i' hl (by omega) (by omega) h')⟩,e4 N hN,he'⟩
 |@fow v k i sz xs h hsz hl hn ho=>
  have hf:=hk.frf k i hl;refine .fow (h.mono hk.fr) hsz (w08 hl hk.nxt) (w0o hn hf) fun he=>?_
  rcases ho (by omega) with ho|⟨b,cap,arr,e,hv,hb,hh,hc,hm⟩
  ·exact .inl ho
  ·obtain ⟨e1,e2⟩:=hk.far b k i _ hl (z1F hh) hb (by omega)
   exact .inr ⟨b,cap,arr,e,hv,e1,by rw [e2];exact hh,hc,hm⟩
def zj {α:Type}:List (Nat×α)->Nat->Option α
 |[],_=>none
 |(k,x)::r,t=>if k=t then some x else zj r t
def Ym {α:Type}:List (Nat×α)->Nat->α->List (Nat×α)
 |[],d,v=>[(d,v)]
 |(k,x)::r,d,v=>if k=d then (k,v)::r else (k,x)::Ym r d v
theorem Zb {α:Type} (e:List (Nat×α)) (d:Nat) (v:α) (t:Nat):zj (Ym e d v) t=if d=t then some v else zj e t:=by
 induction e with
 |nil=>simp [Ym,zj]
 |cons h r ih=>
  obtain ⟨k,x⟩:=h;by_cases h1:k=d
  ·subst h1;simp only [Ym,w17,zj];by_cases h:k=t<;>simp [h]
  ·simp only [Ym,h1,w0x,zj,ih];by_cases h3:k=t
   ·subst h3;simp [Ne.symm h1]
   ·simp [h3]
def look (e:List (Nat×V)) (t:Nat):V:=(zj e t).getD .top
theorem Yz (e:List (Nat×V)) (d:Nat) (v:V) (t:Nat):look (Ym e d v) t=if d=t then v else look e t:=by
 unfold look;rw [Zb];split<;>rfl
def q9 (l:Nat->Lab) (w:World) (ag:Bool) (v:Value) (cs:List T):Prop:=
 if ag then ∃vs:Array Value,v= .agg vs/\vs.size=cs.length/\∀(j:Nat) (u:Value) (x:T),vs[j]?=some u->cs[j]?=some x->zI l w u x
 else ∃x,cs=[x]/\zI l w v x
theorem q9.ZX {l l':Nat->Lab} {w w':World} (hf:∀v x,zI l w v x->zI l' w' v x) {ag:Bool} {v:Value} {cs:List T} (h:q9 l w ag v cs):q9 l' w' ag v cs:=by
 unfold q9 at*
 cases ag with
 |true=>obtain ⟨vs,h1,h2,h3⟩:=h;exact ⟨vs,h1,h2,fun j u x a b=>hf _ _ (h3 j u x a b)⟩
 |false=>obtain ⟨x,h1,h2⟩:=h;exact ⟨x,h1,hf _ _ h2⟩
structure wP (Λ:L) (kag:Bool) (ents:Array MapEntry) (clock:Nat) (es:List (List T×V)) (st:Option (Nat×List Nat)):Prop where
 size:ents.size=es.length
 at_:∀(i:Nat) (e:MapEntry) (kv:List T×V),ents[i]?=some e->es[i]?=some kv->q9 Λ.lab Λ.w kag e.key kv.1/\zr Λ e.val kv.2
 born:∀(i:Nat) (e:MapEntry),ents[i]?=some e->e.born<clock
 apart:∀(i j:Nat) (e f:MapEntry),ents[i]?=some e->ents[j]?=some f->e.born=f.born->i=j
 known:∀(c:Nat) (bs:List Nat),st=some (c,bs)->clock=c/\ents.toList.map (·.born)=bs
theorem wP.ZX {Λ Λ':L} (hf:∀v x,zI Λ.lab Λ.w v x->zI Λ'.lab Λ'.w v x) {kag:Bool} {ents:Array MapEntry} {clock:Nat} {es:List (List T×V)} {st:Option (Nat×List Nat)}
  (hg:∀(i:Nat) (kv:List T×V) (v:Value),es[i]?=some kv->zr Λ v kv.2->zr Λ' v kv.2)
  (h:wP Λ kag ents clock es st):wP Λ' kag ents clock es st:=
 ⟨h.size,fun i e kv a b=>⟨(h.at_ i e kv a b).1.ZX hf,hg i kv _ b (h.at_ i e kv a b).2⟩,h.born,h.apart,h.known⟩
def qd (Λ:L) (k:Nat):zd->Prop
 | .cells cs=>∃(b:Nat) (arr:Array Value) (e:TypeId),Λ.lab b= .obj k/\Λ.w.heap[b]?=some (.cells arr e (0,0))/\arr.size=cs.length/\
   ∀(j:Nat) (v:Value) (c:V),arr[j]?=some v->cs[j]?=some c->zr Λ v c
 | .map kag es st=>∃(b:Nat) (ents:Array MapEntry) (clock:Nat),Λ.lab b= .obj k/\Λ.w.heap[b]?=some (.map ents clock)/\wP Λ kag ents clock es st
 | .arr n=>Λ.fro k=n
 | .iter q s seen c=>∃(b bm:Nat),Λ.lab b= .obj k/\Λ.w.heap[b]?=some (.mapIter (some bm) s seen.toArray c)/\Λ.lab bm= .obj q/\q<Λ.nxt
 | .gro ver cs=>Λ.frf k 0=ver/\((cs=[]/\∀b i,Λ.lab b≠ .fob k i)∨∃(b:Nat) (arr:Array Value) (e:TypeId),qu Λ.lab k b/\Λ.w.heap[b]?=some (.cells arr e (0,0))/\cs.length<=arr.size/\
   ∀(j:Nat) (v:Value) (c:V),arr[j]?=some v->cs[j]?=some c->zr Λ v c)
 | .yL os=>(∀b i,Λ.lab b= .fob k i->i<os.length)/\∀(i:Nat) (cs:List V),os[i]?=some cs->∃(b:Nat) (arr:Array Value) (e:TypeId),Λ.lab b= .fob k i/\Λ.w.heap[b]?=some (.cells arr e (0,0))/\arr.size=cs.length/\
   ∀(j:Nat) (v:Value) (c:V),arr[j]?=some v->cs[j]?=some c->zr Λ v c
 | .y8 ns=>∀i,Λ.frf k i=(ns[i]?).getD 0
 | .WN kag I=>∃(b:Nat) (ents:Array MapEntry) (clock:Nat),Λ.lab b= .obj k/\Λ.w.heap[b]?=some (.map ents clock)/\(∀(i:Nat) (e:MapEntry),ents[i]?=some e->e.born<clock)/\
   (∀(i j:Nat) (e f:MapEntry),ents[i]?=some e->ents[j]?=some f->e.born=f.born->i=j)/\∀(i:Nat) (e:MapEntry),ents[i]?=some e->∃cs x,q9 Λ.lab Λ.w kag e.key cs/\zI Λ.lab Λ.w e.val x/\I cs x
structure S where
 sto:List (Nat×zd)
 nxt:Nat
structure zT (Λ:L) (s:S):Prop where
 sto:∀(k:Nat) (o:zd),zj s.sto k=some o->k<Λ.nxt/\qd Λ k o
 inj:∀b b' k,Λ.lab b= .obj k->Λ.lab b'= .obj k->b=b'
 new:∀b,Λ.w.heap.size<=b->Λ.lab b= .fix none
 bnd:∀b k,(Λ.lab b= .obj k∨∃n,Λ.lab b= .arr k n)->k<Λ.nxt
 frz:∀k,Λ.nxt<=k->Λ.fro k=0
 YX:∀b b' k i,Λ.lab b= .fob k i->Λ.lab b'= .fob k i->b=b'
 Yu:∀b k,((∃i,Λ.lab b= .fob k i)∨∃i n,Λ.lab b= .far k i n)->k<Λ.nxt
 z2g:∀k i,Λ.nxt<=k->Λ.frf k i=0
structure St where
 env:List (Nat×V)
 s:S
structure Ctx where
 P:Program
 n:Nat
 Λ:L
structure Rel (C:Ctx) (Λ:L) (st:St) (a:Act):Prop where
 kp:Kp C.Λ Λ
 size:a.tmps.size=C.n
 defers:a.defers=[]
 env:∀t,zr Λ (a.tmps.getD t undef) (look st.env t)
 s:zT Λ st.s
theorem zdD (a:Act) (d:Nat) (v:Value) (t:Nat) (h:d<a.tmps.size):
  (a.put (some d) v).tmps.getD t undef=if d=t then v else a.tmps.getD t undef:=by
 unfold Act.put;simp only [w1p,Array.getElem?_setIfInBounds];by_cases e:d=t
 ·subst e;simp [h]
 ·simp [e]
theorem zc7 (a:Act) (d:Option Nat) (v:Value):(a.put d v).tmps.size=a.tmps.size:=by
 cases d<;>simp [Act.put]
theorem qd.mono {Λ Λ':L} (hk:Kp Λ Λ') {k:Nat} {o:zd} (hl:k<Λ.nxt) (hb:∀b,Λ.lab b= .obj k->Λ'.w.heap[b]?=Λ.w.heap[b]?) (hf:Λ'.fro k=Λ.fro k)
  (hb2:∀b i,Λ.lab b= .fob k i->Λ'.w.heap[b]?=Λ.w.heap[b]?) (hb3:∀b i,Λ'.lab b= .fob k i->Λ.lab b= .fob k i) (hf2:∀i,Λ'.frf k i=Λ.frf k i) (h:qd Λ k o):qd Λ' k o:=by
 cases o with
 |cells cs=>
  obtain ⟨b,arr,e,h1,h2,h3,h4⟩:=h
  exact ⟨b,arr,e,hk.obj _ _ hl h1,by rw [hb b h1];exact h2,h3,fun j v c a1 a2=>(h4 j v c a1 a2).mono hk⟩
 |map kag es st=>
  obtain ⟨b,ents,clock,h1,h2,h3⟩:=h
  exact ⟨b,ents,clock,hk.obj _ _ hl h1,by rw [hb b h1];exact h2,h3.ZX (fun _ _ h=>h.mono hk.fr) (fun _ _ _ _ h=>h.mono hk)⟩
 |arr n=>unfold qd at*;rw [hf];exact h
 |iter q s seen c=>
  obtain ⟨b,bm,h1,h2,h3,h4⟩:=h
  exact ⟨b,bm,hk.obj _ _ hl h1,by rw [hb b h1];exact h2,hk.obj _ _ h4 h3,w08 h4 hk.nxt⟩
 |gro r cs=>
  obtain ⟨h0,h⟩:=h;refine ⟨(hf2 0).trans h0,?_⟩
  rcases h with ⟨h1,h2⟩|⟨b,arr,e,⟨i,h1,h1'⟩,h2,h3,h4⟩
  ·exact .inl ⟨h1,fun b i hbr=>h2 b i (hb3 b i hbr)⟩
  ·exact .inr ⟨b,arr,e,⟨i,(hk.fob _ _ _ hl h1).1,fun b' i' h'=>h1' b' i' (hb3 b' i' h')⟩,by rw [hb2 b i h1];exact h2,h3,fun j v c a1 a2=>(h4 j v c a1 a2).mono hk⟩
 |yL os=>
  obtain ⟨h0,h⟩:=h;refine ⟨fun b i hbi=>h0 b i (hb3 b i hbi),fun i cs hi=>?_⟩;obtain ⟨b,arr,e,h1,h2,h3,h4⟩:=h i cs hi
  exact ⟨b,arr,e,(hk.fob _ _ _ hl h1).1,by rw [hb2 b i h1];exact h2,h3,fun j v c a1 a2=>(h4 j v c a1 a2).mono hk⟩
 |y8 ns=>exact fun i=>(hf2 i).trans (h i)
 |WN kag I=>
  obtain ⟨b,ents,clock,h1,h2,h3,h4,h5⟩:=h
  refine ⟨b,ents,clock,hk.obj _ _ hl h1,by rw [hb b h1];exact h2,h3,h4,fun i e hi=>?_⟩
  obtain ⟨cs,v,g1,g2,g3⟩:=h5 i e hi;exact ⟨cs,v,g1.ZX fun _ _ h=>h.mono hk.fr,g2.mono hk.fr,g3⟩
structure Out where
 v:V
 ob:List (Nat×zd):=[]
 n:Nat:=0
 rd:Bool:=false
def Zf:List (Nat×zd)->List (Nat×zd)->List (Nat×zd)
 |s,[]=>s
 |s,(k,o)::r=>Zf (Ym s k o) r
def S.app (s:S) (o:Out):S:={s with sto:=Zf s.sto o.ob}
def St.app (st:St) (d:Option Nat) (o:Out):St:=
 {env:=match d with|some d=>Ym st.env d o.v|none=>st.env,s:=st.s.app o}
theorem Rel.step {C:Ctx} {Λ Λ':L} {st:St} {a:Act} (h:Rel C Λ st a) (hk:Kp Λ Λ') {d:Option Nat} (hd:∀x,d=some x->x<C.n) {v:Value} {o:Out} (hv:zr Λ' v o.v) (hs:zT Λ' (st.s.app o)):
  Rel C Λ' (st.app d o) (a.put d v):=by
 refine ⟨h.kp.trans hk,by rw [zc7];exact h.size,by cases d<;>exact h.defers,fun t=>?_,hs⟩
 cases d with
 |none=>exact (h.env t).mono hk
 |some d=>
  simp only [St.app];rw [Yz,zdD _ _ _ _ (by rw [h.size];exact hd d rfl)];by_cases e:d=t
  ·simp only [e,w17];exact hv
  ·simp only [e,w0x];exact (h.env t).mono hk
structure ZU (Λ:L) (k:Nat):Prop where
 obj:∀b,Λ.lab b≠ .obj k
 arr:∀b n,Λ.lab b≠ .arr k n
 fro:Λ.fro k=0
 fob:∀b i,Λ.lab b≠ .fob k i
 far:∀b i n,Λ.lab b≠ .far k i n
 frf:∀i,Λ.frf k i=0
def L.up (Λ:L) (m:Nat):L:={Λ with nxt:=m}
theorem Kp.up (Λ:L) {m:Nat} (h:Λ.nxt<=m):Kp Λ (Λ.up m):=
 ⟨Fr.refl _ _,h,fun _ _ _ h=>h,fun _ _ _ _ _ h _=>⟨h,rfl⟩,fun _ _=>w09 _,fun _ _ _ _ h=>⟨h,fun _ h=>h⟩,fun _ _ _ _ _ _ h _=>⟨h,rfl⟩,fun _ _ _=>w09 _,fun _ _ _ _ _ _ h=>h⟩
theorem zT.up {Λ:L} {s:S} (h:zT Λ s) {m:Nat} (hm:Λ.nxt<=m):zT (Λ.up m) s:=by
 have hk:=Kp.up Λ hm;refine ⟨fun k o hk'=>?_,h.inj,h.new,fun b k hb=>w08 (h.bnd b k hb) hm,fun k hk'=>h.frz k (w0o hm hk'),h.YX,fun b k hb=>w08 (h.Yu b k hb) hm,fun k i hk'=>h.z2g k i (w0o hm hk')⟩;obtain ⟨h1,h2⟩:=h.sto k o hk';exact ⟨w08 h1 hm,h2.mono hk h1 (fun _ _=>rfl) Z (fun _ _ _=>rfl) (fun _ _ h=>h) (fun _=>rfl)⟩
theorem zT.free {Λ:L} {s:S} (h:zT Λ s) {k:Nat} (hk:Λ.nxt<=k):ZU Λ k:=
 ⟨fun b hb=>by have:=h.bnd b k (.inl hb);omega,fun b n hb=>by have:=h.bnd b k (.inr ⟨n,hb⟩);omega,h.frz k hk,fun b i hb=>by have:=h.Yu b k (.inl ⟨i,hb⟩);omega,fun b i n hb=>by have:=h.Yu b k (.inr ⟨i,n,hb⟩);omega,fun i=>h.z2g k i hk⟩
theorem Rel.up {C:Ctx} {Λ:L} {st:St} {a:Act} (h:Rel C Λ st a) {m:Nat} (hm:Λ.nxt<=m):Rel C (Λ.up m) st a:=by
 have hk:=Kp.up Λ hm;exact ⟨h.kp.trans hk,h.size,h.defers,fun t=>(h.env t).mono hk,h.s.up hm⟩
mutual
def V.bd (m:Nat):V->Bool
 | .t _=>true
 | .zC=>true
 | .top=>true
 | .own k _ _=>decide (k<m)
 | .slc k _ _ _=>decide (k<m)
 | .ptr k _=>decide (k<m)
 | .mp k=>decide (k<m)
 | .fn _ cs=>cs.all fun c=>decide (c.1<m)
 | .agg cs=>V.bds m cs
 | .tup cs=>V.bds m cs
 | .gd _ x=>x.bd m
 | .ub _ _=>true
 | .fpt k _ _=>decide (k<m)
 | .gpt k _ _=>decide (k<m)
 | .gsl k _ _ _ _=>decide (k<m)
 | .fow k _ _ _=>decide (k<m)
def V.bds (m:Nat):List V->Bool
 |[]=>true
 |x::r=>x.bd m&&V.bds m r
end
theorem V.Zj {m:Nat}:∀{cs:List V},V.bds m cs=true->∀(j:Nat) (c:V),cs[j]?=some c->c.bd m=true
 |[],_,j,c,h=>by simp at h
 |x::r,hb,0,c,h=>by simp at h;subst h;simp [V.bds] at hb;exact hb.1
 |x::r,hb,j+1,c,h=>by simp [V.bds] at hb;exact V.Zj hb.2 j c (by simpa using h)
def L.cut (Λ:L) (m m':Nat):L where
 lab:=fun b=>match Λ.lab b with
  | .obj k=>if k<m then .obj k else .fix none
  | .arr k fr=>if k<m then .arr k fr else .fix none
  | .fob k i=>if k<m then .fob k i else .fix none
  | .far k i fr=>if k<m then .far k i fr else .fix none
  |x=>x
 fro:=fun k=>if k<m then Λ.fro k else 0
 nxt:=m'
 w:=Λ.w
 frf:=fun k i=>if k<m then Λ.frf k i else 0
theorem z31 {Λ:L} {m m' b:Nat} {fr:Option Nat} (h:Λ.lab b= .fix fr):(Λ.cut m m').lab b= .fix fr:=by simp [L.cut,h]
theorem yj {Λ:L} {m m' b k:Nat} (h:Λ.lab b= .obj k) (hk:k<m):(Λ.cut m m').lab b= .obj k:=by simp [L.cut,h,hk]
theorem z9K {Λ:L} {m m' b k n:Nat} (h:Λ.lab b= .arr k n) (hk:k<m):(Λ.cut m m').lab b= .arr k n:=by simp [L.cut,h,hk]
theorem W9 {Λ:L} {m m' b k i:Nat} (h:Λ.lab b= .fob k i) (hk:k<m):(Λ.cut m m').lab b= .fob k i:=by simp [L.cut,h,hk]
theorem z9J {Λ:L} {m m' b k i n:Nat} (h:Λ.lab b= .far k i n) (hk:k<m):(Λ.cut m m').lab b= .far k i n:=by simp [L.cut,h,hk]
theorem zN {Λ:L} {m m' b k i:Nat} (h:(Λ.cut m m').lab b= .fob k i):Λ.lab b= .fob k i/\k<m:=by
 simp only [L.cut] at h
 cases hl:Λ.lab b with
 |fix fr=>simp [hl] at h
 |obj j=>simp only [hl] at h;split at h<;>simp_all
 |arr j n=>simp only [hl] at h;split at h<;>simp_all
 |fob j n=>simp only [hl] at h;split at h<;>simp_all
 |far j n q=>simp only [hl] at h;split at h<;>simp_all
theorem z2w {Λ:L} {m m' b k i n:Nat} (h:(Λ.cut m m').lab b= .far k i n):Λ.lab b= .far k i n/\k<m:=by
 simp only [L.cut] at h
 cases hl:Λ.lab b with
 |fix fr=>simp [hl] at h
 |obj j=>simp only [hl] at h;split at h<;>simp_all
 |arr j n=>simp only [hl] at h;split at h<;>simp_all
 |fob j n=>simp only [hl] at h;split at h<;>simp_all
 |far j n q=>simp only [hl] at h;split at h<;>simp_all
theorem YB {Λ:L} {m m' b k:Nat} (h:(Λ.cut m m').lab b= .obj k):Λ.lab b= .obj k/\k<m:=by
 simp only [L.cut] at h
 cases hl:Λ.lab b with
 |fix fr=>simp [hl] at h
 |obj j=>simp only [hl] at h;split at h<;>simp_all
 |arr j n=>simp only [hl] at h;split at h<;>simp_all
 |fob j n=>simp only [hl] at h;split at h<;>simp_all
 |far j n q=>simp only [hl] at h;split at h<;>simp_all
theorem z2V {Λ:L} {m m' b k n:Nat} (h:(Λ.cut m m').lab b= .arr k n):Λ.lab b= .arr k n/\k<m:=by
 simp only [L.cut] at h
 cases hl:Λ.lab b with
 |fix fr=>simp [hl] at h
 |obj j=>simp only [hl] at h;split at h<;>simp_all
 |arr j n=>simp only [hl] at h;split at h<;>simp_all
 |fob j n=>simp only [hl] at h;split at h<;>simp_all
 |far j n q=>simp only [hl] at h;split at h<;>simp_all
theorem z9o {Λ:L} {m m' b o:Nat} (h:Rd Λ.lab b o):Rd (Λ.cut m m').lab b o:=by
 unfold Rd at*
 cases hl:Λ.lab b with
 |fix fr=>rw [z31 hl];rw [hl] at h;exact h
 |obj j=>simp [hl] at h
 |arr j n=>
  simp only [hl] at h;simp only [L.cut,hl]
  by_cases hj:j<m<;>simp [hj,h]
 |fob j i=>simp [hl] at h
 |far j i n=>
  simp only [hl] at h;simp only [L.cut,hl]
  by_cases hj:j<m<;>simp [hj,h]
theorem zI.cut {Λ:L} {m m':Nat} {v:Value} {x:T} (h:zI Λ.lab Λ.w v x):zI (Λ.cut m m').lab (Λ.cut m m').w v x:=
 h.ZX fun _ _ _ _ hr=>⟨z9o hr,rfl⟩
theorem zr.cut {Λ:L} {m m':Nat} (hm:m<=m') {v:Value} {x:V} (h:zr Λ v x) (hb:x.bd m=true):zr (Λ.cut m m') v x:=by
 induction h with
 |t h=>exact .t h.cut
 |zC=>exact .zC
 |@own v k sz xs h hsz hl hn ho=>
  have hk:k<m:=by simpa [V.bd] using hb
  have hf:(Λ.cut m m').fro k=Λ.fro k:=by simp [L.cut,hk]
  refine .own h.cut hsz (w08 hk hm) (by rw [hf];exact hn) fun he=>?_
  rcases ho (by rw [←hf];exact he) with ho|⟨b,cap,arr,e,hv,hb',hh,hc,hn'⟩
  ·exact .inl ho
  ·exact .inr ⟨b,cap,arr,e,hv,z9K hb' hk,hh,hc,hn'⟩
 |@slc b k off len cap sz hl hc h=>
  have hk:k<m:=by simpa [V.bd] using hb
  exact .slc (w08 hk hm) hc (yj h hk)
 |agg hs _ ih=>exact .agg hs fun j v c h1 h2=>ih j v c h1 h2 (V.Zj (by simpa [V.bd] using hb) j c h2)
 |tup hs _ ih=>exact .tup hs fun j v c h1 h2=>ih j v c h1 h2 (V.Zj (by simpa [V.bd] using hb) j c h2)
 |@ptr b k off hl h=>
  have hk:k<m:=by simpa [V.bd] using hb
  exact .ptr (w08 hk hm) (yj h hk)
 |@mp b k hl h=>
  have hk:k<m:=by simpa [V.bd] using hb
  exact .mp (w08 hk hm) (yj h hk)
 |fn hs h=>
  refine .fn hs fun j v c h1 h2=>?_;obtain ⟨b,e1,e2,e3⟩:=h j v c h1 h2
  have hk:c.1<m:=by
   simp only [V.bd,w0i,w0j] at hb;exact hb c (zMG h2)
  exact ⟨b,e1,yj e2 hk,w08 hk hm⟩
 |gd _ h' ih=>exact .gd (fun hc=>ih hc (by simpa [V.bd] using hb)) h'
 |top=>exact .top
 |ub h h'=>exact .ub h h'
 |@fpt b k i off hl h=>
  have hk:k<m:=by simpa [V.bd] using hb
  exact .fpt (w08 hk hm) (W9 h hk)
 |@gpt v k ver off hv hl hn h=>
  have hk:k<m:=by simpa [V.bd] using hb
  have hf:(Λ.cut m m').frf k 0=Λ.frf k 0:=by simp [L.cut,hk]
  refine .gpt hv (w08 hk hm) (by rw [hf];exact hn) fun he=>?_;obtain ⟨b,e1,i,e2,e3⟩:=h (by rw [←hf];exact he);exact ⟨b,e1,i,W9 e2 hk,fun b' i' h'=>e3 b' i' (zN h').1⟩
 |@gsl v k ver off len sz hv hl hn h=>
  have hk:k<m:=by simpa [V.bd] using hb
  have hf:(Λ.cut m m').frf k 0=Λ.frf k 0:=by simp [L.cut,hk]
  refine .gsl hv (w08 hk hm) (by rw [hf];exact hn) fun he=>?_
  rcases h (by rw [←hf];exact he) with h|⟨b,cap,N,hv,hc,⟨i,e2,e3⟩,hN,he'⟩
  ·exact .inl h
  ·exact .inr ⟨b,cap,N,hv,hc,⟨i,W9 e2 hk,fun b' i' h'=>e3 b' i' (zN h').1⟩,hN,he'⟩
 |@fow v k i sz xs h hsz hl hn ho=>
  have hk:k<m:=by simpa [V.bd] using hb
  have hf:(Λ.cut m m').frf k i=Λ.frf k i:=by simp [L.cut,hk]
  refine .fow h.cut hsz (w08 hk hm) (by rw [hf];exact hn) fun he=>?_
  rcases ho (by rw [←hf];exact he) with ho|⟨b,cap,arr,e,hv,hb',hh,hc,hn'⟩
  ·exact .inl ho
  ·exact .inr ⟨b,cap,arr,e,hv,z9J hb' hk,hh,hc,hn'⟩
theorem Kp.cut {A Λ:L} {m m':Nat} (h:Kp A Λ) (hm:A.nxt<=m) (hm':m<=m'):Kp A (Λ.cut m m'):=by
 refine ⟨⟨h.fr.os,h.fr.tape,h.fr.output,h.fr.size,fun b hb fr hl=>?_,fun b hb k fr hl o ho=>?_,fun b hb k i fr hl o ho=>?_⟩,w0o hm hm',fun b k hk hl=>?_,fun b k n hk hb hl hf=>?_,fun k hk=>?_,fun b k i hk hl=>?_,fun b k i n hk hb hl hf=>?_,fun k i hk=>?_,fun b k i hk hp hf hl=>?_⟩
 ·obtain ⟨h1,h2⟩:=h.fr.fix b hb fr hl;exact ⟨z31 h1,h2⟩
 ·obtain ⟨h1,h2⟩:=h.fr.arr b hb k fr hl o ho;exact ⟨z9o h1,h2⟩
 ·obtain ⟨h1,h2⟩:=h.fr.far b hb k i fr hl o ho;exact ⟨z9o h1,h2⟩
 ·exact yj (h.obj b k hk hl) (w08 hk hm)
 ·have e:(Λ.cut m m').fro k=Λ.fro k:=by simp [L.cut,w08 hk hm]
  obtain ⟨h1,h2⟩:=h.own b k n hk hb hl (by rw [←e];exact hf);exact ⟨z9K h1 (w08 hk hm),h2⟩
 ·have e:(Λ.cut m m').fro k=Λ.fro k:=by simp [L.cut,w08 hk hm]
  rw [e];exact h.fro k hk
 ·obtain ⟨h1,h2⟩:=h.fob b k i hk hl;exact ⟨W9 h1 (w08 hk hm),h2⟩
 ·have e:(Λ.cut m m').frf k i=Λ.frf k i:=by simp [L.cut,w08 hk hm]
  obtain ⟨h1,h2⟩:=h.far b k i n hk hb hl (by rw [←e];exact hf);exact ⟨z9J h1 (w08 hk hm),h2⟩
 ·have e:(Λ.cut m m').frf k i=Λ.frf k i:=by simp [L.cut,w08 hk hm]
  rw [e];exact h.frf k i hk
 ·have e:(Λ.cut m m').frf k 0=Λ.frf k 0:=by simp [L.cut,w08 hk hm]
  exact h.z4C b k i hk hp (by rw [←e];exact hf) (zN hl).1
def LeV (m m':Nat) (x x':V):Prop:=
 ∀(Λ:L) (v:Value),(∀k,m<=k->k<m'->Λ.fro k=0/\∀i,Λ.frf k i=0)->m'<=Λ.nxt->zr Λ v x->zr Λ v x'
theorem LeV.rfl {m m':Nat} {x:V}:LeV m m' x x:=fun _ _ _ _ h=>h
theorem LeV.top {m m':Nat} {x:V}:LeV m m' x .top:=fun _ _ _ _ _=> .top
theorem LeV.yR {m m' k sz:Nat} {xs:List (List T)}:LeV m m' (.own k sz xs) (.t (.lst xs)):=fun _ _ _ _ h=>by cases h;exact .t ‹_›
theorem zI.nil {l:Nat->Lab} {w:World} {a:Option Addr}:zI l w (.slice a 0 0) (.lst []):=
 .lst a 0 0 [] 0 0 (fun _ _=>undef) (by simp) (by simp) (by simp) (by simp) (by simp) (by simp)
theorem LeV.yS {m m':Nat}:LeV m m' .zC (.t (.lst [])):=fun _ _ _ _ h=>by cases h;exact .t .nil
theorem LeV.Z6 {m m' k sz:Nat} (_:m<=k) (h2:k<m'):LeV m m' .zC (.own k sz []):=fun _ _ hf hn h=>by
 cases h;exact .own .nil (by simp) (by omega) (by simp) (fun _=> .inl ⟨⟨_,Eq.refl _⟩,Eq.refl _⟩)
def LeX (m m':Nat) (x x':V):Prop:=∃y,LeV m m x y/\y.bd m=true/\LeV m m' y x'
theorem LeX.same {m m':Nat} {x:V} (h:x.bd m=true):LeX m m' x x:=⟨x,.rfl,h,.rfl⟩
theorem LeX.eq {m m':Nat} {x y:V} (e:x=y) (h:y.bd m=true):LeX m m' x y:=e▸⟨x,.rfl,e▸h,.rfl⟩
theorem LeX.top {m m':Nat} {x:V}:LeX m m' x .top:=⟨.top,.top,by simp [V.bd],.rfl⟩
theorem LeX.t {m m':Nat} {x:T}:LeX m m' (.t x) (.t x):= .same (by simp [V.bd])
theorem LeX.tEq {m m':Nat} {x y:T} (e:x=y):LeX m m' (.t x) (.t y):=e▸ .t
theorem LeX.yR {m m' k sz:Nat} {xs:List (List T)}:LeX m m' (.own k sz xs) (.t (.lst xs)):=⟨.t (.lst xs),.yR,by simp [V.bd],.rfl⟩
theorem LeX.ZT {m m' k sz:Nat} {xs ys:List (List T)} (e:xs=ys) (h:k<m):LeX m m' (.own k sz xs) (.own k sz ys):= .eq (by rw [e]) (by simpa [V.bd] using h)
theorem LeX.yS {m m':Nat}:LeX m m' .zC (.t (.lst [])):=⟨.zC,.rfl,by simp [V.bd],.yS⟩
theorem LeX.Z6 {m m' k sz:Nat} (h1:m<=k) (h2:k<m'):LeX m m' .zC (.own k sz []):=⟨.zC,.rfl,by simp [V.bd],.Z6 h1 h2⟩
theorem LeX.cut {m m':Nat} (hm:m<=m') {x x':V} (h:LeX m m' x x') {Λ:L} {v:Value} (hx:m<=Λ.nxt) (hr:zr Λ v x):zr (Λ.cut m m') v x':=by
 obtain ⟨y,h1,h2,h3⟩:=h
 exact h3 _ _ (fun k hk _=>⟨by simp [L.cut];omega,fun i=>by simp [L.cut];omega⟩) (w09 _) ((h1 Λ v (fun k h1 h2=>by omega) hx hr).cut hm h2)
def zd.fresh:zd->Bool
 | .arr n=>Nat.beq n 0
 | .gro ver cs=>(ver==0)&&cs.isEmpty
 | .yL os=>os.isEmpty
 | .y8 ns=>ns.isEmpty
 |_=>false
inductive zA (m m':Nat):List V->List V->Prop
 |nil:zA m m' [] []
 |cons {x y:V} {xs ys:List V} (h:LeX m m' x y) (t:zA m m' xs ys):zA m m' (x::xs) (y::ys)
theorem zA.length {m m':Nat} {xs ys:List V} (h:zA m m' xs ys):xs.length=ys.length:=by
 induction h with
 |nil=>rfl
 |cons _ _ ih=>simp [ih]
theorem zA.at {m m':Nat} {xs ys:List V} (h:zA m m' xs ys):∀(j:Nat) (c d:V),xs[j]?=some c->ys[j]?=some d->LeX m m' c d:=by
 induction h with
 |nil=>intro j c d h;simp at h
 |cons h _ ih=>
  intro j c d h1 h2
  cases j with
  |zero=>simp at h1 h2;subst h1;subst h2;exact h
  |succ j=>exact ih j c d (by simpa using h1) (by simpa using h2)
theorem zA.same {m m':Nat}:∀{xs:List V},V.bds m xs=true->zA m m' xs xs
 |[],_=> .nil
 |x::r,h=>by simp [V.bds] at h;exact .cons (.same h.1) (.same h.2)
inductive LeO (m m':Nat):zd->zd->Prop
 |cells {cs ds:List V} (h:zA m m' cs ds):LeO m m' (.cells cs) (.cells ds)
 |map {a:Bool} {es fs:List (List T×V)} {st st':Option (Nat×List Nat)} (hk:es.map (·.1)=fs.map (·.1)) (hv:zA m m' (es.map (·.2)) (fs.map (·.2))) (hs:st'=none∨st'=st):LeO m m' (.map a es st) (.map a fs st')
 |arr {n n':Nat} (h:n=n'):LeO m m' (.arr n) (.arr n')
 |iter {q s c:Nat} {u v:List Nat} (h:u=v) (hq:q<m):LeO m m' (.iter q s u c) (.iter q s v c)
 |gro {r:Nat} {cs ds:List V} (h:zA m m' cs ds):LeO m m' (.gro r cs) (.gro r ds)
 |yL {os ps:List (List V)} (hl:os.length=ps.length) (h:∀(i:Nat) (cs ds:List V),os[i]?=some cs->ps[i]?=some ds->zA m m' cs ds):LeO m m' (.yL os) (.yL ps)
 |y8 {ns ms:List Nat} (h:ns=ms):LeO m m' (.y8 ns) (.y8 ms)
 |WN {a:Bool} {I J:List T->T->Prop} (h:∀cs v,I cs v->J cs v):LeO m m' (.WN a I) (.WN a J)
def LeE (m m':Nat) (e:List (Nat×V)):List (Nat×V)->Prop
 |[]=>True
 |(t,x)::r=>LeX m m' (look e t) x/\LeE m m' e r
def LeS (m m':Nat) (s:List (Nat×zd)):List (Nat×zd)->Prop
 |[]=>True
 |(k,o)::r=>((k<m/\∃o',zj s k=some o'/\LeO m m' o' o)∨(m<=k/\k<m'/\o.fresh=true))/\LeS m m' s r
theorem LeE.at {m m':Nat} {e:List (Nat×V)}:∀{e':List (Nat×V)},LeE m m' e e'->∀t,LeX m m' (look e t) (look e' t)
 |[],_,t=> .top
 |(k,x)::r,h,t=>by
  obtain ⟨h1,h2⟩:=h;by_cases e':k=t
  ·subst e';simpa [look,zj] using h1
  ·have:=LeE.at h2 t;simpa [look,zj,e'] using this
theorem LeS.at {m m':Nat} {s:List (Nat×zd)}:∀{s':List (Nat×zd)},LeS m m' s s'->∀k o,zj s' k=some o->
  (k<m/\∃o',zj s k=some o'/\LeO m m' o' o)∨(m<=k/\k<m'/\o.fresh=true)
 |[],_,k,o,h=>by simp [zj] at h
 |(j,x)::r,h,k,o,hk=>by
  obtain ⟨h1,h2⟩:=h;by_cases e':j=k
  ·subst e';simp [zj] at hk;subst hk;exact h1
  ·simp only [zj,e',w0x] at hk;exact LeS.at h2 k o hk
theorem zT.qT {Λ:L} {s:S} (h:zT Λ s) {s':S} {m m':Nat} (hm0:m<=Λ.nxt) (hm':m<=m') (hs:LeS m m' s.sto s'.sto):zT (Λ.cut m m') s':=by
 have hnew:∀k,m<=k->k<m'->(Λ.cut m m').fro k=0:=fun k hk _=>by simp [L.cut];omega
 refine ⟨fun k o hk=>?_,fun b b' k h1 h2=>h.inj b b' k (YB h1).1 (YB h2).1,fun b hb=>z31 (h.new b hb),?_,fun k hk=>by have hk':m'<=k:=hk;simp [L.cut];omega,fun b b' k i h1 h2=>h.YX b b' k i (zN h1).1 (zN h2).1,?_,fun k i hk=>by have hk':m'<=k:=hk;simp [L.cut];omega⟩
 ·rcases hs.at k o hk with ⟨hkm,o',ho',hle⟩|⟨h1,h2,hfr⟩
  ·refine ⟨w08 hkm hm',?_⟩;have hr:=(h.sto k o' ho').2
   cases hle with
   |cells hle=>
    obtain ⟨b,arr,e,e1,e2,e3,e4⟩:=hr
    refine ⟨b,arr,e,yj e1 hkm,e2,by rw [e3];exact hle.length,fun j v d a1 a2=>?_⟩
    have hlt:j<_:=(w02.1 a2).1;rw [←hle.length] at hlt;have hc:=w0f hlt;exact (hle.at j _ d hc a2).cut hm' hm0 (e4 j v _ a1 hc)
   |@map a es fs sx sy hke hve hse=>
    obtain ⟨b,ents,clock,e1,e2,e3⟩:=hr
    have hlen:es.length=fs.length:=by have:=congrArg List.length hke;simpa using this
    refine ⟨b,ents,clock,yj e1 hkm,e2,⟨e3.size.trans hlen,fun i e kv a1 a2=>?_,e3.born,e3.apart,fun c bs h=>?_⟩⟩
    ·have hlt:i<es.length:=by rw [hlen];exact (w02.1 a2).1
     have hes:=w0f hlt;obtain ⟨g1,g2⟩:=e3.at_ i e _ a1 hes
     have hk1:(es[i]).1=kv.1:=by
      have:=congrArg (fun l=>l[i]?) hke;simp only [w0c,hes,a2,Option.map] at this;exact Option.some.inj this
     refine ⟨by rw [←hk1];exact g1.ZX fun _ _ h=>h.cut,?_⟩
     exact (hve.at i (es[i]).2 kv.2 (by simp [w0c,hes]) (by simp [w0c,a2])).cut hm' hm0 g2
    ·rcases hse with e|e
     ·rw [e] at h;cases h
     ·rw [e] at h;exact e3.known c bs h
   |arr e=>subst e;unfold qd at*;simp [L.cut,hkm,hr]
   |iter e hq=>
    subst e;obtain ⟨b,bm,e1,e2,e3,e4⟩:=hr;exact ⟨b,bm,yj e1 hkm,e2,yj e3 hq,w08 hq hm'⟩
   |@gro r cs ds hle=>
    obtain ⟨h0,hr⟩:=hr
    refine ⟨by simp [L.cut,hkm,h0],?_⟩
    rcases hr with ⟨e1,e2⟩|⟨b,arr,e,⟨i,e1,e1'⟩,e2,e3,e4⟩
    ·subst e1;have:ds=[]:=w0q.1 (by rw [←hle.length];rfl);exact .inl ⟨this,fun b i hb=>e2 b i (zN hb).1⟩
    ·refine .inr ⟨b,arr,e,⟨i,W9 e1 hkm,fun b' i' h'=>e1' b' i' (zN h').1⟩,e2,by rw [←hle.length];exact e3,fun j v d a1 a2=>?_⟩
     have hlt:j<_:=(w02.1 a2).1;rw [←hle.length] at hlt;have hc:=w0f hlt;exact (hle.at j _ d hc a2).cut hm' hm0 (e4 j v _ a1 hc)
   |@yL os ps hl hle=>
    obtain ⟨h0,hr⟩:=hr
    refine ⟨fun b i hbi=>by rw [←hl];exact h0 b i (zN hbi).1,fun i ds hi=>?_⟩
    have hlt:i<os.length:=by rw [hl];exact (w02.1 hi).1
    have hos:=w0f hlt;have hle:=hle i _ ds hos hi;obtain ⟨b,arr,e,e1,e2,e3,e4⟩:=hr i _ hos
    refine ⟨b,arr,e,W9 e1 hkm,e2,by rw [e3];exact hle.length,fun j v d a1 a2=>?_⟩
    have hlt:j<_:=(w02.1 a2).1;rw [←hle.length] at hlt;have hc:=w0f hlt;exact (hle.at j _ d hc a2).cut hm' hm0 (e4 j v _ a1 hc)
   |y8 e=>subst e;intro i;have:=hr i;simpa [L.cut,hkm] using this
   |WN hI=>
    obtain ⟨b,ents,clock,e1,e2,e3,e4,e5⟩:=hr;refine ⟨b,ents,clock,yj e1 hkm,e2,e3,e4,fun i e hi=>?_⟩;obtain ⟨cs,v,g1,g2,g3⟩:=e5 i e hi;exact ⟨cs,v,g1.ZX fun _ _ h=>h.cut,g2.cut,hI cs v g3⟩
  ·have hnf:∀b i,(Λ.cut m m').lab b≠ .fob k i:=fun b i hb=>by have:=(zN hb).2;omega
   refine ⟨h2,?_⟩
   cases o with
   |arr n=>
    have:n=0:=by simpa [zd.fresh] using hfr
    subst this;exact hnew k h1 h2
   |gro r cs=>
    have:r=0/\cs=[]:=by simpa [zd.fresh] using hfr
    exact ⟨by rw [this.1];simp [L.cut];omega,.inl ⟨this.2,hnf⟩⟩
   |yL os=>
    have:os=[]:=by simpa [zd.fresh] using hfr
    subst this
    exact ⟨fun b i hb=>absurd hb (hnf b i),fun i cs hi=>by simp at hi⟩
   |y8 ns=>
    have:ns=[]:=by simpa [zd.fresh] using hfr
    subst this;intro i;simp [L.cut];omega
   |cells _=>simp [zd.fresh] at hfr
   |map _ _ _=>simp [zd.fresh] at hfr
   |iter _ _ _ _=>simp [zd.fresh] at hfr
   |WN _ _=>simp [zd.fresh] at hfr
 ·intro b k hb
  rcases hb with hb|⟨n,hb⟩
  ·exact w08 (YB hb).2 hm'
  ·exact w08 (z2V hb).2 hm'
 ·intro b k hb
  rcases hb with ⟨i,hb⟩|⟨i,n,hb⟩
  ·exact w08 (zN hb).2 hm'
  ·exact w08 (z2w hb).2 hm'
theorem Rel.qT {C:Ctx} {Λ:L} {st:St} {a:Act} (h:Rel C Λ st a) {st':St} {m:Nat} (hm:C.Λ.nxt<=m) (hm0:m<=Λ.nxt) (hm':m<=st'.s.nxt)
  (he:LeE m st'.s.nxt st.env st'.env) (hs:LeS m st'.s.nxt st.s.sto st'.s.sto):Rel C (Λ.cut m st'.s.nxt) st' a:=
 ⟨h.kp.cut hm hm',h.size,h.defers,fun t=>(he.at t).cut hm' hm0 (h.env t),h.s.qT hm0 hm' hs⟩
inductive Ar where
 |s (t:Nat)
 |c (v:V)
inductive KSh where
 |bool
 |int (k:IntKind)
 |str
inductive NOp where
 |lookup (ks:List KSh) (kag:Bool) (zv:V) (ok:Bool) (x k:Ar)
 |zda (ks:List KSh) (kag:Bool) (x k v:Ar)
 |zaK (ks:List KSh) (kag:Bool) (x k:Ar)
 |ze8 (ks:List KSh) (kag:Bool) (zv:V) (x k:Ar)
 |zen (x s v:Ar)
 |zcc (sz:Nat) (z:List V) (x:Ar)
 |zf2 (x:Ar)
 |nxt (x:Ar)
 |z7v (x:Ar)
 |xtr (cnt:Bool) (x y:Ar)
 |xcm (x y:Ar)
 |bad
 |eqn (neg:Bool) (x:Ar)
 |zbb (neg:Bool) (ks:List KSh) (x y:Ar)
 |zdr (x:Ar)
inductive AOp where
 |nw (op:NOp)
 |cst (v:V)
 |mv (x:Ar)
 |pick (c a b:Ar)
 |un (op:UnOp) (x:Ar)
 |bin (op:BinOp) (x y:Ar)
 |eqb (neg:Bool) (x y:Ar)
 |eqp (neg:Bool) (x:Ar)
 |eqm (neg:Bool) (x:Ar)
 |conv (k:IntKind) (x:Ar)
 |z9X (x:Ar)
 |z5L (x:Ar)
 |fa (off:Nat) (x:Ar)
 |ld (ag:Bool) (n:Nat) (x:Ar)
 |ia (sz:Nat) (x i:Ar)
 |zcw (len sz:Nat) (x i:Ar)
 |ixs (x i:Ar)
 |ixa (ag:Bool) (len sz:Nat) (x i:Ar)
 |len (x:Ar)
 |lens (x:Ar)
 |sls (x:Ar) (lo hi:Option Ar)
 |sll (sz:Nat) (x:Ar) (lo hi:Option Ar)
 |fld (ag:Bool) (off n:Nat) (x:Ar)
 |zeC (x y:Ar)
 |zdZ (x y:Ar)
 |build (zs:List V) (ps:List (Nat×Nat×Ar))
 |ze7 (f:FuncId) (caps:List Ar)
 |z94 (x:Ar)
 |st (n:Nat) (x v:Ar)
 |box (n:Nat) (x:Ar)
 |alloc (zs:List V)
 |bsl (ow:Bool) (sz:Nat) (zs:List (List T)) (ps:List (Nat×Ar))
 |app (sz bytes:Nat) (x y:Ar)
 |ext (x:Ar) (i:Nat)
 |z3t (kag vag:Bool)
 |Qq (x:Ar)
 |z97 (sz bytes:Nat) (z:List V) (n:Ar)
 |call (f:FuncId) (args:List Ar)
 |z13 (x:Ar) (args:List Ar)
structure AO where
 dst:Option Nat
 g:Option (Nat×Bool)
 op:AOp
def Ar.v (st:St):Ar->V
 | .s t=>look st.env t
 | .c v=>v
def V.ug:V->V
 | .gd c v=>if c then v else .top
 |v=>v
def Ar.u (st:St) (x:Ar):V:=(x.v st).ug
def V.un (gc:Bool):V->V×List Bool
 | .gd c v=>(v,[!gc||c])
 |v=>(v,[])
def rd (gc:Bool) (st:St) (x:Ar):V×List Bool:=(x.v st).un gc
def V.zw:V->Option T
 | .t x=>some x
 | .own _ _ xs=>some (.lst xs)
 | .zC=>some (.lst [])
 | .fow _ _ _ xs=>some (.lst xs)
 |_=>none
def V.Zc:V->Option (List T)
 | .agg cs=>cs.mapM V.zw
 |v=>(v.zw).map fun x=>[x]
def zgB (k:IntKind) (a b:Int):Int:=k.wrap ((BitVec.ofInt k.bits a&&& BitVec.ofInt k.bits b).toNat:Int)
def orI (k:IntKind) (a b:Int):Int:=k.wrap ((BitVec.ofInt k.bits a|||BitVec.ofInt k.bits b).toNat:Int)
def z3I (op:BinOp):T->T->Option (T×List Bool)
 | .int k a,.int k' b=>
  if k=k' then
   match op with
   | .add=>some (.int k (k.wrap (a+b)),[])
   | .sub=>some (.int k (k.wrap (a - b)),[])
   | .mul=>some (.int k (k.wrap (a*b)),[])
   | .quo=>some (.int k (k.wrap (a.tdiv b)),[decide (b≠0)])
   | .rem=>some (.int k (a.tmod b),[decide (b≠0)])
   | .and=>some (.int k (zgB k a b),[])
   | .or=>some (.int k (orI k a b),[])
   | .eql=>some (.bool (a==b),[])
   | .neq=>some (.bool (a !=b),[])
   | .lss=>some (.bool (decide (a<b)),[])
   | .leq=>some (.bool (decide (a<=b)),[])
   | .gtr=>some (.bool (decide (a>b)),[])
   | .geq=>some (.bool (decide (a≥b)),[])
   |_=>none
  else none
 | .str a,.str b=>
  match op with
  | .add=>some (.str (a++b),[decide (a.length+b.length<=9223372036854775807)])
  | .eql=>some (.bool (a==b),[])
  | .neq=>some (.bool (!(a==b)),[])
  | .lss=>some (.bool (Op.bytesLess a b),[])
  | .leq=>some (.bool (Op.bytesLess a b||a==b),[])
  | .gtr=>some (.bool (!(Op.bytesLess a b||a==b)),[])
  | .geq=>some (.bool (!(Op.bytesLess a b)),[])
  |_=>none
 |_,_=>none
def setAt (cs:List V) (off:Nat) (vs:List V):List V:=
 match vs with
 |[]=>cs
 |v::r=>setAt (cs.set off v) (off+1) r
def V.parts:V->Option (List V)
 | .agg cs=>some cs
 | .top=>none
 | .tup _=>none
 | .gd _ _=>none
 | .ub _ _=>none
 |v=>some [v]
def z1C (st:St) (gc:Bool):List V->List (Nat×Nat×Ar)->Option (List V×List Bool)
 |cs,[]=>some (cs,[])
 |cs,(off,n,x)::r=>
  match rd gc st x with
  |(v,p)=>
   match v.parts with
   |none=>none
   |some ps=>
    if ps.length=n/\off+n<=cs.length then
     match z1C st gc (setAt cs off ps) r with
     |some (c,q)=>some (c,p++q)
     |none=>none
    else none
def Q3 (st:St):List Ar->Option (List (Nat×Nat))
 |[]=>some []
 |x::r=>
  match x.v st,Q3 st r with
  | .ptr k o,some cs=>some ((k,o)::cs)
  |_,_=>none
def ZQ (sz:Nat) (xs:List (List T)):Bool:=xs.all fun c=>c.length==sz
def bnd (x:Option Ar) (gc:Bool) (st:St) (d:Int):Option (Int×List Bool):=
 match x with
 |none=>some (d,[])
 |some x=>match rd gc st x with|(.t (.int _ n),p)=>some (n,p)|_=>none
def KSh.ok:KSh->T->Bool
 | .bool,.bool _=>true
 | .int k,.int k' _=>decide (k=k')
 | .str,.str _=>true
 |_,_=>false
def Zd:List KSh->List T->Bool
 |[],[]=>true
 |s::r,x::c=>s.ok x&&Zd r c
 |_,_=>false
def T.eqb:T->T->Bool
 | .bool a,.bool b=>a==b
 | .int _ a,.int _ b=>a==b
 | .str a,.str b=>a==b
 |_,_=>false
def ZY:List T->List T->Bool
 |[],[]=>true
 |x::r,y::c=>x.eqb y&&ZY r c
 |_,_=>false
def yg (ks:List KSh) (es:List (List T×V)):Bool:=es.all fun e=>Zd ks e.1
def ZZ (k:List T):List (List T×V)->Option Nat
 |[]=>none
 |e::r=>if ZY k e.1 then some 0 else (ZZ k r).map (· +1)
def z4B (k:List T):List (List T×V)->Option V
 |[]=>none
 |e::r=>if ZY k e.1 then some e.2 else z4B k r
def z4I (k:List T) (v:V):List (List T×V)->List (List T×V)
 |[]=>[(k,v)]
 |e::r=>if ZY k e.1 then (k,v)::r else e::z4I k v r
def z0o (k:List T):List (List T×V)->List (List T×V)
 |[]=>[]
 |e::r=>if ZY k e.1 then r else e::z0o k r
def V.isAgg:V->Bool
 | .agg _=>true
 |_=>false
def z0g (ks:List KSh) (kag:Bool) (v:V):Option (List T):=
 match v.Zc with
 |some cs=>if Zd ks cs&&v.isAgg==kag then some cs else none
 |none=>none
def okV (ok:Bool) (v:V) (b:Bool):V:=if ok then .tup [v,.t (.bool b)] else v
def z4Z (i:Option Nat):Option (Nat×List Nat)->Option (Nat×List Nat)
 |some (c,bs)=>some (c,match i with|some i=>bs.eraseIdx i|none=>bs)
 |none=>none
def z2Y (kag:Bool) (cs:List T):V:=if kag then .agg (cs.map V.t) else match cs with|[x]=> .t x|_=> .top
def z1A (z:Nat):List (List T×V)->List Nat->Option (List T×V)
 |e::r,b::bs=>if b=z then some e else z1A z r bs
 |_,_=>none
def u8s:List (List T)->Option (List Int)
 |[]=>some []
 |[.int .u8 n]::r=>(u8s r).map (n::·)
 |_=>none
def u8S (xs:List (List T)):Option V:=match u8s xs with|some (n::r)=>some (.t (.str ((n::r).map fun n=>UInt8.ofNat n.toNat)))|_=>none
def Zq (gc:Bool) (st:St):NOp->Option (V×List Bool)
 | .lookup ks kag zv ok x k=>
  match rd gc st x,rd gc st k with
  |(vx,p1),(vk,p2)=>
   match z0g ks kag vk with
   |none=>none
   |some cs=>
    match vx with
    | .mp q=>
     match zj st.s.sto q with
     |some (.map kag' es _)=>
      match z4B cs es with
      |some v=>some (okV ok v true,p1++(p2++[kag'==kag,yg ks es]))
      |none=>some (okV ok zv false,p1++(p2++[kag'==kag,yg ks es]))
     |_=>none
    | .t .z0J=>some (okV ok zv false,p1++p2)
    |_=>none
 | .eqn neg x=>
  match rd gc st x with
  |(.zC,p)=>some (.ub True True,p)
  |(.slc _ _ _ _,p)=>some (.t (.bool neg),p)
  |(.own _ _ xs,p)=>some (if neg then .ub True (∀c∈xs,c=[]) else .ub (∀c∈xs,c=[]) True,p)
  |(.t (.lst xs),p)=>some (if neg then .ub True (∀c∈xs,c=[]) else .ub (∀c∈xs,c=[]) True,p)
  |_=>none
 | .zbb neg ks x y=>
  match rd gc st x,rd gc st y with
  |(vx,p1),(vy,p2)=>
   match z0g ks true vx,z0g ks true vy with
   |some cs,some ds=>some (.t (.bool (if neg then !(ZY cs ds) else ZY cs ds)),p1++p2)
   |_,_=>none
 | .xtr cnt x y=>
  match rd gc st x,rd gc st y with
  |(.t (.str s),p1),(.t (.int .u8 c),p2)=>some (.t (.int .i64 (if cnt then (Go.Lib.countByte s c.toNat.toUInt8:Int) else Go.Lib.indexByte s c.toNat.toUInt8)),p1++p2)
  |_,_=>none
 | .xcm x y=>
  match rd gc st x,rd gc st y with
  |(.t (.str s),p1),(.t (.str r),p2)=>some (.t (.int .i64 (Go.Lib.compareBytes s r)),p1++p2)
  |_,_=>none
 | .zdr x=>
  match rd gc st x with
  |(.t (.lst xs),p)=>(u8S xs).map fun v=>(v,p)
  |(.own _ _ xs,p)=>(u8S xs).map fun v=>(v,p)
  |_=>none
 | .z7v x=>
  match rd gc st x with
  |(.ptr k 0,p)=>
   match zj st.s.sto k with
   |some (.iter q _ seen c)=>
    match zj st.s.sto q,seen.getLast? with
    |some (.map kag es (some (c',bs))),some z=>
     match z1A z es bs with
     |some e=>some (.tup [z2Y kag e.1,e.2],p++[decide (c'=c),decide (bs.Nodup)])
     |none=>none
    |_,_=>none
   |_=>none
  |_=>none
 |_=>none
def zk (gc:Bool) (st:St):AOp->Option (V×List Bool)
 | .nw op=>Zq gc st op
 | .cst v=>some (v,[])
 | .mv x=>some (rd gc st x)
 | .pick c a b=>
  match rd gc st c with
  |(.t (.bool cb),p1)=>
   match rd (gc&&cb) st a,rd (gc&&!cb) st b with
   |(.t (.bool xa),p2),(.t (.bool xb),p3)=>some (.t (.bool (bif cb then xa else xb)),p1++(p2++p3))
   |(.t (.bool xa),p2),(_,_)=>some (.t (.bool xa),p1++(p2++[cb]))
   |(_,_),(.t (.bool xb),p3)=>some (.t (.bool xb),p1++(p3++[!cb]))
   |_,_=>none
  |_=>none
 | .un .not x=>match rd gc st x with|(.t (.bool b),p)=>some (.t (.bool (!b)),p)|_=>none
 | .un .neg x=>match rd gc st x with|(.t (.int k n),p)=>some (.t (.int k (k.wrap (0 - n))),p)|_=>none
 | .un _ _=>none
 | .bin op x y=>
  match rd gc st x,rd gc st y with
  |(.t a,p1),(.t b,p2)=>(z3I op a b).map fun (r,p3)=>(.t r,p1++(p2++p3))
  |_,_=>none
 | .eqb neg x y=>
  match rd gc st x,rd gc st y with
  |(.t (.bool a),p1),(.t (.bool b),p2)=>some (.t (.bool (if neg then !(a==b) else a==b)),p1++p2)
  |_,_=>none
 | .eqp neg x=>
  match rd gc st x with
  |(.t .z2W,p)=>some (.t (.bool (!neg)),p)
  |(.ptr _ _,p)=>some (.t (.bool neg),p)
  |(.t (.ptr _),p)=>some (.t (.bool neg),p)
  |(.fpt _ _ _,p)=>some (.t (.bool neg),p)
  |(.gpt k ver _,p)=>match zj st.s.sto k with|some (.gro w _)=>some (.t (.bool neg),p++[decide (ver=w)])|_=>none
  |_=>none
 | .eqm neg x=>
  match rd gc st x with
  |(.t .z0J,p)=>some (.t (.bool (!neg)),p)
  |(.mp _,p)=>some (.t (.bool neg),p)
  |_=>none
 | .conv k x=>match rd gc st x with|(.t (.int _ n),p)=>some (.t (.int k (k.wrap n)),p)|_=>none
 | .z9X x=>match rd gc st x with|(.t (.str s),p)=>some (.t (.str s),p)|_=>none
 | .z5L x=>
  match rd gc st x with
  |(.ptr k o,p)=>some (.ptr k o,p)
  |(.t (.ptr cs),p)=>some (.t (.ptr cs),p)
  |(.t (.fn f),p)=>some (.t (.fn f),p)
  |(.fn f c,p)=>some (.fn f c,p)
  |(.fpt k i o,p)=>some (.fpt k i o,p)
  |(.gpt k ver o,p)=>match zj st.s.sto k with|some (.gro w _)=>some (.gpt k ver o,p++[decide (ver=w)])|_=>none
  |_=>none
 | .fa off x=>
  match rd gc st x with
  |(.ptr k o,p)=>some (.ptr k (o+off),p)
  |(.t (.ptr cs),p)=>some (.t (.ptr (cs.drop off)),p)
  |(.fpt k i o,p)=>some (.fpt k i (o+off),p)
  |(.gpt k ver o,p)=>match zj st.s.sto k with|some (.gro w _)=>some (.gpt k ver (o+off),p++[decide (0<w),decide (ver=w)])|_=>none
  |_=>none
 | .ld ag n x=>
  match rd gc st x with
  |(.t (.ptr cs),p)=>
   if ag then (if n<=cs.length then some (.agg ((cs.take n).map V.t),p) else none)
   else match cs[0]? with|some c=>some (.t c,p)|none=>none
  |(.ptr k o,p)=>
   match zj st.s.sto k with
   |some (.cells cs)=>
    if ag then (if o+n<=cs.length then some (.agg (((cs.drop o).take n)),p) else none)
    else match cs[o]? with|some c=>some (c,p)|none=>none
   |_=>none
  |(.gpt k ver o,p)=>
   match zj st.s.sto k with
   |some (.gro w cs)=>
    if ag then (if o+n<=cs.length then some (.agg (((cs.drop o).take n)),p++[decide (0<w),decide (ver=w)]) else none)
    else match cs[o]? with|some c=>some (c,p++[decide (0<w),decide (ver=w)])|none=>none
   |_=>none
  |(.fpt k i o,p)=>
   match zj st.s.sto k with
   |some (.yL os)=>
    match os[i]? with
    |some cs=>
     if ag then (if o+n<=cs.length then some (.agg (((cs.drop o).take n)),p) else none)
     else match cs[o]? with|some c=>some (c,p)|none=>none
    |none=>none
   |_=>none
  |_=>none
 | .ia sz x i=>
  match rd gc st x,rd gc st i with
  |(v,p1),(.t (.int _ n),p2)=>
   match v with
   | .slc k off len s=>if s=sz then some (.ptr k (off+n.toNat*sz),p1++(p2++[decide (0<=n),decide (n<(len:Int))])) else none
   | .gsl k ver off len s=>
    match zj st.s.sto k with
    |some (.gro w _)=>if s=sz then some (.gpt k ver (off+n.toNat*sz),p1++(p2++[decide (0<=n),decide (n<(len:Int)),decide (0<w),decide (ver=w)])) else none
    |_=>none
   |v=>match v.zw with
    |some (.lst xs)=>match xs[n.toNat]? with
     |some c=>if c.length=sz/\sz≠0 then some (.t (.ptr c),p1++(p2++[decide (0<=n)])) else none
     |none=>none
    |_=>none
  |_,_=>none
 | .zcw len sz x i=>
  match rd gc st x,rd gc st i with
  |(.ptr k o,p1),(.t (.int _ n),p2)=>some (.ptr k (o+n.toNat*sz),p1++(p2++[decide (0<=n),decide (n<(len:Int))]))
  |(.t (.ptr cs),p1),(.t (.int _ n),p2)=>some (.t (.ptr (cs.drop (n.toNat*sz))),p1++(p2++[decide (0<=n),decide (n<(len:Int))]))
  |_,_=>none
 | .ixs x i=>
  match rd gc st x,rd gc st i with
  |(.t (.str s),p1),(.t (.int _ n),p2)=>match s[n.toNat]? with
   |some b=>some (.t (.int .u8 b.toNat),p1++(p2++[decide (0<=n)]))
   |none=>none
  |_,_=>none
 | .ixa ag len sz x i=>
  match rd gc st x,rd gc st i with
  |(.agg cs,p1),(.t (.int _ n),p2)=>
   if ag then (if n.toNat*sz+sz<=cs.length then some (.agg (((cs.drop (n.toNat*sz)).take sz)),p1++(p2++[decide (0<=n),decide (n<(len:Int))])) else none)
   else match cs[n.toNat*sz]? with|some c=>some (c,p1++(p2++[decide (0<=n),decide (n<(len:Int))]))|none=>none
  |_,_=>none
 | .len x=>
  match rd gc st x with
  |(.t (.lst xs),p)=>some (.t (.int .i64 xs.length),p)
  |(.own _ _ xs,p)=>some (.t (.int .i64 xs.length),p)
  |(.zC,p)=>some (.t (.int .i64 0),p)
  |(.slc _ _ n _,p)=>some (.t (.int .i64 n),p)
  |(.gsl k ver _ n _,p)=>match zj st.s.sto k with|some (.gro w _)=>some (.t (.int .i64 n),p++[decide (ver=w)])|_=>none
  |(.fow _ _ _ xs,p)=>some (.t (.int .i64 xs.length),p)
  |_=>none
 | .lens x=>match rd gc st x with|(.t (.str s),p)=>some (.t (.int .i64 s.length),p)|_=>none
 | .sls x lo hi=>
  match rd gc st x with
  |(.t (.str s),p)=>
   match bnd lo gc st 0,bnd hi gc st s.length with
   |some (l,p1),some (h,p2)=>some (.t (.str ((s.take h.toNat).drop l.toNat)),p++(p1++(p2++[decide (0<=l),decide (l<=h),decide (h<=(s.length:Int))])))
   |_,_=>none
  |_=>none
 | .sll sz x lo hi=>
  match rd gc st x with
  |(v,p)=>match v.zw with
   |some (.lst xs)=>
    match bnd lo gc st 0,bnd hi gc st xs.length with
    |some (l,p1),some (h,p2)=>some (.t (.lst ((xs.take h.toNat).drop l.toNat)),p++(p1++(p2++[decide (0<=l),decide (l<=h),decide (h<=(xs.length:Int)),ZQ sz xs])))
    |_,_=>none
   |_=>match v with
    | .slc k off len s=>
     match bnd lo gc st 0,bnd hi gc st len with
     |some (l,p1),some (h,p2)=>some (.slc k off h.toNat s,p++(p1++(p2++[decide (l=0),decide (0<=h),decide (h<=(len:Int)),s==sz])))
     |_,_=>none
    | .gsl k ver off len s=>
     match zj st.s.sto k,bnd lo gc st 0,bnd hi gc st len with
     |some (.gro w _),some (l,p1),some (h,p2)=>some (.gsl k ver (off+l.toNat*s) (h.toNat - l.toNat) s,p++(p1++(p2++[decide (0<=l),decide (l<=h),decide (h<=(len:Int)),s==sz,decide (ver=w)])))
     |_,_,_=>none
    |_=>none
 | .fld ag off n x=>
  match rd gc st x with
  |(.agg cs,p)=>
   if ag then (if off+n<=cs.length then some (.agg (((cs.drop off).take n)),p) else none)
   else match cs[off]? with|some c=>some (c,p)|none=>none
  |_=>none
 | .zeC x y=>
  match rd gc st x,rd gc st y with
  |(.t (.int k a),p1),(.t (.int k' b),p2)=>if k=k' then some (.t (.int k (if b>a then b else a)),p1++p2) else none
  |_,_=>none
 | .zdZ x y=>
  match rd gc st x,rd gc st y with
  |(.t (.int k a),p1),(.t (.int k' b),p2)=>if k=k' then some (.t (.int k (if b<a then b else a)),p1++p2) else none
  |_,_=>none
 | .build zs ps=>
  match z1C st gc zs ps with
  |some (cs,p)=>some (.agg cs,p)
  |none=>none
 | .ext x i=>
  match rd gc st x with
  |(.tup vs,p)=>match vs[i]? with|some v=>some (v,p)|none=>none
  |_=>none
 | .ze7 f caps=>
  match Q3 st caps with
  |some cs=>some (.fn f cs,[])
  |none=>none
 |_=>none
def ZA (st:St) (sz:Nat):List (List T)->List (Nat×Ar)->Option (List (List T))
 |xs,[]=>some xs
 |xs,(i,x)::r=>
  match (x.u st).Zc with
  |some c=>if c.length=sz/\i<xs.length then ZA st sz (xs.set i c) r else none
  |none=>none
def V.Zm:V->Bool
 | .t _=>true
 | .zC=>true
 | .own _ _ _=>true
 | .slc _ _ _ _=>true
 | .ptr _ _=>true
 | .mp _=>true
 | .fn _ _=>true
 | .fpt _ _ _=>true
 | .gpt _ _ _=>true
 | .gsl _ _ _ _ _=>true
 | .fow _ _ _ _=>true
 |_=>false
def Zg:List Bool->Prop
 |[]=>True
 |p::r=>p=true/\Zg r
def yC:V->Bool
 | .ptr _ _=>true
 | .mp _=>true
 | .fpt _ _ _=>true
 | .gpt _ _ _=>true
 | .gd _ (.ptr _ _)=>true
 | .gd _ (.mp _)=>true
 | .gd _ (.fpt _ _ _)=>true
 | .gd _ (.gpt _ _ _)=>true
 |_=>false
def wj:V->Bool
 | .gpt _ _ _=>true
 | .gsl _ _ _ _ _=>true
 | .gd _ (.gpt _ _ _)=>true
 | .gd _ (.gsl _ _ _ _ _)=>true
 |_=>false
def Z2 (st:St):AOp->Bool
 | .fa _ x=>wj (x.v st)
 | .z5L x=>wj (x.v st)
 | .eqp _ x=>wj (x.v st)
 | .ia _ x _=>wj (x.v st)
 | .len x=>wj (x.v st)
 | .sll _ x _ _=>wj (x.v st)
 | .ld _ _ x=>yC (x.v st)
 | .nw (.lookup _ _ _ _ x _)=>yC (x.v st)
 | .nw (.z7v x)=>yC (x.v st)
 |_=>false
def zfJ (P:Program) (f:FuncId):Prop:=∀args w,(callFunc f args).run P w= .ok (.enter f args) w
def wc (P:Program) (f:FuncId) (vs:List V) (base:Nat) (sto:List (Nat×zd)) (out:Out):Prop:=
 zfJ P f/\(∀k o,(k,o)∈out.ob->zj sto k≠none∨(base<=k/\k<base+out.n))/\
 ∀(Λ:L) (args:Array Value),zT Λ ⟨sto,Λ.nxt⟩->base+out.n<=Λ.nxt->(∀k,base<=k->k<base+out.n->k<Λ.nxt/\ZU Λ k/\zj sto k=none)->args.size=vs.length->(∀(j:Nat) (v:Value) (x:V),args[j]?=some v->vs[j]?=some x->zr Λ v x)->
  Calls P f args Λ.w fun e w'=>∃v Λ',e= .returned v/\Λ'.w=w'/\Kp Λ Λ'/\Λ'.nxt=Λ.nxt/\zT Λ' ⟨Zf sto out.ob,Λ.nxt⟩/\zr Λ' v out.v/\
   ∀k,ZU Λ k->zj sto k=none->(base+out.n<=k∨(k<base/\out.rd=false))->ZU Λ' k
def yk (st:St):List Ar->List V
 |[]=>[]
 |x::r=>x.u st::yk st r
def Qv:List (Nat×Nat)->List V
 |[]=>[]
 |(k,o)::r=> .ptr k o::Qv r
def FnL (P:Program) (f:FuncId) (vs:List V) (base:Nat) (sto:List (Nat×zd)) (out:Out):Prop:=
 ∀s,(∀k,k<base->zj s k=zj sto k)->wc P f vs base s out
def z0d (P:Program) (f:FuncId) (vs:List V) (base:Nat) (sto:List (Nat×zd)) (K:Out->Prop):Prop:=
 ∃out,(if out.rd then FnL P f vs base sto out else ∀s,wc P f vs base s out)/\K out
def qe (P:Program) (f:FuncId) (vs:List V) (base:Nat) (sto:List (Nat×zd)) (K:Out->Prop):Prop:=
 ∃out,(if out.rd then wc P f vs base sto out else ∀s,wc P f vs base s out)/\K out
def zh0 (P:Program) (gc:Bool) (f:FuncId) (vs:List V) (base:Nat) (sto:List (Nat×zd)) (K:Out->Prop):Prop:=
 ∃out:Out,(gc=true->(if out.rd then wc P f vs base sto out else ∀s,wc P f vs base s out))/\(out.ob=[]/\out.n=0)/\K {out with v:= .gd gc out.v}
def Qr (P:Program) (gc:Bool) (base:Nat) (st:St) (K:Out->Prop):AOp->Prop
 | .call f args=>zh0 P gc f (yk st args) base st.s.sto K
 |_=>False
def yi (st:St) (K:Out->Prop):NOp->Prop
 | .zda ks kag x k v=>
  match x.u st,z0g ks kag (k.u st) with
  | .mp q,some cs=>
   match zj st.s.sto q with
   |some (.map kag' es _)=>(kag'=kag/\yg ks es=true)/\K {v:= .top,ob:=[(q,.map kag (z4I cs (v.u st) es) none)],rd:=true}
   |_=>False
  |_,_=>False
 | .zaK ks kag x k=>
  match x.u st,z0g ks kag (k.u st) with
  | .mp q,some cs=>
   match zj st.s.sto q with
   |some (.map kag' es sx)=>(kag'=kag/\yg ks es=true)/\K {v:= .top,ob:=[(q,.map kag (z0o cs es) (z4Z (ZZ cs es) sx))],rd:=true}
   |_=>False
  |_,_=>False
 | .zf2 x=>
  match x.u st with
  | .mp q=>
   match zj st.s.sto q with
   |some (.map kag _ _)=>K {v:= .top,ob:=[(q,.map kag [] none)],rd:=true}
   |_=>False
  |_=>False
 | .ze8 ks kag zv x k=>
  match x.u st,z0g ks kag (k.u st) with
  | .mp q,some cs=>
   match zj st.s.sto q with
   |some (.map kag' es (some (c,bs)))=>
    match ZZ cs es with
    |some i=>
     match es[i]?,bs[i]? with
     |some e,some b=>(kag'=kag/\yg ks es=true)/\K {v:= .tup [e.2,.t (.int .i64 b)],ob:=[(q,.map kag es (some (c,bs)))],rd:=true}
     |_,_=>False
    |none=>(kag'=kag/\yg ks es=true)/\K {v:= .tup [zv,.t (.int .i64 c)],ob:=[(q,.map kag (es++[(cs,zv)]) (some (c+1,bs++[c])))],rd:=true}
   |_=>False
  |_,_=>False
 | .zen x s v=>
  match x.u st,s.u st with
  | .mp q,.t (.int _ z)=>
   match zj st.s.sto q with
   |some (.map kag es (some (c,bs)))=>
    match bs.findIdx? (fun b:Nat=>decide (((b:Nat):Int)=z)) with
    |some i=>K {v:= .top,ob:=[(q,.map kag (es.modify i fun e=>(e.1,v.u st)) (some (c,bs)))],rd:=true}
    |none=>False
   |_=>False
  |_,_=>False
 |_=>False
def z30 (st:St) (sz:Nat) (y:V):Option (List V×Nat):=
 match y.zw with
 |some (.lst ys)=>if ZQ sz ys then some (ys.flatten.map V.t,ys.length) else none
 |_=>
  match y with
  | .slc k off len s=>
   match zj st.s.sto k with
   |some (.cells cs)=>if s=sz/\off+len*sz<=cs.length then some ((cs.drop off).take (len*sz),len) else none
   |_=>none
  | .gsl k r off len s=>
   match zj st.s.sto k with
   |some (.gro r' cs)=>if s=sz/\r=r'/\off+len*sz<=cs.length then some ((cs.drop off).take (len*sz),len) else none
   |_=>none
  |_=>none
def evX (P:Program) (base:Nat) (st:St) (K:Out->Prop):AOp->Prop
 | .st n x v=>
  match x.u st with
  | .ptr k o=>
   match zj st.s.sto k with
   |some (.cells cs)=>
    match (v.u st).parts with
    |some vs=>(decide (vs.length=n/\o+n<=cs.length)=true/\vs.all V.Zm=true)/\K {v:= .top,ob:=[(k,.cells (setAt cs o vs))],rd:=true}
    |none=>False
   |_=>False
  |_=>False
 | .box n x=>
  match (x.u st).parts with
  |some vs=>(decide (vs.length=n)=true/\vs.all V.Zm=true)/\K {v:= .ptr base 0,ob:=[(base,.cells vs)],n:=1}
  |none=>False
 | .alloc zs=>K {v:= .ptr base 0,ob:=[(base,.cells zs)],n:=1}
 | .bsl ow sz zs ps=>
  match ZA st sz zs ps with
  |some xs=>ZQ sz xs=true/\(if ow then (if xs.isEmpty then K {v:= .zC} else K {v:= .own base sz xs,ob:=[(base,.arr xs.length)],n:=1})∨K {v:= .t (.lst xs)} else K {v:= .t (.lst xs)})
  |none=>False
 | .app sz bytes x y=>
  match (y.u st).zw with
  |some (.lst ys)=>
   match x.u st with
   | .zC=>ZQ sz ys=true/\ys.length*bytes<=140737488355328/\ys.length<=9223372036854775807/\K {v:= .own base sz ys,ob:=[(base,.arr ys.length)],n:=1}
   | .own k s xs=>
    match zj st.s.sto k with
    |some (.arr n)=>s=sz/\n=xs.length/\ZQ sz ys=true/\(xs.length+ys.length)*bytes<=140737488355328/\xs.length+ys.length<=9223372036854775807/\
      K {v:= .own k sz (xs++ys),ob:=[(k,.arr (xs.length+ys.length))],rd:=true}
    |_=>False
   |_=>False
  |_=>False
 | .z97 sz bytes z n=>
  match n.u st with
  | .t (.int _ m)=>(0<=m/\m*bytes<=281474976710656/\m<=9223372036854775807/\z.length=sz)/\
    K {v:= .slc base 0 m.toNat sz,ob:=[(base,.cells (List.replicate m.toNat z).flatten)],n:=1}
  |_=>False
 | .call f args=>z0d P f (yk st args) base st.s.sto K
 | .z13 x args=>
  match x.u st with
  | .t (.fn f)=>qe P f (yk st args) base st.s.sto K
  | .fn f caps=>qe P f (yk st args++Qv caps) base st.s.sto K
  |_=>False
 | .z3t kag _=>K {v:= .mp base,ob:=[(base,.map kag [] (some (0,[])))],n:=1}
 | .Qq x=>
  match x.u st with
  | .mp q=>
   match zj st.s.sto q with
   |some (.map _ _ (some (c,_)))=>K {v:= .ptr base 0,ob:=[(base,.iter q c [] c)],n:=1,rd:=true}
   |_=>False
  |_=>False
 | .z94 x=>
  match x.u st with
  | .t .z0J=>K {v:= .t (.int .i64 0),rd:=true}
  | .mp q=>
   match zj st.s.sto q with
   |some (.map _ es _)=>K {v:= .t (.int .i64 es.length),rd:=true}
   |_=>False
  |_=>False
 | .nw op=>yi st K op
 |_=>False
def YQ (st:St) (sz:Nat):List V->List (Nat×Ar)->Option (List V)
 |cs,[]=>some cs
 |cs,(i,x)::r=>
  match (x.u st).parts with
  |some ps=>if ps.length=sz/\i*sz+sz<=cs.length/\ps.all V.Zm=true then YQ st sz (setAt cs (i*sz) ps) r else none
  |none=>none
inductive z1Y (st:St) (base:Nat):AOp->Out->Prop
 |stG {n:Nat} {x v:Ar} {k ver o w:Nat} {cs vs:List V} (hx:x.u st= .gpt k ver o) (hk:zj st.s.sto k=some (.gro w cs)) (hw:ver=w) (hv:(v.u st).parts=some vs) (hn:vs.length=n) (ho:o+n<=cs.length) (hc:vs.all V.Zm=true):
   z1Y st base (.st n x v) {v:= .top,ob:=[(k,.gro w (setAt cs o vs))],rd:=true}
 |zc4 {sz bytes:Nat} {x y:Ar} {vs:List V} {m:Nat} (hx:x.u st= .zC) (hy:z30 st sz (y.u st)=some (vs,m)) (hc:vs.all V.Zm=true) (h1:m*bytes<=140737488355328) (h2:m<=9223372036854775807):
   z1Y st base (.app sz bytes x y) {v:= .gsl base 1 0 m sz,ob:=[(base,.gro 1 vs)],n:=1,rd:=true}
 |zcP {sz bytes:Nat} {x y:Ar} {k ver len w:Nat} {cs vs:List V} {m:Nat} (hx:x.u st= .gsl k ver 0 len sz) (hk:zj st.s.sto k=some (.gro w cs)) (hw:ver=w) (hl:cs.length=len*sz) (hy:z30 st sz (y.u st)=some (vs,m)) (hc:vs.all V.Zm=true)
   (h1:(len+m)*bytes<=140737488355328) (h2:len+m<=9223372036854775807):
   z1Y st base (.app sz bytes x y) {v:= .gsl k (w+1) 0 (len+m) sz,ob:=[(k,.gro (w+1) (cs++vs))],rd:=true}
 |zb7 {ow:Bool} {sz:Nat} {zs:List (List T)} {ps:List (Nat×Ar)} {cs:List V} (h:YQ st sz (zs.flatten.map V.t) ps=some cs):
   z1Y st base (.bsl ow sz zs ps) {v:= .slc base 0 zs.length sz,ob:=[(base,.cells cs)],n:=1}
 |z9t {sz:Nat} {z:List V} {x:Ar} {k ver off len w:Nat} {cs:List V} (hx:x.u st= .gsl k ver off len sz) (hk:zj st.s.sto k=some (.gro w cs)) (hw:ver=w) (ho:off+len*sz<=cs.length):
   z1Y st base (.nw (.zcc sz z x)) {v:= .top,ob:=[(k,.gro w (setAt cs off (List.replicate len z).flatten))],rd:=true}
def evY (base:Nat) (st:St) (K:Out->Prop) (op:AOp):Prop:=∃out,z1Y st base op out/\K out
def zd7 (P:Program) (gc:Bool) (base:Nat) (st:St) (K:Out->Prop) (op:AOp):Prop:=
 Qr P gc base st K op∨((gc=true->evX P base st K op∨evY base st K op)/\(gc=false->K {v:= .gd false .top,rd:=Z2 st op}))
def evU (P:Program) (base:Nat) (st:St) (op:AOp) (K:Out->Prop):Prop:=
 match zk true st op with
 |some (v,ps)=>Zg ps/\K {v:=v,rd:=Z2 st op}
 |none=>evX P base st K op∨evY base st K op
def z51 (want:Bool):V->Option Bool
 | .t (.bool b)=>some (cond want b (!b))
 | .gd c (.t (.bool b))=>some (c&&cond want b (!b))
 | .gd false .top=>some false
 |_=>none
def evO (P:Program) (base:Nat) (st:St) (ao:AO) (K:Out->Prop):Prop:=
 match ao.g with
 |none=>evU P base st ao.op K
 |some (s,want)=>
  match z51 want (look st.env s) with
  |none=>False
  |some gc=>
   match zk gc st ao.op with
   |some (v,ps)=>Zg (ps.map fun p=>!gc||p)/\K {v:= .gd gc v,rd:=Z2 st ao.op}
   |none=>zd7 P gc base st K ao.op
def evR (P:Program) (base:Nat) (st:St):List AO->List (Bool×Bool)->(Nat->St->List (Bool×Bool)->Prop)->Prop
 |[],fl,K=>K base st fl
 |ao::r,fl,K=>evO P base st ao fun out=>evR P (base+out.n) (st.app ao.dst out) r (fl++[(out.rd,!out.ob.isEmpty||decide (0<out.n))]) K
def ZF (P:Program) (t:TypeId):Option Nat:=(P.info? t).map (·.size)
def Z5 (P:Program) (t:TypeId):Bool:=
 match P.underlying t with
 |some (.struct _)|some (.array _ _)=>true
 |_=>false
def z1U:Value->Option V
 | .bool b=>some (.t (.bool b))
 | .int k n=>some (.t (.int k n))
 | .string s=>some (.t (.str s.data.toList))
 | .pointer none=>some (.t .z2W)
 | .map none=>some (.t .z0J)
 | .nilFunc=>some (.t .z6e)
 | .slice none 0 0=>some .zC
 |_=>none
def opA:Operand->Option Ar
 | .tmp t=>some (.s t)
 | .const v=>(z1U v).map .c
 | .func f=>some (.c (.t (.fn f)))
 | .global _=>none
def z0A:Option Operand->Option (Option Ar)
 |some y=>(opA y).map some
 |none=>some none
def zeroV (P:Program):Nat->TypeId->Option (List V)
 |0,_=>none
 |n+1,t=>
  match P.underlying t with
  |some .bool=>some [.t (.bool false)]
  |some (.int k)=>some [.t (.int k 0)]
  |some .string=>some [.t (.str [])]
  |some (.pointer _)=>some [.t .z2W]
  |some (.map _ _)=>some [.t .z0J]
  |some (.func _ _ _)=>some [.t .z6e]
  |some (.slice _)=>some [.zC]
  |some (.struct fs)=>fs.toList.foldr (fun f acc=>match zeroV P n f.type,acc with|some a,some b=>some (a++b)|_,_=>none) (some [])
  |some (.array k e)=>(zeroV P n e).map fun z=>(List.replicate k z).flatten
  |_=>none
def z92:Value->V->Bool
 | .bool b,.t (.bool c)=>b==c
 | .int k n,.t (.int j m)=>k==j&&n==m
 | .string s,.t (.str l)=>s.data.toList==l
 | .pointer none,.t .z2W=>true
 | .map none,.t .z0J=>true
 | .nilFunc,.t .z6e=>true
 | .slice none 0 0,.zC=>true
 |_,_=>false
def WX:List Value->List V->Bool
 |[],[]=>true
 |v::vs,x::xs=>z92 v x&&WX vs xs
 |_,_=>false
def ZP (P:Program) (t:TypeId):Option (List V):=
 match P.info? t,zeroV P 20 t with
 |some i,some zs=>
  match i.zero with
  |some z=>if WX z.cells.toList zs&&zs.length==i.size then some zs else none
  |none=>none
 |_,_=>none
def zgN (ops:Array Oper) (t:Nat):Bool:=
 ops.any fun o=>
  match o.op with
  | .call {callee:= .builtin .append,args,..}=>match (args[1]?:Option Operand) with|some (.tmp u)=>u==t|_=>false
  |_=>false
def partsOf (place:Nat->Option (Nat×Nat)):List (Nat×Operand)->Option (List (Nat×Nat×Ar))
 |[]=>some []
 |(i,x)::r=>
  match place i,opA x,partsOf place r with
  |some (off,n),some a,some l=>some ((off,n,a)::l)
  |_,_,_=>none
def placesOf (P:Program) (fs:Array Field):Option (List (Nat×Nat)):=fs.toList.mapM (fun f=>(P.info? f.type).map fun i=>(f.offset,i.size))
def slotsOf:List (Nat×Operand)->Option (List (Nat×Ar))
 |[]=>some []
 |(i,x)::r=>
  match opA x,slotsOf r with
  |some a,some l=>some ((i,a)::l)
  |_,_=>none
def z2U (P:Program) (f:FuncId):Option (Option Bool):=
 match P.funcs[f]? with
 |some fn=>
  if fn.body.isNone/\fn.origin= "" then
   if fn.name= "internal/bytealg.CountString" then some (some true)
   else if fn.name= "internal/bytealg.IndexByteString" then some (some false)
   else if fn.name= "internal/bytealg.abigen_runtime_cmpstring" then some none else none
  else none
 |none=>none
def ZV (P:Program) (ops:Array Oper) (o:Oper):Option AOp:=
 match o.op with
 | .move (.tmp t)| .assign (.tmp t)=>some (.mv (.s t))
 | .move (.const v)| .assign (.const v)=>(z1U v).map .cst
 | .move (.func f)| .assign (.func f)=>some (.cst (.t (.fn f)))
 | .pick c a b=>do some (.pick (←opA c) (←opA a) (←opA b))
 | .unOp op _ x=>do some (.un op (←opA x))
 | .binOp op xt x y _=>
  match P.underlying xt with
  |some (.int _)|some .string=>do some (.bin op (←opA x) (←opA y))
  |some .bool=>
   match op with
   | .eql=>do some (.eqb false (←opA x) (←opA y))
   | .neq=>do some (.eqb true (←opA x) (←opA y))
   |_=>none
  |some (.pointer _)=>
   match op,y with
   | .eql,.const (.pointer none)=>do some (.eqp false (←opA x))
   | .neq,.const (.pointer none)=>do some (.eqp true (←opA x))
   |_,_=>none
  |some (.map _ _)=>
   match op,y with
   | .eql,.const (.map none)=>do some (.eqm false (←opA x))
   | .neq,.const (.map none)=>do some (.eqm true (←opA x))
   |_,_=>none
  |_=>none
 | .convert src dst x=>
  match P.underlying src,P.underlying dst with
  |some (.int _),some (.int k)=>do some (.conv k (←opA x))
  |some .string,some .string=>do some (.z9X (←opA x))
  |_,_=>none
 | .nilCheck x=>do some (.z5L (←opA x))
 | .fieldAddr s x f=>
  match P.underlying s with
  |some (.struct fs)=>do
   let fd ←fs[f]?
   let n ←ZF P fd.type
   if n=0 then none else some (.fa fd.offset (←opA x))
  |_=>none
 | .load t x=>do
  let n ←ZF P t
  match P.underlying t with
  |none=>none
  |some _=>
   if Z5 P t then some (.ld true n (←opA x))
   else some (.ld false 1 (←opA x))
 | .store t x v=>do
  let n ←ZF P t
  some (.st n (←opA x) (←opA v))
 | .indexAddr t x ix=>
  match P.underlying t with
  |some (.slice e)=>do some (.ia (←ZF P e) (←opA x) (←opA ix))
  |some (.array n e)=>do some (.zcw n (←ZF P e) (←opA x) (←opA ix))
  |_=>none
 | .index t x ix=>
  match P.underlying t with
  |some .string=>do some (.ixs (←opA x) (←opA ix))
  |some (.array n e)=>
   match P.underlying e with
   |none=>none
   |some _=>do some (.ixa (Z5 P e) n (←ZF P e) (←opA x) (←opA ix))
  |_=>none
 | .slice t x lo hi none=>
  match P.underlying t with
  |some .string=>do
   let l ←z0A lo
   let h ←z0A hi
   some (.sls (←opA x) l h)
  |some (.slice e)=>do
   let l ←z0A lo
   let h ←z0A hi
   some (.sll (←ZF P e) (←opA x) l h)
  |_=>none
 | .field t x f=>
  match P.underlying t with
  |some (.struct fs)=>do
   let fd ←fs[f]?
   let n ←ZF P fd.type
   match P.underlying fd.type with
   |none=>none
   |some _=>some (.fld (Z5 P fd.type) fd.offset n (←opA x))
  |_=>none
 | .build t parts=>
  match P.underlying t with
  |some (.struct fs)=>do
   let pl ←placesOf P fs
   some (.build (←ZP P t) (←partsOf (pl.toArray[·]?) parts.toList))
  |some (.array _ e)=>do
   let sz ←ZF P e
   some (.build (←ZP P t) (←partsOf (fun i=>some (i*sz,sz)) parts.toList))
  |_=>none
 | .makeFunc (.func f) first caps=>do
  if first.isEmpty then some (.ze7 f (←caps.toList.mapM opA)) else none
 | .alloc t=>do some (.alloc (←ZP P t))
 | .box t x=>do some (.box (←ZF P t) (←opA x))
 | .buildSlice t n parts=>
  match P.underlying t with
  |some (.slice e)=>do
   let sz ←ZF P e
   let zs ←ZP P e
   let z ←zs.mapM V.zw
   if n*sz<=16777216 then some (.bsl (!(o.dst.any (zgN ops))) sz (List.replicate n z) (←slotsOf parts.toList)) else none
  |_=>none
 | .extract x ix=>do some (.ext (←opA x) ix)
 | .makeMap t none=>
  match P.underlying t with
  |some (.map k e)=>some (.z3t (Z5 P k) (Z5 P e))
  |_=>none
 | .makeSlice t (.tmp l) (.tmp c)=>
  match P.underlying t with
  |some (.slice e)=>do
   let inf ←P.info? e
   if l=c then some (.z97 inf.size inf.bytes (←ZP P e) (.s l)) else none
  |_=>none
 | .call {callee:= .builtin .len,args,argTypes}=>
  match argTypes[0]?,args[0]? with
  |some t,some x=>
   match P.underlying t with
   |some .string=>do some (.lens (←opA x))
   |some (.slice _)=>do some (.len (←opA x))
   |some (.map _ _)=>do some (.z94 (←opA x))
   |_=>none
  |_,_=>none
 | .call {callee:= .builtin .max,args,..}=>
  match args.toList with
  |[x,y]=>do some (.zeC (←opA x) (←opA y))
  |_=>none
 | .call {callee:= .builtin .min,args,..}=>
  match args.toList with
  |[x,y]=>do some (.zdZ (←opA x) (←opA y))
  |_=>none
 | .call {callee:= .builtin .append,args,argTypes}=>
  match args.toList,argTypes.toList with
  |[x,y],[t,u]=>
   if t=u then
    match P.underlying t with
    |some (.slice e)=>do
     let inf ←P.info? e
     let z ←inf.zero
     if inf.size=0∨z.cells.size≠inf.size then none else some (.app inf.size inf.bytes (←opA x) (←opA y))
    |_=>none
   else none
  |_,_=>none
 | .call {callee:= .value (.func f),args,..}=>
  match z2U P f with
  |some _=>none
  |none=>do some (.call f (←args.toList.mapM opA))
 | .call {callee:= .value (.tmp t),args,..}=>do some (.z13 (.s t) (←args.toList.mapM opA))
 | .range t x=>
  match P.underlying t with
  |some (.map _ _)=>do some (.Qq (←opA x))
  |_=>none
 |_=>none
def YW (P:Program):Nat->List Field->Option (List KSh)
 |_,[]=>some []
 |i,f::r=>
  if f.offset=i/\f.name≠ "_" then
   match P.underlying f.type,YW P (i+1) r with
   |some .bool,some l=>some (.bool::l)
   |some (.int k),some l=>some (.int k::l)
   |some .string,some l=>some (.str::l)
   |_,_=>none
  else none
def YT (P:Program) (t:TypeId):Option (List KSh×Bool):=
 match P.underlying t with
 |some .bool=>some ([.bool],false)
 |some (.int k)=>some ([.int k],false)
 |some .string=>some ([.str],false)
 |some (.struct fs)=>if P.stoodInHeld t=false/\P.eqGuardType P.depth t=false then (YW P 0 fs.toList).map (·,true) else none
 |_=>none
def QU (P:Program) (t:TypeId):Option V:=
 match ZP P t,(P.info? t).bind (·.zero) with
 |some zs,some (.agg _)=>some (.agg zs)
 |some [z],some (.bool _)=>some z
 |some [z],some (.int _ _)=>some z
 |some [z],some (.string _)=>some z
 |some [z],some (.pointer _)=>some z
 |some [z],some (.slice _ _ _)=>some z
 |some [z],some (.map _)=>some z
 |_,_=>none
def z86 (P:Program) (o:Oper):Option NOp:=
 match o.op with
 | .lookup t x k ok=>
  match P.underlying t with
  |some (.map kt et)=>do
   let (ks,kag)←YT P kt
   some (.lookup ks kag (←QU P et) ok (←opA x) (←opA k))
  |_=>none
 | .mapUpdate t x k v=>
  match P.underlying t with
  |some (.map kt _)=>do
   let (ks,kag)←YT P kt
   some (.zda ks kag (←opA x) (←opA k) (←opA v))
  |_=>none
 | .mapEntry t x k=>
  match P.underlying t with
  |some (.map kt et)=>do
   let (ks,kag)←YT P kt
   some (.ze8 ks kag (←QU P et) (←opA x) (←opA k))
  |_=>none
 | .entryStore _ x s v=>do some (.zen (←opA x) (←opA s) (←opA v))
 | .binOp op t x y _=>
  match P.underlying t with
  |some (.slice _)=>
   match op,y with
   | .eql,.const (.slice none 0 0)=>do some (.eqn false (←opA x))
   | .neq,.const (.slice none 0 0)=>do some (.eqn true (←opA x))
   |_,_=>none
  |some (.struct _)=>
   match op,YT P t with
   | .eql,some (ks,_)=>do some (.zbb false ks (←opA x) (←opA y))
   | .neq,some (ks,_)=>do some (.zbb true ks (←opA x) (←opA y))
   |_,_=>none
  |_=>none
 | .call {callee:= .builtin .delete,args,argTypes}=>
  match args.toList,argTypes[0]? with
  |[x,k],some t=>
   match P.underlying t with
   |some (.map kt _)=>do
    let (ks,kag)←YT P kt
    some (.zaK ks kag (←opA x) (←opA k))
   |_=>none
  |_,_=>none
 | .call {callee:= .builtin .clear,args,argTypes}=>
  match args.toList,argTypes[0]? with
  |[x],some t=>
   match P.underlying t with
   |some (.map _ _)=>do some (.zf2 (←opA x))
   |some (.slice e)=>
    match ZF P e,ZP P e,opA x with
    |some sz,some z,some x'=>if z.all V.Zm=true then some (.zcc sz z x') else none
    |_,_,_=>none
   |_=>none
  |_,_=>none
 | .next x false=>do some (.nxt (←opA x))
 | .entry x=>do some (.z7v (←opA x))
 | .call {callee:= .value (.func f),args,..}=>
  match z2U P f,args.toList with
  |some (some cnt),[x,y]=>do some (.xtr cnt (←opA x) (←opA y))
  |some none,[x,y]=>do some (.xcm (←opA x) (←opA y))
  |_,_=>none
 | .convert src dst x=>
  match P.underlying src,P.underlying dst with
  |some (.slice e),some .string=>
   match P.underlying e with
   |some (.int .u8)=>do some (.zdr (←opA x))
   |_=>some .bad
  |_,_=>some .bad
 |_=>some .bad
def qQ (P:Program) (ops:Array Oper) (o:Oper):Option AOp:=
 match ZV P ops o with
 |some x=>some x
 |none=>(z86 P o).map .nw
def z4G (P:Program) (ops:Array Oper) (o:Oper):Option AO:=
 match qQ P ops o with
 |none=>none
 |some op=>
  match o.guard with
  |none=>some ⟨o.dst,none,op⟩
  |some (j,want)=>
   match (ops[j]?).bind (·.dst) with
   |some s=>some ⟨o.dst,some (s,want),op⟩
   |none=>none
def z2t (P:Program) (ops:Array Oper):List Oper->Option (List AO)
 |[]=>some []
 |o::r=>
  match z4G P ops o,z2t P ops r with
  |some a,some l=>some (a::l)
  |_,_=>none
inductive zL where
 |skip
 |region (draw:Bool) (ops:List AO) (after:List (List Nat)) (live:List Nat)
 |seq (a b:zL)
 |cond (c:Ar) (a b:zL)
 |block (id:Nat) (c:zL)
 |loop (c:zL)
 |exit (id:Nat)
 |ret
 |scope (c:zL)
 |lbl
def wL (ops:Array Oper):List (List Nat):=
 ops.toList.map fun o=>(o.after.toList.filter (Region.binds .any)).map (·.on)
def YG (P:Program):Code->Option zL
 | .skip=>some .skip
 | .region _ ops draw=>
  match z2t P ops ops.toList with
  |some l=>some (.region draw l (if draw then wL ops else []) [])
  |none=>none
 | .seq a b=>match YG P a,YG P b with|some x,some y=>some (.seq x y)|_,_=>none
 | .cond c a b=>match opA c,YG P a,YG P b with|some z,some x,some y=>some (.cond z x y)|_,_,_=>none
 | .block id c=>(YG P c).map (.block id)
 | .loop c=>(YG P c).map .loop
 | .exit id=>some (.exit id)
 | .ret=>some .ret
 | .scope c=>(YG P c).map .scope
 | .label _=>some .lbl
 |_=>none
def zL.bare:zL->zL
 | .region d o a _=> .region d o a []
 | .seq a b=> .seq a.bare b.bare
 | .cond c a b=> .cond c a.bare b.bare
 | .block id c=> .block id c.bare
 | .loop c=> .loop c.bare
 | .scope c=> .scope c.bare
 |c=>c
theorem zr.ZL {Λ:L} {v:Value} {x:T} (h:zr Λ v (.t x)):zI Λ.lab Λ.w v x:=by cases h;assumption
theorem zr.zw {Λ:L} {v:Value} {x:V} {t:T} (h:zr Λ v x) (hx:x.zw=some t):zI Λ.lab Λ.w v t:=by
 cases h<;>simp [V.zw] at hx
 ·subst hx;assumption
 ·subst hx;exact .nil
 ·subst hx;assumption
 ·subst hx;assumption
theorem zI.Yj {l:Nat->Lab} {w:World} {v:Value} {b:Bool} (h:zI l w v (.bool b)):v= .bool b:=by cases h;rfl
theorem zI.yc {l:Nat->Lab} {w:World} {v:Value} {k:IntKind} {n:Int} (h:zI l w v (.int k n)):v= .int k n:=by cases h;rfl
theorem zI.Wc {l:Nat->Lab} {w:World} {v:Value} {s:List UInt8} (h:zI l w v (.str s)):v= .string ⟨⟨s⟩⟩:=by cases h;rfl
theorem zr.z6z {Λ:L} {v:Value} {x:V} (h:z1U v=some x):zr Λ v x:=by
 unfold z1U at h
 split at h<;>simp at h<;>subst h
 ·exact .t (.bool _)
 ·exact .t (.int _ _)
 ·exact .t (.str _)
 ·exact .t .z2W
 ·exact .t .z0J
 ·exact .t .z6e
 ·exact .zC
theorem zr.zbJ {Λ:L} {v:Value} {x:V} (h:z92 v x=true):zr Λ v x:=by
 unfold z92 at h
 split at h<;>simp at h
 ·subst h;exact .t (.bool _)
 ·obtain ⟨rfl,rfl⟩:=h;exact .t (.int _ _)
 ·subst h;exact .t (.str _)
 ·exact .t .z2W
 ·exact .t .z0J
 ·exact .t .z6e
 ·exact .zC
theorem z43 {Λ:L}:∀{vs:List Value} {xs:List V},WX vs xs=true->vs.length=xs.length/\∀(j:Nat) (v:Value) (x:V),vs[j]?=some v->xs[j]?=some x->zr Λ v x
 |[],[],_=>⟨rfl,by simp⟩
 |v::vs,x::xs,h=>by
  simp only [WX,w07] at h;obtain ⟨h1,h2⟩:=z43 (Λ:=Λ) h.2
  refine ⟨by simp [h1],fun j u y hu hy=>?_⟩
  cases j with
  |zero=>simp at hu hy;subst hu;subst hy;exact .zbJ h.1
  |succ j=>exact h2 j u y (by simpa using hu) (by simpa using hy)
 |[],_::_,h=>by simp [WX] at h
 |_::_,[],h=>by simp [WX] at h
theorem Rel.opd {C:Ctx} {Λ:L} {st:St} {a:Act} (h:Rel C Λ st a) {y:Operand} {x:Ar} (hx:opA y=some x):zr Λ (a.eval y) (x.v st):=by
 unfold opA at hx;split at hx
 ·simp at hx;subst hx;exact h.env _
 ·simp only [w06] at hx;obtain ⟨v,hv,rfl⟩:=hx;exact .z6z hv
 ·simp at hx;subst hx;exact .t (.fn _)
 ·simp at hx
theorem zr.ug {Λ:L} {v:Value} {x:V} (h:zr Λ v x):zr Λ v x.ug:=by
 cases h with
 |gd h _=>
  rename_i c _ _
  cases c with
  |true=>exact h rfl
  |false=>exact .top
 |t h=>exact .t h
 |zC=>exact .zC
 |own a b c d e=>exact .own a b c d e
 |slc a b c=>exact .slc a b c
 |agg a b=>exact .agg a b
 |tup a b=>exact .tup a b
 |ptr a b=>exact .ptr a b
 |mp a b=>exact .mp a b
 |fn a b=>exact .fn a b
 |top=>exact .top
 |ub a b=>exact .ub a b
 |fpt a b=>exact .fpt a b
 |gpt a b c d=>exact .gpt a b c d
 |gsl a b c d=>exact .gsl a b c d
 |fow a b c d e=>exact .fow a b c d e
theorem Rel.opu {C:Ctx} {Λ:L} {st:St} {a:Act} (h:Rel C Λ st a) {y:Operand} {x:Ar} (hx:opA y=some x):zr Λ (a.eval y) (x.u st):=(h.opd hx).ug
theorem zcJ {Λ:L} {gc:Bool} {u:Value} {x v:V} {p:List Bool} (hx:zr Λ u x) (hr:x.un gc=(v,p)) (hp:∀q∈p,q) (hg:gc=true):zr Λ u v:=by
 unfold V.un at hr;split at hr
 ·simp only [w05] at hr;obtain ⟨rfl,rfl⟩:=hr;have:=hp _ (w1i.2 rfl);simp [hg] at this
  cases hx with
  |gd h _=>exact h this
 ·simp only [w05] at hr;obtain ⟨rfl,rfl⟩:=hr;exact hx
theorem zm {C:Ctx} {Λ:L} {st:St} {a:Act} (h:Rel C Λ st a) {y:Operand} {x:Ar} (hx:opA y=some x) {gc:Bool} {v:V} {p:List Bool}
  (hr:rd gc st x=(v,p)) (hp:∀q∈p,q) (hg:gc=true):zr Λ (a.eval y) v:=zcJ (h.opd hx) hr hp hg
def zD (P:Program) (o:Oper) (gc:Bool) (st:St) (x:V):Prop:=
 ∀(C:Ctx) (Λ:L) (a:Act),C.P=P->gc=true->Rel C Λ st a->∃v,(execOp a.eval o).run P Λ.w= .ok (.value v) Λ.w/\zr Λ v x
section
variable {P:Program} {o:Oper} {gc:Bool} {st:St}
theorem zfd {x:V} {v:Value} (ho:o.op= .move (.const v)∨o.op= .assign (.const v)) (hx:∀Λ,zr Λ v x):zD P o gc st x:=by
 intro C Λ a _ _ _;refine ⟨v,?_,hx _⟩
 rcases ho with ho|ho<;>simp [execOp,ho,Act.eval]
theorem ze3 {y:Operand} {x:Ar} {v:V} {p:List Bool} (ho:o.op= .move y∨o.op= .assign y) (hy:opA y=some x) (hr:rd gc st x=(v,p)) (hp:∀q∈p,q):zD P o gc st v:=by
 intro C Λ a _ hg h;have hv:=zm h hy hr hp hg;refine ⟨a.eval y,?_,hv⟩
 rcases ho with ho|ho<;>simp [execOp,ho]
theorem zgf {c x y:Operand} {c' x' y':Ar} {cb xa xb:Bool} {p1 p2 p3:List Bool} (ho:o.op= .pick c x y) (hc:opA c=some c') (hx:opA x=some x') (hy:opA y=some y')
  (h1:rd gc st c'=(.t (.bool cb),p1)) (h2:rd (gc&&cb) st x'=(.t (.bool xa),p2)) (h3:rd (gc&&!cb) st y'=(.t (.bool xb),p3)) (hp:∀q∈p1++(p2++p3),q):
  zD P o gc st (.t (.bool (bif cb then xa else xb))):=by
 intro C Λ a _ hg h;have hc1:=zm h hc h1 (fun q hq=>hp q (by simp [hq])) hg;have ec:=hc1.ZL.Yj
 cases cb with
 |true=>
  have hx1:=zm h hx h2 (fun q hq=>hp q (by simp [hq])) (by simp [hg])
  refine ⟨a.eval x,by simp [execOp,ho,ec,asBool],?_⟩
  exact .t hx1.ZL
 |false=>
  have hy1:=zm h hy h3 (fun q hq=>hp q (by simp [hq])) (by simp [hg])
  refine ⟨a.eval y,by simp [execOp,ho,ec,asBool],?_⟩
  exact .t hy1.ZL
theorem zhn {t:TypeId} {x:Operand} {x':Ar} {b:Bool} {p:List Bool} (ho:o.op= .unOp .not t x) (hx:opA x=some x') (h1:rd gc st x'=(.t (.bool b),p)) (hp:∀q∈p,q):
  zD P o gc st (.t (.bool (!b))):=by
 intro C Λ a _ hg h;have hx1:=zm h hx h1 hp hg;have e:=hx1.ZL.Yj
 exact ⟨.bool (!b),by simp [execOp,ho,e,Op.unary],.t (.bool _)⟩
theorem zgG {t:TypeId} {x:Operand} {x':Ar} {k:IntKind} {n:Int} {p:List Bool} (ho:o.op= .unOp .neg t x) (hx:opA x=some x') (h1:rd gc st x'=(.t (.int k n),p)) (hp:∀q∈p,q):
  zD P o gc st (.t (.int k (k.wrap (0 - n)))):=by
 intro C Λ a _ hg h;have hx1:=zm h hx h1 hp hg;have e:=hx1.ZL.yc
 exact ⟨.int k (k.wrap (0 - n)),by simp [execOp,ho,e,Op.unary,Op.intArith],.t (.int _ _)⟩
theorem toList_mk (s:List UInt8):ByteArray.toList ⟨⟨s⟩⟩=s:=ByteArray.toList_mk s
theorem zbd (a b:List UInt8):(⟨⟨a⟩⟩++⟨⟨b⟩⟩:ByteArray)=⟨⟨a++b⟩⟩:=by
 apply ByteArray.ext;simp [ByteArray.data_append]
theorem zhg {op:BinOp} {t ty:TypeId} {x y:Operand} {x' y':Ar} {a b r:T} {p1 p2 p3:List Bool} (ho:o.op= .binOp op t x y ty) (hx:opA x=some x') (hy:opA y=some y')
  (h1:rd gc st x'=(.t a,p1)) (h2:rd gc st y'=(.t b,p2)) (hb:z3I op a b=some (r,p3)) (hp:∀q∈p1++(p2++p3),q):zD P o gc st (.t r):=by
 intro C Λ ac _ hg h;have hx1:=zm h hx h1 (fun q hq=>hp q (by simp [hq])) hg;have hy1:=zm h hy h2 (fun q hq=>hp q (by simp [hq])) hg;have hp3:∀q∈p3,q:=fun q hq=>hp q (by simp [hq])
 cases a with
 |int k m=>
  cases b with
  |int k' n=>
   have e1:=hx1.ZL.yc;have e2:=hy1.ZL.yc;simp only [z3I] at hb;split at hb
   ·rename_i hk;subst hk
    cases op<;>simp at hb<;>obtain ⟨rfl,rfl⟩:=hb
    case quo=>
     have hn:n≠0:=zDT (hp3 _ (by simp))
     exact ⟨_,by simp [execOp,ho,e1,e2,eqGuard,binOp,Op.intDiv,hn],.t (.int _ _)⟩
    case rem=>
     have hn:n≠0:=zDT (hp3 _ (by simp))
     exact ⟨_,by simp [execOp,ho,e1,e2,eqGuard,binOp,Op.intDiv,hn],.t (.int _ _)⟩
    case add=>exact ⟨_,by simp [execOp,ho,e1,e2,eqGuard,binOp,Op.intArith],.t (.int _ _)⟩
    case sub=>exact ⟨_,by simp [execOp,ho,e1,e2,eqGuard,binOp,Op.intArith],.t (.int _ _)⟩
    case mul=>exact ⟨_,by simp [execOp,ho,e1,e2,eqGuard,binOp,Op.intArith],.t (.int _ _)⟩
    case and=>exact ⟨_,by simp [execOp,ho,e1,e2,eqGuard,binOp,Op.intBits,zgB],.t (.int _ _)⟩
    case or=>exact ⟨_,by simp [execOp,ho,e1,e2,eqGuard,binOp,Op.intBits,orI],.t (.int _ _)⟩
    all_goals exact ⟨_,by simp [execOp,ho,e1,e2,eqGuard,binOp,Op.intCmp],.t (.bool _)⟩
   ·simp at hb
  |_=>simp [z3I] at hb
 |str m=>
  cases b with
  |str n=>
   have e1:=hx1.ZL.Wc;have e2:=hy1.ZL.Wc;simp only [z3I] at hb
   cases op<;>simp at hb<;>obtain ⟨rfl,rfl⟩:=hb
   ·have hn:m.length+n.length<=9223372036854775807:=zDT (hp3 _ (by simp))
    have hn':¬ (IntKind.i64.max<((m.length+n.length:Nat):Int)):=by
     show ¬ ((9223372036854775807:Int)<_);omega
    have hs:((⟨⟨m⟩⟩:ByteArray).size+(⟨⟨n⟩⟩:ByteArray).size)=m.length+n.length:=rfl;refine ⟨.string ⟨⟨m++n⟩⟩,?_,.t (.str _)⟩;simp only [execOp,ho,e1,e2,eqGuard,binOp,Op.stringOp,hs,zbd];simp;omega
   all_goals exact ⟨_,by simp [execOp,ho,e1,e2,eqGuard,binOp,Op.stringOp],.t (.bool _)⟩
  |_=>simp [z3I] at hb
 |_=>simp [z3I] at hb
end
theorem y3 (b o n:Nat):(⟨b,o,none⟩:Addr).add n=⟨b,o+n,none⟩:=by
 unfold Addr.add;split
 ·rename_i h;subst h;rfl
 ·rfl
section
variable {P:Program} {o:Oper} {gc:Bool} {st:St}
theorem run_equal_bool {t:TypeId} (hu:P.underlying t=some .bool) (a b:Bool) (w:World):(Op.equal t (.bool a) (.bool b)).run P w= .ok (a==b) w:=by
 have:∀d,(Op.equalIn (d+1) t (.bool a) (.bool b)).run P w= .ok (a==b) w:=fun d=>by simp [Op.equalIn,run_underlying hu]
 exact this 9999
theorem zfg {neg:Bool} {t ty:TypeId} {x y:Operand} {x' y':Ar} {a b:Bool} {p1 p2:List Bool} (hu:P.underlying t=some .bool)
  (ho:o.op= .binOp (if neg then .neq else .eql) t x y ty) (hx:opA x=some x') (hy:opA y=some y')
  (h1:rd gc st x'=(.t (.bool a),p1)) (h2:rd gc st y'=(.t (.bool b),p2)) (hp:∀q∈p1++p2,q):zD P o gc st (.t (.bool (if neg then !(a==b) else a==b))):=by
 intro C Λ ac _ hg h;have hx1:=zm h hx h1 (fun q hq=>hp q (by simp [hq])) hg;have hy1:=zm h hy h2 (fun q hq=>hp q (by simp [hq])) hg;have e1:=hx1.ZL.Yj;have e2:=hy1.ZL.Yj;refine ⟨_,?_,.t (.bool _)⟩
 cases neg<;>simp [execOp,ho,e1,e2,eqGuard,binOp,run_equal_bool hu]
theorem zfO {src dst:TypeId} {x:Operand} {x':Ar} {k k1 k2:IntKind} {n:Int} {p:List Bool} (hs:P.underlying src=some (.int k1)) (hd:P.underlying dst=some (.int k))
  (ho:o.op= .convert src dst x) (hx:opA x=some x') (h1:rd gc st x'=(.t (.int k2 n),p)) (hp:∀q∈p,q):zD P o gc st (.t (.int k (k.wrap n))):=by
 intro C Λ ac _ hg h;have hx1:=zm h hx h1 hp hg;have e1:=hx1.ZL.yc
 exact ⟨_,by simp [execOp,ho,e1,convert,run_underlying hs,run_underlying hd,Conv.intToInt],.t (.int _ _)⟩
theorem zf5 {src dst:TypeId} {x:Operand} {x':Ar} {v:V} {p:List Bool} (hs:P.underlying src=some .string) (hd:P.underlying dst=some .string)
  (ho:o.op= .convert src dst x) (hx:opA x=some x') (h1:rd gc st x'=(v,p)) (hp:∀q∈p,q) (hv:∃s,v= .t (.str s)):zD P o gc st v:=by
 intro C Λ ac _ hg h;have hx1:=zm h hx h1 hp hg;obtain ⟨s,rfl⟩:=hv;have e1:=hx1.ZL.Wc
 exact ⟨.string ⟨⟨s⟩⟩,by simp [execOp,ho,e1,convert,run_underlying hs,run_underlying hd],.t (.str _)⟩
theorem z3c {x:Operand} {x':Ar} {v:V} {p:List Bool} (ho:o.op= .nilCheck x) (hx:opA x=some x') (h1:rd gc st x'=(v,p)) (hp:∀q∈p,q)
  (hv:(∃k n,v= .ptr k n)∨(∃c,v= .t (.ptr c))∨(∃f,v= .t (.fn f))∨∃f c,v= .fn f c):zD P o gc st v:=by
 intro C Λ ac _ hg h;have hx1:=zm h hx h1 hp hg
 rcases hv with ⟨k,n,rfl⟩|⟨c,rfl⟩|⟨f,rfl⟩|⟨f,c,rfl⟩
 ·generalize hv:ac.eval x=v at hx1
  cases hx1 with
  |ptr hk h'=>exact ⟨_,by simp [execOp,ho,hv],.ptr hk h'⟩
 ·generalize hv:ac.eval x=v at hx1
  cases hx1 with
  |t h'=>cases h' with|ptr _ b o vf a1 a2 a3=>exact ⟨_,by simp [execOp,ho,hv],.t (.ptr _ b o vf a1 a2 a3)⟩
 ·generalize hv:ac.eval x=v at hx1
  cases hx1 with
  |t h'=>cases h';exact ⟨_,by simp [execOp,ho,hv],.t (.fn _)⟩
 ·generalize hv:ac.eval x=v at hx1
  cases hx1 with
  |fn hs h'=>exact ⟨_,by simp [execOp,ho,hv],.fn hs h'⟩
theorem zbe {x:Operand} {x':Ar} {k i n:Nat} {p:List Bool} (ho:o.op= .nilCheck x) (hx:opA x=some x') (h1:rd gc st x'=(.fpt k i n,p)) (hp:∀q∈p,q):zD P o gc st (.fpt k i n):=by
 intro C Λ ac _ hg h;have hx1:=zm h hx h1 hp hg;generalize hv:ac.eval x=v at hx1
 cases hx1 with
 |fpt hk h'=>exact ⟨_,by simp [execOp,ho,hv],.fpt hk h'⟩
theorem zI.z7E {l:Nat->Lab} {w:World} {b o n:Nat} {cs:List T} (h:zI l w (.pointer (some ⟨b,o,none⟩)) (.ptr cs)):zI l w (.pointer (some ⟨b,o+n,none⟩)) (.ptr (cs.drop n)):=by
 cases h with
 |ptr _ _ _ vf a1 a2 a3=>
  refine .ptr _ b (o+n) (fun j=>vf (n+j)) (fun j x hj=>?_) (fun j x hj=>?_) (fun j x hj=>?_)<;>rw [w0z] at hj
  ·rw [w1e];exact a1 _ x hj
  ·rw [w1e];exact a2 _ x hj
  ·exact a3 _ x hj
theorem zI.zcl {l:Nat->Lab} {w:World} {b o:Nat} {cs:List T} (h:zI l w (.pointer (some ⟨b,o,none⟩)) (.ptr cs)) (j:Nat) (x:T) (hj:cs[j]?=some x):∃v,w.cell? ⟨b,o+j,none⟩=some v/\zI l w v x:=by
 cases h with
 |ptr _ _ _ vf a1 a2 a3=>exact ⟨vf j,a2 j x hj,a3 j x hj⟩
theorem zI.z3d {l:Nat->Lab} {w:World} {v:Value} {cs:List T} (h:zI l w v (.ptr cs)):∃b o,v= .pointer (some ⟨b,o,none⟩):=by
 cases h;exact ⟨_,_,rfl⟩
theorem WS {s:TypeId} {fs:Array Field} {f:Nat} {fd:Field} {n:Nat} (hu:P.underlying s=some (.struct fs)) (hf:fs[f]?=some fd) (hn:ZF P fd.type=some n) (h0:n≠0)
  (b off:Nat) (w:World):(Instr.fieldAt s (.pointer (some ⟨b,off,none⟩)) f).run P w= .ok (.pointer (some ⟨b,off+fd.offset,none⟩)) w:=by
 unfold ZF at hn
 cases hi:P.info? fd.type with
 |none=>rw [hi] at hn;simp at hn
 |some i=>
  rw [hi] at hn;simp at hn;subst hn;simp [Instr.fieldAt,run_underlying hu,hf,Instr.sureAddr,fieldPlace,sizeOf,typeInfo,hi,h0,y3]
theorem zh8 {s:TypeId} {x:Operand} {f:Nat} {fs:Array Field} {fd:Field} {n:Nat} {x':Ar} {v r:V} {p:List Bool} (hu:P.underlying s=some (.struct fs)) (hf:fs[f]?=some fd)
  (hn:ZF P fd.type=some n) (h0:n≠0) (ho:o.op= .fieldAddr s x f) (hx:opA x=some x') (h1:rd gc st x'=(v,p)) (hp:∀q∈p,q)
  (hv:(∃k m,v= .ptr k m/\r= .ptr k (m+fd.offset))∨(∃c,v= .t (.ptr c)/\r= .t (.ptr (c.drop fd.offset)))):zD P o gc st r:=by
 intro C Λ ac _ hg h;have hx1:=zm h hx h1 hp hg
 rcases hv with ⟨k,m,rfl,rfl⟩|⟨c,rfl,rfl⟩
 ·generalize hv:ac.eval x=v at hx1
  cases hx1 with
  |ptr hk h'=>exact ⟨_,by simp [execOp,ho,hv,WS hu hf hn h0],.ptr hk h'⟩
 ·have hr:=hx1.ZL;obtain ⟨b,o',hv⟩:=hr.z3d;rw [hv] at hr
  exact ⟨_,by simp [execOp,ho,hv,WS hu hf hn h0],.t hr.z7E⟩
theorem zfo {s:TypeId} {x:Operand} {f:Nat} {fs:Array Field} {fd:Field} {n:Nat} {x':Ar} {k i m:Nat} {p:List Bool} (hu:P.underlying s=some (.struct fs)) (hf:fs[f]?=some fd)
  (hn:ZF P fd.type=some n) (h0:n≠0) (ho:o.op= .fieldAddr s x f) (hx:opA x=some x') (h1:rd gc st x'=(.fpt k i m,p)) (hp:∀q∈p,q):zD P o gc st (.fpt k i (m+fd.offset)):=by
 intro C Λ ac _ hg h;have hx1:=zm h hx h1 hp hg;generalize hv:ac.eval x=v at hx1
 cases hx1 with
 |fpt hk h'=>exact ⟨_,by simp [execOp,ho,hv,WS hu hf hn h0],.fpt hk h'⟩
theorem YM {t:TypeId} {d:TypeDesc} (hu:P.underlying t=some d) (ha:Z5 P t=false) {b off:Nat} {w:World} {v:Value} (hc:w.cell? ⟨b,off,none⟩=some v):
  (Instr.loadAt t (.pointer (some ⟨b,off,none⟩))).run P w= .ok v w:=by
 have hagg:(isAgg t).run P w= .ok false w:=by
  unfold isAgg;rw [Sem.run_bind,run_underlying hu w];unfold Z5 at ha;rw [hu] at ha
  cases d<;>simp_all
 simp [Instr.loadAt,Instr.sureAddr,loadVar,hagg,hc]
theorem YV {t:TypeId} {n:Nat} (hn:ZF P t=some n) (ha:Z5 P t=true) {b off:Nat} {w:World} {vs:List Value} (hl:vs.length=n)
  (hc:∀(j:Nat) (v:Value),vs[j]?=some v->w.cell? ⟨b,off+j,none⟩=some v):
  (Instr.loadAt t (.pointer (some ⟨b,off,none⟩))).run P w= .ok (.agg vs.toArray) w:=by
 have hagg:(isAgg t).run P w= .ok true w:=by
  unfold isAgg;unfold Z5 at ha
  cases hu:P.underlying t with
  |none=>rw [hu] at ha;simp at ha
  |some d=>
   rw [hu] at ha;rw [Sem.run_bind,run_underlying hu w]
   cases d<;>simp_all
 unfold ZF at hn
 cases hi:P.info? t with
 |none=>rw [hi] at hn;simp at hn
 |some i=>
  rw [hi] at hn;simp at hn;subst hn
  have hlc:(loadCells ⟨b,off,none⟩ i.size).run P w= .ok vs.toArray w:=by
   rw [←hl]
   exact run_loadCells_list (P:=P) w ⟨b,off,none⟩ vs (fun j v hv=>by rw [y3];exact hc j v hv)
  simp [Instr.loadAt,Instr.sureAddr,loadVar,hagg,sizeOf,typeInfo,hi,hlc]
theorem z2u {Q:Nat->Value->Prop}:∀(n:Nat),(∀j,j<n->∃v,Q j v)->∃vs:List Value,vs.length=n/\∀(j:Nat) (v:Value),vs[j]?=some v->Q j v
 |0,_=>⟨[],rfl,by simp⟩
 |n+1,h=>by
  obtain ⟨vs,hl,hv⟩:=z2u n (fun j hj=>h j (by omega));obtain ⟨v,hq⟩:=h n (by omega)
  refine ⟨vs++[v],by simp [hl],fun j u hu=>?_⟩
  by_cases hj:j<vs.length
  ·rw [w0a hj] at hu;exact hv j u hu
  ·rw [w0b (by omega)] at hu;by_cases e:j=n
   ·subst e;rw [hl] at hu;simp at hu;subst hu;exact hq
   ·rw [w19 (by simp;omega)] at hu;cases hu
theorem zej {t:TypeId} {d:TypeDesc} {x:Operand} {x':Ar} {cs:List T} {c:T} {p:List Bool} (hu:P.underlying t=some d) (ha:Z5 P t=false)
  (ho:o.op= .load t x) (hx:opA x=some x') (h1:rd gc st x'=(.t (.ptr cs),p)) (hp:∀q∈p,q) (hc:cs[0]?=some c):zD P o gc st (.t c):=by
 intro C Λ ac _ hg h;have hr:=(zm h hx h1 hp hg).ZL;obtain ⟨b,o',hv⟩:=hr.z3d;rw [hv] at hr;obtain ⟨u,hu1,hu2⟩:=hr.zcl 0 c hc
 exact ⟨u,by simp [execOp,ho,hv,YM hu ha (by simpa using hu1)],.t hu2⟩
theorem zdR {t:TypeId} {n:Nat} {x:Operand} {x':Ar} {cs:List T} {p:List Bool} (hn:ZF P t=some n) (ha:Z5 P t=true)
  (ho:o.op= .load t x) (hx:opA x=some x') (h1:rd gc st x'=(.t (.ptr cs),p)) (hp:∀q∈p,q) (hl:n<=cs.length):zD P o gc st (.agg ((cs.take n).map V.t)):=by
 intro C Λ ac _ hg h;have hr:=(zm h hx h1 hp hg).ZL;obtain ⟨b,off,hv⟩:=hr.z3d;rw [hv] at hr
 obtain ⟨vs,hvl,hvs⟩:=z2u (Q:=fun j v=>Λ.w.cell? ⟨b,off+j,none⟩=some v/\∀c,cs[j]?=some c->zI Λ.lab Λ.w v c) n (fun j hj=>by
  obtain ⟨u,hu1,hu2⟩:=hr.zcl j cs[j] (by simp [w08 hj hl])
  exact ⟨u,hu1,fun c hc=>by simp [w08 hj hl] at hc;subst hc;exact hu2⟩)
 refine ⟨.agg vs.toArray,by simp [execOp,ho,hv,YV hn ha hvl (fun j v hj=>(hvs j v hj).1)],.agg (by simp [hvl];omega) fun j u c h2 h3=>?_⟩
 rw [w0c,w06] at h3;obtain ⟨c',h4,rfl⟩:=h3;rw [w0p] at h4;split at h4
 ·exact .t ((hvs j u (by simpa using h2)).2 c' h4)
 ·cases h4
theorem zT.Qw {Λ:L} {s:S} (h:zT Λ s) {k:Nat} {cs:List V} (hk:zj s.sto k=some (.cells cs)) {b:Nat} (hb:Λ.lab b= .obj k):
  ∃(arr:Array Value) (e:TypeId),Λ.w.heap[b]?=some (.cells arr e (0,0))/\arr.size=cs.length/\∀(j:Nat) (v:Value) (c:V),arr[j]?=some v->cs[j]?=some c->zr Λ v c:=by
 obtain ⟨b',arr,e,h1,h2,h3,h4⟩:=(h.sto k _ hk).2;obtain rfl:=h.inj b b' k hb h1;exact ⟨arr,e,h2,h3,h4⟩
theorem zdz {t:TypeId} {d:TypeDesc} {x:Operand} {x':Ar} {k off:Nat} {cs:List V} {c:V} {p:List Bool} (hu:P.underlying t=some d) (ha:Z5 P t=false)
  (ho:o.op= .load t x) (hx:opA x=some x') (h1:rd gc st x'=(.ptr k off,p)) (hp:∀q∈p,q) (hk:zj st.s.sto k=some (.cells cs)) (hc:cs[off]?=some c):zD P o gc st c:=by
 intro C Λ ac _ hg h;have hx1:=zm h hx h1 hp hg;generalize hv:ac.eval x=v at hx1
 cases hx1 with
 |@ptr b _ _ _ h'=>
  obtain ⟨arr,e,h2,h3,h4⟩:=h.s.Qw hk h';have hlt:off<cs.length:=(w02.1 hc).1
  have hcell:Λ.w.cell? ⟨b,off,none⟩=some (arr[off]'(by omega)):=by rw [cell_of_row Λ.w b off arr e _ h2];simp [h3,hlt]
  exact ⟨arr[off]'(by omega),by simp [execOp,ho,hv,YM hu ha hcell],h4 off _ c (by simp) hc⟩
theorem zr.zfU {Λ:L} {vs:List Value} {cs:List V} (h:∀(j:Nat) (v:Value) (c:V),vs[j]?=some v->cs[j]?=some c->zr Λ v c) (hl:vs.length=cs.length) (off n:Nat):
  zr Λ (.agg ((vs.drop off).take n).toArray) (.agg ((cs.drop off).take n)):=by
 refine .agg (by simp [hl]) fun j u c h5 h6=>?_
 have h5':((vs.drop off).take n)[j]?=some u:=by simpa using h5
 rw [w0p] at h5' h6;split at h6
 ·rename_i hj;rw [w0e hj] at h5';rw [w0z] at h5' h6;exact h _ u c h5' h6
 ·cases h6
theorem zaW {t:TypeId} {n:Nat} {x:Operand} {x':Ar} {k off:Nat} {cs:List V} {p:List Bool} (hn:ZF P t=some n) (ha:Z5 P t=true)
  (ho:o.op= .load t x) (hx:opA x=some x') (h1:rd gc st x'=(.ptr k off,p)) (hp:∀q∈p,q) (hk:zj st.s.sto k=some (.cells cs)) (hl:off+n<=cs.length):
  zD P o gc st (.agg ((cs.drop off).take n)):=by
 intro C Λ ac _ hg h;have hx1:=zm h hx h1 hp hg;generalize hv:ac.eval x=v at hx1
 cases hx1 with
 |@ptr b _ _ _ h'=>
  obtain ⟨arr,e,h2,h3,h4⟩:=h.s.Qw hk h'
  have hvl:((arr.toList.drop off).take n).length=n:=by simp;omega
  have hcell:∀(j:Nat) (v:Value),((arr.toList.drop off).take n)[j]?=some v->Λ.w.cell? ⟨b,off+j,none⟩=some v:=by
   intro j v hj;rw [w0p] at hj;split at hj
   ·rw [w0z] at hj;rw [cell_of_row Λ.w b _ arr e _ h2];simpa using hj
   ·cases hj
  exact ⟨.agg ((arr.toList.drop off).take n).toArray,by simp [execOp,ho,hv,YV hn ha hvl hcell],zr.zfU (fun j v c e1 e2=>h4 j v c (by simpa using e1) e2) (by simpa using h3) off n⟩
theorem zT.z8G {Λ:L} {s:S} (h:zT Λ s) {k i:Nat} {os:List (List V)} {cs:List V} (hk:zj s.sto k=some (.yL os)) (hi:os[i]?=some cs) {b:Nat} (hb:Λ.lab b= .fob k i):
  ∃(arr:Array Value) (e:TypeId),Λ.w.heap[b]?=some (.cells arr e (0,0))/\arr.size=cs.length/\∀(j:Nat) (v:Value) (c:V),arr[j]?=some v->cs[j]?=some c->zr Λ v c:=by
 obtain ⟨_,h0⟩:=(h.sto k _ hk).2;obtain ⟨b',arr,e,h1,h2,h3,h4⟩:=h0 i cs hi;obtain rfl:=h.YX b b' k i hb h1;exact ⟨arr,e,h2,h3,h4⟩
theorem qu.uniq {Λ:L} {s:S} (h:zT Λ s) {k b b':Nat} (h1:qu Λ.lab k b) (h2:qu Λ.lab k b'):b=b':=by
 obtain ⟨i,a1,a2⟩:=h1;obtain ⟨j,b1,b2⟩:=h2;have e1:=a2 b' j b1;have e2:=b2 b i a1
 have:i=j:=by omega
 subst this;exact h.YX b b' k i a1 b1
theorem zT.z0U {Λ:L} {s:S} (h:zT Λ s) {k w:Nat} {cs:List V} (hk:zj s.sto k=some (.gro w cs)) {b:Nat} (hb:qu Λ.lab k b):
  ∃(arr:Array Value) (e:TypeId),Λ.w.heap[b]?=some (.cells arr e (0,0))/\cs.length<=arr.size/\∀(j:Nat) (v:Value) (c:V),arr[j]?=some v->cs[j]?=some c->zr Λ v c:=by
 obtain ⟨_,⟨_,h2⟩|⟨b',arr,e,h1,h2,h3,h4⟩⟩:=(h.sto k _ hk).2
 ·obtain ⟨i,a1,_⟩:=hb;exact absurd a1 (h2 b i)
 ·obtain rfl:=qu.uniq h hb h1;exact ⟨arr,e,h2,h3,h4⟩
theorem zaP {x:Operand} {x':Ar} {k ver n w:Nat} {cs:List V} {p:List Bool} (ho:o.op= .nilCheck x) (hx:opA x=some x') (h1:rd gc st x'=(.gpt k ver n,p)) (hp:∀q∈p,q) (hk:zj st.s.sto k=some (.gro w cs)) (hw:ver=w):zD P o gc st (.gpt k ver n):=by
 intro C Λ ac _ hg h;have hx1:=zm h hx h1 hp hg;generalize hv:ac.eval x=v at hx1
 cases hx1 with
 |gpt g0 g1 g2 g3=>
  obtain ⟨b,rfl,g4⟩:=g3 (hw.trans (h.s.sto k _ hk).2.1.symm)
  exact ⟨_,by simp [execOp,ho,hv],.gpt ⟨_,rfl⟩ g1 g2 (fun _=>⟨b,rfl,g4⟩)⟩
theorem zgg {s:TypeId} {x:Operand} {f:Nat} {fs:Array Field} {fd:Field} {n:Nat} {x':Ar} {k ver m w:Nat} {cs:List V} {p:List Bool} (hu:P.underlying s=some (.struct fs)) (hf:fs[f]?=some fd)
  (hn:ZF P fd.type=some n) (h0:n≠0) (ho:o.op= .fieldAddr s x f) (hx:opA x=some x') (h1:rd gc st x'=(.gpt k ver m,p)) (hp:∀q∈p,q) (hk:zj st.s.sto k=some (.gro w cs)) (hw:ver=w):zD P o gc st (.gpt k ver (m+fd.offset)):=by
 intro C Λ ac _ hg h;have hx1:=zm h hx h1 hp hg;generalize hv:ac.eval x=v at hx1
 cases hx1 with
 |gpt g0 g1 g2 g3=>
  obtain ⟨b,rfl,g4⟩:=g3 (hw.trans (h.s.sto k _ hk).2.1.symm)
  exact ⟨_,by simp [execOp,ho,hv,WS hu hf hn h0],.gpt ⟨_,rfl⟩ g1 g2 (fun _=>⟨b,rfl,g4⟩)⟩
theorem zcG {t:TypeId} {d:TypeDesc} {b off:Nat} {Λ:L} {cs:List V} {c:V} {arr:Array Value} {e:TypeId} (hu:P.underlying t=some d) (ha:Z5 P t=false) (h2:Λ.w.heap[b]?=some (.cells arr e (0,0))) (h3:cs.length<=arr.size)
  (h4:∀(j:Nat) (v:Value) (c:V),arr[j]?=some v->cs[j]?=some c->zr Λ v c) (hc:cs[off]?=some c):∃v,(Instr.loadAt t (.pointer (some ⟨b,off,none⟩))).run P Λ.w= .ok v Λ.w/\zr Λ v c:=by
 have hlt:off<cs.length:=(w02.1 hc).1
 have hcell:Λ.w.cell? ⟨b,off,none⟩=some (arr[off]'(by omega)):=by rw [cell_of_row Λ.w b off arr e _ h2];first |(simp;done)|(simp;omega)
 exact ⟨arr[off]'(by omega),YM hu ha hcell,h4 off _ c (by simp) hc⟩
theorem zdo {t:TypeId} {n b off:Nat} {Λ:L} {cs:List V} {arr:Array Value} {e:TypeId} (hn:ZF P t=some n) (ha:Z5 P t=true) (h2:Λ.w.heap[b]?=some (.cells arr e (0,0))) (h3:cs.length<=arr.size)
  (h4:∀(j:Nat) (v:Value) (c:V),arr[j]?=some v->cs[j]?=some c->zr Λ v c) (hl:off+n<=cs.length):∃v,(Instr.loadAt t (.pointer (some ⟨b,off,none⟩))).run P Λ.w= .ok v Λ.w/\zr Λ v (.agg ((cs.drop off).take n)):=by
 have hvl:((arr.toList.drop off).take n).length=n:=by simp;omega
 have hcell:∀(j:Nat) (v:Value),((arr.toList.drop off).take n)[j]?=some v->Λ.w.cell? ⟨b,off+j,none⟩=some v:=by
  intro j v hj;rw [w0p] at hj;split at hj
  ·rw [w0z] at hj;rw [cell_of_row Λ.w b _ arr e _ h2];simpa using hj
  ·cases hj
 refine ⟨.agg ((arr.toList.drop off).take n).toArray,YV hn ha hvl hcell,.agg (by simp;omega) fun j u c h5 h6=>?_⟩
 have h5':((arr.toList.drop off).take n)[j]?=some u:=by simpa using h5
 rw [w0p] at h5' h6;split at h6
 ·rename_i hj;rw [w0e hj] at h5';rw [w0z] at h5' h6;exact h4 _ u c (by simpa using h5') h6
 ·cases h6
theorem zfK {t:TypeId} {d:TypeDesc} {x:Operand} {x':Ar} {k i off:Nat} {os:List (List V)} {cs:List V} {c:V} {p:List Bool} (hu:P.underlying t=some d) (ha:Z5 P t=false)
  (ho:o.op= .load t x) (hx:opA x=some x') (h1:rd gc st x'=(.fpt k i off,p)) (hp:∀q∈p,q) (hk:zj st.s.sto k=some (.yL os)) (hi:os[i]?=some cs) (hc:cs[off]?=some c):zD P o gc st c:=by
 intro C Λ ac _ hg h;have hx1:=zm h hx h1 hp hg;generalize hv:ac.eval x=v at hx1
 cases hx1 with
 |@fpt b _ _ _ _ h'=>
  obtain ⟨arr,e,h2,h3,h4⟩:=h.s.z8G hk hi h';obtain ⟨u,e1,e2⟩:=zcG (P:=P) hu ha h2 (by omega) h4 hc
  exact ⟨u,by simp [execOp,ho,hv,e1],e2⟩
theorem zeS {t:TypeId} {n:Nat} {x:Operand} {x':Ar} {k i off:Nat} {os:List (List V)} {cs:List V} {p:List Bool} (hn:ZF P t=some n) (ha:Z5 P t=true)
  (ho:o.op= .load t x) (hx:opA x=some x') (h1:rd gc st x'=(.fpt k i off,p)) (hp:∀q∈p,q) (hk:zj st.s.sto k=some (.yL os)) (hi:os[i]?=some cs) (hl:off+n<=cs.length):
  zD P o gc st (.agg ((cs.drop off).take n)):=by
 intro C Λ ac _ hg h;have hx1:=zm h hx h1 hp hg;generalize hv:ac.eval x=v at hx1
 cases hx1 with
 |@fpt b _ _ _ _ h'=>
  obtain ⟨arr,e,h2,h3,h4⟩:=h.s.z8G hk hi h';obtain ⟨u,e1,e2⟩:=zdo (P:=P) hn ha h2 (by omega) h4 hl
  exact ⟨u,by simp [execOp,ho,hv,e1],e2⟩
theorem zgj {t:TypeId} {d:TypeDesc} {x:Operand} {x':Ar} {k ver off w:Nat} {cs:List V} {c:V} {p:List Bool} (hu:P.underlying t=some d) (ha:Z5 P t=false)
  (ho:o.op= .load t x) (hx:opA x=some x') (h1:rd gc st x'=(.gpt k ver off,p)) (hp:∀q∈p,q) (hk:zj st.s.sto k=some (.gro w cs)) (hw:ver=w) (hc:cs[off]?=some c):zD P o gc st c:=by
 intro C Λ ac _ hg h;have hx1:=zm h hx h1 hp hg;generalize hv:ac.eval x=v at hx1
 cases hx1 with
 |gpt _ _ _ g3=>
  obtain ⟨b,rfl,g4⟩:=g3 (hw.trans (h.s.sto k _ hk).2.1.symm);obtain ⟨arr,e,h2,h3,h4⟩:=h.s.z0U hk g4;obtain ⟨u,e1,e2⟩:=zcG (P:=P) hu ha h2 h3 h4 hc
  exact ⟨u,by simp [execOp,ho,hv,e1],e2⟩
theorem zer {t:TypeId} {n:Nat} {x:Operand} {x':Ar} {k ver off w:Nat} {cs:List V} {p:List Bool} (hn:ZF P t=some n) (ha:Z5 P t=true)
  (ho:o.op= .load t x) (hx:opA x=some x') (h1:rd gc st x'=(.gpt k ver off,p)) (hp:∀q∈p,q) (hk:zj st.s.sto k=some (.gro w cs)) (hw:ver=w) (hl:off+n<=cs.length):
  zD P o gc st (.agg ((cs.drop off).take n)):=by
 intro C Λ ac _ hg h;have hx1:=zm h hx h1 hp hg;generalize hv:ac.eval x=v at hx1
 cases hx1 with
 |gpt _ _ _ g3=>
  obtain ⟨b,rfl,g4⟩:=g3 (hw.trans (h.s.sto k _ hk).2.1.symm);obtain ⟨arr,e,h2,h3,h4⟩:=h.s.z0U hk g4;obtain ⟨u,e1,e2⟩:=zdo (P:=P) hn ha h2 h3 h4 hl
  exact ⟨u,by simp [execOp,ho,hv,e1],e2⟩
end
section
variable {P:Program} {o:Oper} {gc:Bool} {st:St}
theorem yI {t:TypeId} {n:Nat} (h:ZF P t=some n) (w:World):(sizeOf t).run P w= .ok n w:=by
 unfold ZF at h
 cases hi:P.info? t with
 |none=>rw [hi] at h;simp at h
 |some i=>rw [hi] at h;simp at h;subst h;simp [sizeOf,typeInfo,hi]
theorem run_indexAt_slice {t e:TypeId} {sz:Nat} (hu:P.underlying t=some (.slice e)) (hs:ZF P e=some sz) {b off len cap:Nat} {k:IntKind} {n:Int} (h0:0<=n) (h1:n<len) (w:World):
  (Instr.indexAt t (.slice (some ⟨b,off,none⟩) len cap) (.int k n)).run P w= .ok (.pointer (some ⟨b,off+n.toNat*sz,none⟩)) w:=by
 simp [Instr.indexAt,asIntOf,run_underlying hu,yI hs,h0,h1,y3]
theorem run_indexAt_array {t e:TypeId} {m sz:Nat} (hu:P.underlying t=some (.array m e)) (hs:ZF P e=some sz) {b off:Nat} {k:IntKind} {n:Int} (h0:0<=n) (h1:n<m) (w:World):
  (Instr.indexAt t (.pointer (some ⟨b,off,none⟩)) (.int k n)).run P w= .ok (.pointer (some ⟨b,off+n.toNat*sz,none⟩)) w:=by
 simp [Instr.indexAt,asIntOf,run_underlying hu,yI hs,Instr.sureAddr,h0,h1,y3]
theorem lt_of_getElem? {xs:List (List T)} {n:Int} {c:List T} (h0:0<=n) (h:xs[n.toNat]?=some c):n<xs.length:=by
 have:=(w02.1 h).1;omega
theorem zhu {t e:TypeId} {sz:Nat} {x i:Operand} {x' i':Ar} {v:V} {k:IntKind} {n:Int} {xs:List (List T)} {c:List T} {p1 p2:List Bool}
  (hu:P.underlying t=some (.slice e)) (hs:ZF P e=some sz) (ho:o.op= .indexAddr t x i) (hx:opA x=some x') (hi:opA i=some i')
  (h1:rd gc st x'=(v,p1)) (h2:rd gc st i'=(.t (.int k n),p2)) (hv:v.zw=some (.lst xs)) (hc:xs[n.toNat]?=some c) (hsz:c.length=sz/\sz≠0)
  (hp:∀q∈p1++(p2++[decide (0<=n)]),q):zD P o gc st (.t (.ptr c)):=by
 intro C Λ ac _ hg h;have hx1:=zm h hx h1 (fun q hq=>hp q (by simp [hq])) hg;have hi1:=zm h hi h2 (fun q hq=>hp q (by simp [hq])) hg;have h0:0<=n:=zDT (hp _ (by simp));have e2:=hi1.ZL.yc;have hr:=hx1.zw hv;generalize hv':ac.eval x=u at hr;have hlt:=lt_of_getElem? h0 hc
 cases hr with
 |lst a cap sz' _ b off vf _ hsz' ha hr' hc' hrep=>
  obtain ⟨hcl,hz⟩:=hsz;have e3:c.length=sz':=hsz' _ _ hc
  have esz:sz'=sz:=by omega
  subst esz
  have hlc:0<c.length:=by omega
  have h0c:c[0]?=some c[0]:=by simp [hlc]
  have ea:=ha n.toNat 0 c _ hc h0c;subst ea
  refine ⟨_,by simp only [execOp,ho,hv',e2];simp [run_indexAt_slice hu hs h0 hlt],.t (.ptr c b _ (vf n.toNat) (fun j y hj=>hr' n.toNat j c y hc hj) (fun j y hj=>hc' n.toNat j c y hc hj) (fun j y hj=>hrep n.toNat j c y hc hj))⟩
theorem zdx {t e:TypeId} {sz:Nat} {x i:Operand} {x' i':Ar} {k:IntKind} {n:Int} {q off len:Nat} {p1 p2:List Bool}
  (hu:P.underlying t=some (.slice e)) (hs:ZF P e=some sz) (ho:o.op= .indexAddr t x i) (hx:opA x=some x') (hi:opA i=some i')
  (h1:rd gc st x'=(.slc q off len sz,p1)) (h2:rd gc st i'=(.t (.int k n),p2)) (hp:∀q∈p1++(p2++[decide (0<=n),decide (n<(len:Int))]),q):zD P o gc st (.ptr q (off+n.toNat*sz)):=by
 intro C Λ ac _ hg h;have hx1:=zm h hx h1 (fun q hq=>hp q (by simp [hq])) hg;have hi1:=zm h hi h2 (fun q hq=>hp q (by simp [hq])) hg;have h0:0<=n:=zDT (hp _ (by simp));have hlt:n<len:=zDT (hp _ (by simp));have e2:=hi1.ZL.yc;generalize hv':ac.eval x=u at hx1
 cases hx1 with
 |slc hk _ h'=>exact ⟨_,by simp only [execOp,ho,hv',e2];simp [run_indexAt_slice hu hs h0 hlt],.ptr hk h'⟩
theorem zfE {t e:TypeId} {sz:Nat} {x i:Operand} {x' i':Ar} {k:IntKind} {n:Int} {q ver off len w:Nat} {cs:List V} {p1 p2:List Bool}
  (hu:P.underlying t=some (.slice e)) (hs:ZF P e=some sz) (ho:o.op= .indexAddr t x i) (hx:opA x=some x') (hi:opA i=some i')
  (h1:rd gc st x'=(.gsl q ver off len sz,p1)) (h2:rd gc st i'=(.t (.int k n),p2)) (hk:zj st.s.sto q=some (.gro w cs)) (hp:∀q∈p1++(p2++[decide (0<=n),decide (n<(len:Int)),decide (0<w),decide (ver=w)]),q):zD P o gc st (.gpt q ver (off+n.toNat*sz)):=by
 intro C Λ ac _ hg h;have hx1:=zm h hx h1 (fun q hq=>hp q (by simp [hq])) hg;have hi1:=zm h hi h2 (fun q hq=>hp q (by simp [hq])) hg;have h0:0<=n:=zDT (hp _ (by simp));have hlt:n<len:=zDT (hp _ (by simp));have hw:ver=w:=zDT (hp _ (by simp));have e2:=hi1.ZL.yc;generalize hv':ac.eval x=u at hx1
 cases hx1 with
 |gsl _ hk1 hn1 h'=>
  rcases h' (hw.trans (h.s.sto q _ hk).2.1.symm) with ⟨_,hl⟩|⟨b,cap,N,rfl,hc,hb,hN,he⟩
  ·omega
  ·exact ⟨_,by simp only [execOp,ho,hv',e2];simp [run_indexAt_slice hu hs h0 hlt],.gpt ⟨_,rfl⟩ hk1 ⟨Nat.pos_of_ne_zero (fun h0=>by have:=(hn1.1 h0).2;omega),hn1.2⟩ (fun _=>⟨b,rfl,hb⟩)⟩
theorem zdt {t e:TypeId} {m sz:Nat} {x i:Operand} {x' i':Ar} {k:IntKind} {n:Int} {v r:V} {p1 p2:List Bool}
  (hu:P.underlying t=some (.array m e)) (hs:ZF P e=some sz) (ho:o.op= .indexAddr t x i) (hx:opA x=some x') (hi:opA i=some i')
  (h1:rd gc st x'=(v,p1)) (h2:rd gc st i'=(.t (.int k n),p2)) (hp:∀q∈p1++(p2++[decide (0<=n),decide (n<(m:Int))]),q)
  (hv:(∃a b,v= .ptr a b/\r= .ptr a (b+n.toNat*sz))∨∃c,v= .t (.ptr c)/\r= .t (.ptr (c.drop (n.toNat*sz)))):zD P o gc st r:=by
 intro C Λ ac _ hg h;have hx1:=zm h hx h1 (fun q hq=>hp q (by simp [hq])) hg;have hi1:=zm h hi h2 (fun q hq=>hp q (by simp [hq])) hg;have h0:0<=n:=zDT (hp _ (by simp));have hlt:n<m:=zDT (hp _ (by simp));have e2:=hi1.ZL.yc
 rcases hv with ⟨a,b,rfl,rfl⟩|⟨c,rfl,rfl⟩
 ·generalize hv':ac.eval x=u at hx1
  cases hx1 with
  |ptr hk h'=>exact ⟨_,by simp only [execOp,ho,hv',e2];simp [run_indexAt_array hu hs h0 hlt],.ptr hk h'⟩
 ·have hr:=hx1.ZL;obtain ⟨b,o',hv'⟩:=hr.z3d;rw [hv'] at hr
  exact ⟨_,by simp only [execOp,ho,hv',e2];simp [run_indexAt_array hu hs h0 hlt],.t hr.z7E⟩
theorem zgY {t:TypeId} {x i:Operand} {x' i':Ar} {k:IntKind} {n:Int} {s:List UInt8} {b:UInt8} {p1 p2:List Bool}
  (hu:P.underlying t=some .string) (ho:o.op= .index t x i) (hx:opA x=some x') (hi:opA i=some i')
  (h1:rd gc st x'=(.t (.str s),p1)) (h2:rd gc st i'=(.t (.int k n),p2)) (hb:s[n.toNat]?=some b) (hp:∀q∈p1++(p2++[decide (0<=n)]),q):zD P o gc st (.t (.int .u8 b.toNat)):=by
 intro C Λ ac _ hg h;have hx1:=zm h hx h1 (fun q hq=>hp q (by simp [hq])) hg;have hi1:=zm h hi h2 (fun q hq=>hp q (by simp [hq])) hg;have h0:0<=n:=zDT (hp _ (by simp));have e1:=hx1.ZL.Wc;have e2:=hi1.ZL.yc
 have e3:(⟨⟨s⟩⟩:ByteArray)[n.toNat]?=some b:=by
  have hlt:=(w02.1 hb).1;rw [getElem?_pos (⟨⟨s⟩⟩:ByteArray) n.toNat (by exact hlt)];obtain ⟨_,rfl⟩:=w02.1 hb;rfl
 refine ⟨.int .u8 b.toNat,?_,.t (.int _ _)⟩;simp only [execOp,ho,e1,e2];simp [Instr.index,asIntOf,run_underlying hu,h0,e3]
theorem z3K {t:TypeId} {d:TypeDesc} (hu:P.underlying t=some d) (ha:Z5 P t=false) {vs:Array Value} {off:Nat} {v:Value} (hv:vs[off]?=some v) (w:World):(part t vs off).run P w= .ok v w:=by
 have hagg:(isAgg t).run P w= .ok false w:=by
  unfold isAgg;rw [Sem.run_bind,run_underlying hu w];unfold Z5 at ha;rw [hu] at ha
  cases d<;>simp_all
 simp [part,hagg,hv]
theorem z8o {t:TypeId} {n:Nat} (hn:ZF P t=some n) (ha:Z5 P t=true) {vs:Array Value} {off:Nat} (w:World):(part t vs off).run P w= .ok (.agg (vs.extract off (off+n))) w:=by
 have hagg:(isAgg t).run P w= .ok true w:=by
  unfold isAgg;unfold Z5 at ha
  cases hu:P.underlying t with
  |none=>rw [hu] at ha;simp at ha
  |some d=>
   rw [hu] at ha;rw [Sem.run_bind,run_underlying hu w]
   cases d<;>simp_all
 simp [part,hagg,yI hn]
theorem zr.sub {Λ:L} {vs:Array Value} {cs:List V} (hs:vs.size=cs.length) (h:∀(j:Nat) (v:Value) (c:V),vs[j]?=some v->cs[j]?=some c->zr Λ v c) {off n:Nat} (_:off+n<=cs.length):
  zr Λ (.agg (vs.extract off (off+n))) (.agg ((cs.drop off).take n)):=by
 have:=zr.zfU (Λ:=Λ) (vs:=vs.toList) (cs:=cs) (fun j v c e1 e2=>h j v c (by simpa using e1) e2) (by simpa using hs) off n
 have e:((vs.toList.drop off).take n).toArray=vs.extract off (off+n):=by
  apply w27;simp [Nat.add_sub_cancel_left]
 rwa [e] at this
theorem zgP {t:TypeId} {fs:Array Field} {f:Nat} {fd:Field} {d:TypeDesc} {x:Operand} {x':Ar} {cs:List V} {c:V} {p:List Bool} (hu:P.underlying t=some (.struct fs)) (hf:fs[f]?=some fd)
  (hd:P.underlying fd.type=some d) (ha:Z5 P fd.type=false)
  (ho:o.op= .field t x f) (hx:opA x=some x') (h1:rd gc st x'=(.agg cs,p)) (hp:∀q∈p,q) (hc:cs[fd.offset]?=some c):zD P o gc st c:=by
 intro C Λ ac _ hg h;have hx1:=zm h hx h1 hp hg;generalize hv':ac.eval x=u at hx1
 cases hx1 with
 |@agg vs _ hs h'=>
  have hlt:=(w02.1 hc).1
  have hg':vs[fd.offset]?=some (vs[fd.offset]'(by omega)):=by simp
  refine ⟨_,?_,(h' _ _ c hg' hc)⟩;simp only [execOp,ho,hv'];simp [Instr.field,run_underlying hu,hf,asAgg,z3K hd ha hg']
theorem zgh {t:TypeId} {fs:Array Field} {f:Nat} {fd:Field} {n:Nat} {x:Operand} {x':Ar} {cs:List V} {p:List Bool} (hu:P.underlying t=some (.struct fs)) (hf:fs[f]?=some fd)
  (hn:ZF P fd.type=some n) (ha:Z5 P fd.type=true)
  (ho:o.op= .field t x f) (hx:opA x=some x') (h1:rd gc st x'=(.agg cs,p)) (hp:∀q∈p,q) (hl:fd.offset+n<=cs.length):zD P o gc st (.agg (((cs.drop fd.offset).take n))):=by
 intro C Λ ac _ hg h;have hx1:=zm h hx h1 hp hg;generalize hv':ac.eval x=u at hx1
 cases hx1 with
 |@agg vs _ hs h'=>
  refine ⟨_,?_,zr.sub hs h' hl⟩;simp only [execOp,ho,hv'];simp [Instr.field,run_underlying hu,hf,asAgg,z8o hn ha]
theorem zgI {t e:TypeId} {m sz:Nat} {d:TypeDesc} {x i:Operand} {x' i':Ar} {k:IntKind} {n:Int} {cs:List V} {c:V} {p1 p2:List Bool}
  (hu:P.underlying t=some (.array m e)) (hs:ZF P e=some sz) (hd:P.underlying e=some d) (ha:Z5 P e=false) (ho:o.op= .index t x i) (hx:opA x=some x') (hi:opA i=some i')
  (h1:rd gc st x'=(.agg cs,p1)) (h2:rd gc st i'=(.t (.int k n),p2)) (hc:cs[n.toNat*sz]?=some c) (hp:∀q∈p1++(p2++[decide (0<=n),decide (n<(m:Int))]),q):zD P o gc st c:=by
 intro C Λ ac _ hg h;have hx1:=zm h hx h1 (fun q hq=>hp q (by simp [hq])) hg;have hi1:=zm h hi h2 (fun q hq=>hp q (by simp [hq])) hg;have h0:0<=n:=zDT (hp _ (by simp));have hlt:n<m:=zDT (hp _ (by simp));have e2:=hi1.ZL.yc;generalize hv':ac.eval x=u at hx1
 cases hx1 with
 |@agg vs _ hs' h'=>
  have hlt':=(w02.1 hc).1
  have hg':vs[n.toNat*sz]?=some (vs[n.toNat*sz]'(by omega)):=by simp
  refine ⟨_,?_,(h' _ _ c hg' hc)⟩;simp only [execOp,ho,hv',e2];simp [Instr.index,asIntOf,run_underlying hu,h0,hlt,yI hs,z3K hd ha hg']
theorem zgr {t e:TypeId} {m sz:Nat} {x i:Operand} {x' i':Ar} {k:IntKind} {n:Int} {cs:List V} {p1 p2:List Bool}
  (hu:P.underlying t=some (.array m e)) (hs:ZF P e=some sz) (ha:Z5 P e=true) (ho:o.op= .index t x i) (hx:opA x=some x') (hi:opA i=some i')
  (h1:rd gc st x'=(.agg cs,p1)) (h2:rd gc st i'=(.t (.int k n),p2)) (hl:n.toNat*sz+sz<=cs.length) (hp:∀q∈p1++(p2++[decide (0<=n),decide (n<(m:Int))]),q):
  zD P o gc st (.agg (((cs.drop (n.toNat*sz)).take sz))):=by
 intro C Λ ac _ hg h;have hx1:=zm h hx h1 (fun q hq=>hp q (by simp [hq])) hg;have hi1:=zm h hi h2 (fun q hq=>hp q (by simp [hq])) hg;have h0:0<=n:=zDT (hp _ (by simp));have hlt:n<m:=zDT (hp _ (by simp));have e2:=hi1.ZL.yc;generalize hv':ac.eval x=u at hx1
 cases hx1 with
 |@agg vs _ hs' h'=>
  refine ⟨_,?_,zr.sub hs' h' hl⟩;simp only [execOp,ho,hv',e2];simp [Instr.index,asIntOf,run_underlying hu,h0,hlt,yI hs,z8o hs ha]
theorem z5a {t:TypeId} {x:Operand} {x':Ar} {args:Array Operand} {ats:Array TypeId} {d:TypeDesc} {v:V} {n:Nat} {p:List Bool} (ha:args[0]?=some x) (hat:ats[0]?=some t) (hu:P.underlying t=some d)
  (hd:d= .string∨∃e,d= .slice e) (ho:o.op= .call {callee:= .builtin .len,args:=args,argTypes:=ats}) (hx:opA x=some x') (h1:rd gc st x'=(v,p)) (hp:∀q∈p,q)
  (hv:(d= .string/\∃s,v= .t (.str s)/\n=s.length)∨((∃e,d= .slice e)/\((∃xs,v.zw=some (.lst xs)/\n=xs.length)∨∃a b c,v= .slc a b n c))):zD P o gc st (.t (.int .i64 n)):=by
 intro C Λ ac _ hg h;have hx1:=zm h hx h1 hp hg
 have hax:(args.map ac.eval)[0]?=some (ac.eval x):=by simp [ha]
 refine ⟨.int .i64 n,?_,.t (.int _ _)⟩
 rcases hv with ⟨rfl,s,rfl,rfl⟩|⟨⟨e,rfl⟩,⟨xs,hc,rfl⟩|⟨a,b,c,rfl⟩⟩
 ·have e1:=hx1.ZL.Wc;rw [e1] at hax;simp only [execOp,ho,resolve,Sem.run_bind,Sem.run_pure,Result.andThen_ok,invoke,builtin];simp [Builtin.len_,hat,hax,run_underlying hu,goInt];rfl
 ·have hr:=hx1.zw hc;generalize hv':ac.eval x=u at hr hax
  cases hr with
  |lst a cap sz _ b off vf _ h1 h2 h3 h4 h5=>
   simp only [execOp,ho,resolve,Sem.run_bind,Sem.run_pure,Result.andThen_ok,invoke,builtin];simp [Builtin.len_,hat,hax,run_underlying hu,goInt]
 ·generalize hv':ac.eval x=u at hx1 hax
  cases hx1 with
  |slc hk _ h'=>
   simp only [execOp,ho,resolve,Sem.run_bind,Sem.run_pure,Result.andThen_ok,invoke,builtin];simp [Builtin.len_,hat,hax,run_underlying hu,goInt]
theorem zf7 {t:TypeId} {x:Operand} {x':Ar} {args:Array Operand} {ats:Array TypeId} {e:TypeId} {k ver off n sz w:Nat} {cs:List V} {p:List Bool} (ha:args[0]?=some x) (hat:ats[0]?=some t) (hu:P.underlying t=some (.slice e))
  (ho:o.op= .call {callee:= .builtin .len,args:=args,argTypes:=ats}) (hx:opA x=some x') (h1:rd gc st x'=(.gsl k ver off n sz,p)) (hp:∀q∈p,q) (hk:zj st.s.sto k=some (.gro w cs)) (hw:ver=w):zD P o gc st (.t (.int .i64 n)):=by
 intro C Λ ac _ hg h;have hx1:=zm h hx h1 hp hg
 have hax:(args.map ac.eval)[0]?=some (ac.eval x):=by simp [ha]
 refine ⟨.int .i64 n,?_,.t (.int _ _)⟩;generalize hv':ac.eval x=u at hx1 hax
 cases hx1 with
 |gsl _ hk1 hn1 h'=>
  rcases h' (hw.trans (h.s.sto k _ hk).2.1.symm) with ⟨⟨a,rfl⟩,hl⟩|⟨b,cap,N,rfl,hc,hb,hN,he⟩
  ·subst hl;simp only [execOp,ho,resolve,Sem.run_bind,Sem.run_pure,Result.andThen_ok,invoke,builtin];simp [Builtin.len_,hat,hax,run_underlying hu,goInt]
  ·simp only [execOp,ho,resolve,Sem.run_bind,Sem.run_pure,Result.andThen_ok,invoke,builtin];simp [Builtin.len_,hat,hax,run_underlying hu,goInt]
end
section
variable {P:Program} {o:Oper} {gc:Bool} {st:St}
theorem extract_mk (s:List UInt8) (l h:Nat):(⟨⟨s⟩⟩:ByteArray).extract l h=⟨⟨(s.take h).drop l⟩⟩:=by
 apply ByteArray.ext;apply w27;rw [Lib.extract_data];simp [List.drop_take]
theorem z0a {k:IntKind} {n:Int} {y:Nat} (h0:0<=n) (h1:n<=y) (c:BoundsCode) (w:World):(Instr.sliceBound (.int k n) y c).run P w= .ok n.toNat w:=by
 simp [Instr.sliceBound,asIntOf,h0,h1]
theorem YD {C:Ctx} {Λ:L} {ac:Act} (h:Rel C Λ st ac) {y:Option Operand} {x:Option Ar} (hy:z0A y=some x) {d n:Int} {p:List Bool} (hb:bnd x gc st d=some (n,p))
  (hp:∀q∈p,q) (hg:gc=true):(y=none/\n=d)∨∃z k,y=some z/\ac.eval z= .int k n:=by
 cases y with
 |none=>
  simp [z0A] at hy;subst hy;simp [bnd] at hb;exact .inl ⟨rfl,hb.1.symm⟩
 |some z=>
  simp only [z0A,w06] at hy;obtain ⟨a,ha,rfl⟩:=hy;simp only [bnd] at hb;split at hb
  ·rename_i m q hr;simp at hb;obtain ⟨rfl,rfl⟩:=hb;have hv:=zm h ha hr hp hg;exact .inr ⟨z,_,rfl,hv.ZL.yc⟩
  ·simp at hb
theorem yF {b:Bool} {len cap:Nat} {lo hi:Option Value} {l h:Int} (hlo:lo=none/\l=0∨∃k,lo=some (.int k l)) (hhi:hi=none/\h=len∨∃k,hi=some (.int k h))
  (h0:0<=l) (h1:l<=h) (h2:h<=cap) (w:World):(Instr.sliceBounds b len cap lo hi none).run P w= .ok (l.toNat,h.toNat,cap) w:=by
 rcases hhi with ⟨rfl,rfl⟩|⟨k,rfl⟩
 ·rcases hlo with ⟨rfl,rfl⟩|⟨k',rfl⟩
  ·simp [Instr.sliceBounds]
  ·simp [Instr.sliceBounds,z0a h0 h1]
 ·have hh:0<=h:=by omega
  rcases hlo with ⟨rfl,rfl⟩|⟨k',rfl⟩
  ·simp [Instr.sliceBounds,z0a hh h2]
  ·simp [Instr.sliceBounds,z0a hh h2,z0a (y:=h.toNat) h0 (by omega)]
theorem zhh {t:TypeId} {x:Operand} {lo hi:Option Operand} {x':Ar} {lo' hi':Option Ar} {s:List UInt8} {l h:Int} {p p1 p2:List Bool} (hu:P.underlying t=some .string)
  (ho:o.op= .slice t x lo hi none) (hx:opA x=some x') (hl:z0A lo=some lo') (hh:z0A hi=some hi') (h1:rd gc st x'=(.t (.str s),p))
  (h2:bnd lo' gc st 0=some (l,p1)) (h3:bnd hi' gc st s.length=some (h,p2)) (hp:∀q∈p++(p1++(p2++[decide (0<=l),decide (l<=h),decide (h<=(s.length:Int))])),q):
  zD P o gc st (.t (.str ((s.take h.toNat).drop l.toNat))):=by
 intro C Λ ac _ hg hr;have hx1:=zm hr hx h1 (fun q hq=>hp q (by simp [hq])) hg;have e1:=hx1.ZL.Wc;have b1:=YD hr hl h2 (fun q hq=>hp q (by simp [hq])) hg;have b2:=YD hr hh h3 (fun q hq=>hp q (by simp [hq])) hg;have g0:0<=l:=zDT (hp _ (by simp));have g1:l<=h:=zDT (hp _ (by simp));have g2:h<=s.length:=zDT (hp _ (by simp));refine ⟨.string ⟨⟨(s.take h.toNat).drop l.toNat⟩⟩,?_,.t (.str _)⟩
 have hb:=yF (P:=P) (b:=false) (len:=s.length) (cap:=s.length) (lo:=lo.map ac.eval) (hi:=hi.map ac.eval) (l:=l) (h:=h)
  (by rcases b1 with ⟨rfl,rfl⟩|⟨z,k,rfl,e⟩<;>simp [*]) (by rcases b2 with ⟨rfl,rfl⟩|⟨z,k,rfl,e⟩<;>simp [*]) g0 g1 g2 Λ.w
 have hs:(⟨⟨s⟩⟩:ByteArray).size=s.length:=rfl;simp only [execOp,ho,e1,Option.map_none];simp [Instr.sliceAt,Instr.slice,run_underlying hu,hs,hb,extract_mk]
theorem Wn {sz:Nat} {xs:List (List T)} (h:ZQ sz xs=true) (i:Nat) (c:List T) (hc:xs[i]?=some c):c.length=sz:=by
 unfold ZQ at h;rw [w0i] at h;simpa using h c (zMG hc)
theorem zI.sub {lb:Nat->Lab} {w:World} {a:Option Addr} {n cap sz l h:Nat} {xs:List (List T)} (hr:zI lb w (.slice a n cap) (.lst xs)) (hsz:∀(i:Nat) (c:List T),xs[i]?=some c->c.length=sz)
  (h1:l<=h) (h2:h<=xs.length):zI lb w (.slice (if cap=l then a else a.map (·.add (l*sz))) (h - l) (cap - l)) (.lst ((xs.take h).drop l)):=by
 cases hr with
 |lst _ _ sz' _ b off vf hcap hsz' ha hr' hc' hrep=>
  have hlen:((xs.take h).drop l).length=h - l:=by simp;omega
  have hget:∀(i:Nat) (c:List T),((xs.take h).drop l)[i]?=some c->xs[l+i]?=some c/\l+i<h:=by
   intro i c hi;rw [w0z,w0p] at hi;split at hi
   ·exact ⟨hi,by assumption⟩
   ·cases hi
  have key:zI lb w (.slice (if cap=l then a else a.map (·.add (l*sz))) ((xs.take h).drop l).length (cap - l)) (.lst ((xs.take h).drop l)):=by
   refine .lst _ _ sz' _ b (off+l*sz') (fun i j=>vf (l+i) j) (by rw [hlen];omega) (fun i c hi=>hsz' _ c (hget i c hi).1) ?_ ?_ ?_ ?_
   ·intro i j c x hi hj;have:=(hget i c hi);have ea:=ha _ j c x this.1 hj;subst ea
    have:cap≠l:=by omega
    have e1:=hsz _ c (hget i c hi).1;have e2:=hsz' _ c (hget i c hi).1
    have:sz=sz':=by omega
    subst this;simp [*,y3]
   ·intro i j c x hi hj;have:=hr' _ j c x (hget i c hi).1 hj
    rwa [w13,←w1e] at this
   ·intro i j c x hi hj;have:=hc' _ j c x (hget i c hi).1 hj
    rwa [w13,←w1e] at this
   ·intro i j c x hi hj;exact hrep _ j c x (hget i c hi).1 hj
  rwa [hlen] at key
theorem zgO {t e:TypeId} {sz:Nat} {x:Operand} {lo hi:Option Operand} {x':Ar} {lo' hi':Option Ar} {v:V} {xs:List (List T)} {l h:Int} {p p1 p2:List Bool} (hu:P.underlying t=some (.slice e)) (hs:ZF P e=some sz)
  (ho:o.op= .slice t x lo hi none) (hx:opA x=some x') (hl:z0A lo=some lo') (hh:z0A hi=some hi') (h1:rd gc st x'=(v,p)) (hv:v.zw=some (.lst xs))
  (h2:bnd lo' gc st 0=some (l,p1)) (h3:bnd hi' gc st xs.length=some (h,p2)) (hp:∀q∈p++(p1++(p2++[decide (0<=l),decide (l<=h),decide (h<=(xs.length:Int)),ZQ sz xs])),q):
  zD P o gc st (.t (.lst ((xs.take h.toNat).drop l.toNat))):=by
 intro C Λ ac _ hg hr;have hx1:=zm hr hx h1 (fun q hq=>hp q (by simp [hq])) hg;have b1:=YD hr hl h2 (fun q hq=>hp q (by simp [hq])) hg;have b2:=YD hr hh h3 (fun q hq=>hp q (by simp [hq])) hg;have g0:0<=l:=zDT (hp _ (by simp));have g1:l<=h:=zDT (hp _ (by simp));have g2:h<=xs.length:=zDT (hp _ (by simp));have hsz:=Wn (hp (ZQ sz xs) (by simp));have hrx:=hx1.zw hv;generalize hv':ac.eval x=u at hrx;have hrx':=hrx
 cases hrx with
 |lst a cap sz' _ b off vf hcap _ _ _ _ _=>
  have hb:=yF (P:=P) (b:=true) (len:=xs.length) (cap:=cap) (lo:=lo.map ac.eval) (hi:=hi.map ac.eval) (l:=l) (h:=h)
   (by rcases b1 with ⟨rfl,rfl⟩|⟨z,k,rfl,e⟩<;>simp [*]) (by rcases b2 with ⟨rfl,rfl⟩|⟨z,k,rfl,e⟩<;>simp [*]) g0 g1 (by omega) Λ.w
  refine ⟨_,?_,.t (hrx'.sub hsz (l:=l.toNat) (h:=h.toNat) (by omega) (by omega))⟩;simp only [execOp,ho,hv',Option.map_none];simp [Instr.sliceAt,Instr.slice,run_underlying hu,hb,yI hs]
theorem zh9 {t e:TypeId} {sz:Nat} {x:Operand} {lo hi:Option Operand} {x':Ar} {lo' hi':Option Ar} {q off len s:Nat} {l h:Int} {p p1 p2:List Bool} (hu:P.underlying t=some (.slice e)) (hs:ZF P e=some sz)
  (ho:o.op= .slice t x lo hi none) (hx:opA x=some x') (hl:z0A lo=some lo') (hh:z0A hi=some hi') (h1:rd gc st x'=(.slc q off len s,p))
  (h2:bnd lo' gc st 0=some (l,p1)) (h3:bnd hi' gc st len=some (h,p2)) (hp:∀b∈p++(p1++(p2++[decide (l=0),decide (0<=h),decide (h<=(len:Int)),s==sz])),b):
  zD P o gc st (.slc q off h.toNat s):=by
 intro C Λ ac _ hg hr;have hx1:=zm hr hx h1 (fun b hb=>hp b (by simp [hb])) hg;have b1:=YD hr hl h2 (fun b hb=>hp b (by simp [hb])) hg;have b2:=YD hr hh h3 (fun b hb=>hp b (by simp [hb])) hg;have g0:l=0:=zDT (hp _ (by simp));have g1:0<=h:=zDT (hp _ (by simp));have g2:h<=len:=zDT (hp _ (by simp));subst g0;generalize hv':ac.eval x=u at hx1
 cases hx1 with
 |@slc b _ _ _ cap _ hk hc h'=>
  have hb:=yF (P:=P) (b:=true) (len:=len) (cap:=cap) (lo:=lo.map ac.eval) (hi:=hi.map ac.eval) (l:=0) (h:=h)
   (by rcases b1 with ⟨rfl,h0⟩|⟨z,k,rfl,e⟩<;>simp [*]) (by rcases b2 with ⟨rfl,rfl⟩|⟨z,k,rfl,e⟩<;>simp [*]) (by omega) g1 (by omega) Λ.w
  have hcap:h.toNat<=cap:=by omega
  refine ⟨_,?_,.slc hk hcap h'⟩;simp only [execOp,ho,hv',Option.map_none];simp [Instr.sliceAt,Instr.slice,run_underlying hu,hb,yI hs];intro _;simp [Addr.add]
theorem zgy {t e:TypeId} {sz:Nat} {x:Operand} {lo hi:Option Operand} {x':Ar} {lo' hi':Option Ar} {q ver off len s w:Nat} {cs:List V} {l h:Int} {p p1 p2:List Bool} (hu:P.underlying t=some (.slice e)) (hs:ZF P e=some sz)
  (ho:o.op= .slice t x lo hi none) (hx:opA x=some x') (hl:z0A lo=some lo') (hh:z0A hi=some hi') (h1:rd gc st x'=(.gsl q ver off len s,p))
  (h2:bnd lo' gc st 0=some (l,p1)) (h3:bnd hi' gc st len=some (h,p2)) (hp:∀b∈p++(p1++(p2++[decide (0<=l),decide (l<=h),decide (h<=(len:Int)),s==sz,decide (ver=w)])),b) (hk:zj st.s.sto q=some (.gro w cs)):
  zD P o gc st (.gsl q ver (off+l.toNat*s) (h.toNat - l.toNat) s):=by
 intro C Λ ac _ hg hr;have hx1:=zm hr hx h1 (fun b hb=>hp b (by simp [hb])) hg;have b1:=YD hr hl h2 (fun b hb=>hp b (by simp [hb])) hg;have b2:=YD hr hh h3 (fun b hb=>hp b (by simp [hb])) hg;have g0:0<=l:=zDT (hp _ (by simp));have g1:l<=h:=zDT (hp _ (by simp));have g2:h<=len:=zDT (hp _ (by simp));have hw:ver=w:=zDT (hp _ (by simp));have hse:(s==sz)=true:=hp _ (by simp)
 have hse':s=sz:=by simpa using hse
 subst hse';generalize hv':ac.eval x=u at hx1
 cases hx1 with
 |gsl _ hk1 hn1 h'=>
  rcases h' (hw.trans (hr.s.sto q _ hk).2.1.symm) with ⟨⟨a,rfl⟩,hl0⟩|⟨b,cap,N,rfl,hc,hb,hN,he⟩
  ·subst hl0
   have hl':l=0:=by omega
   have hh':h=0:=by omega
   subst hl' hh'
   have hb:=yF (P:=P) (b:=true) (len:=0) (cap:=0) (lo:=lo.map ac.eval) (hi:=hi.map ac.eval) (l:=0) (h:=0)
    (b1.elim (fun ⟨e0,e1⟩=> .inl ⟨by rw [e0];rfl,e1⟩) (fun ⟨z,k,e0,e1⟩=> .inr ⟨k,by rw [e0];simp [e1]⟩)) (b2.elim (fun ⟨e0,e1⟩=> .inl ⟨by rw [e0];rfl,e1⟩) (fun ⟨z,k,e0,e1⟩=> .inr ⟨k,by rw [e0];simp [e1]⟩)) (by omega) (by omega) (by omega) Λ.w
   refine ⟨.slice a 0 0,?_,.gsl ⟨_,_,_,rfl⟩ hk1 ⟨fun _=>⟨⟨_,rfl⟩,by simp⟩,hn1.2⟩ (fun _=> .inl ⟨⟨_,rfl⟩,by simp⟩)⟩
   simp only [execOp,ho,hv',Option.map_none];simp [Instr.sliceAt,Instr.slice,run_underlying hu,hb,yI hs]
  ·have hb1:=yF (P:=P) (b:=true) (len:=len) (cap:=cap) (lo:=lo.map ac.eval) (hi:=hi.map ac.eval) (l:=l) (h:=h)
    (b1.elim (fun ⟨e0,e1⟩=> .inl ⟨by rw [e0];rfl,e1⟩) (fun ⟨z,k,e0,e1⟩=> .inr ⟨k,by rw [e0];simp [e1]⟩)) (b2.elim (fun ⟨e0,e1⟩=> .inl ⟨by rw [e0];rfl,e1⟩) (fun ⟨z,k,e0,e1⟩=> .inr ⟨k,by rw [e0];simp [e1]⟩)) g0 g1 (by omega) Λ.w
   by_cases hcl:cap=l.toNat
   ·
    refine ⟨.slice (some ⟨b,off,none⟩) 0 0,?_,.gsl ⟨_,_,_,rfl⟩ hk1 ⟨fun _=>⟨⟨_,rfl⟩,by omega⟩,hn1.2⟩ (fun _=> .inl ⟨⟨_,rfl⟩,by omega⟩)⟩
    simp only [execOp,ho,hv',Option.map_none];rw [hcl] at hb1 hc;simp [Instr.sliceAt,Instr.slice,run_underlying hu,hb1,yI hs,hcl];omega
   ·refine ⟨.slice (some ⟨b,off+l.toNat*s,none⟩) (h.toNat - l.toNat) (cap - l.toNat),?_,.gsl ⟨_,_,_,rfl⟩ hk1 ⟨fun h0=>by obtain ⟨⟨a',e'⟩,_⟩:=hn1.1 h0;simp at e';omega,hn1.2⟩ (fun _=> .inr ⟨b,cap - l.toNat,N,rfl,by omega,hb,hN,?_⟩)⟩
    ·simp only [execOp,ho,hv',Option.map_none];simp [Instr.sliceAt,Instr.slice,run_underlying hu,hb1,yI hs,Addr.add,hcl]
    ·have:l.toNat<=cap:=by omega
     rw [←he,w1e,←w13];congr 2;omega
theorem zfh {b:Bool} {x y:Operand} {x' y':Ar} {args:Array Operand} {ats:Array TypeId} {k:IntKind} {m n:Int} {p1 p2:List Bool} (ha:args.toList=[x,y])
  (ho:o.op= .call {callee:= .builtin (if b then .max else .min),args:=args,argTypes:=ats}) (hx:opA x=some x') (hy:opA y=some y')
  (h1:rd gc st x'=(.t (.int k m),p1)) (h2:rd gc st y'=(.t (.int k n),p2)) (hp:∀q∈p1++p2,q):
  zD P o gc st (.t (.int k (if b then (if n>m then n else m) else (if n<m then n else m)))):=by
 intro C Λ ac _ hg h;have hx1:=zm h hx h1 (fun q hq=>hp q (by simp [hq])) hg;have hy1:=zm h hy h2 (fun q hq=>hp q (by simp [hq])) hg;have e1:=hx1.ZL.yc;have e2:=hy1.ZL.yc
 have hm:args.toList.map ac.eval=[.int k m,.int k n]:=by simp [ha,e1,e2]
 refine ⟨_,?_,.t (.int _ _)⟩;cases b
 ·simp only [execOp,ho,resolve,Sem.run_bind,Sem.run_pure,Result.andThen_ok,invoke,builtin,w0h,w0x];simp [Builtin.min_,Builtin.min2,hm]
 ·simp only [execOp,ho,resolve,Sem.run_bind,Sem.run_pure,Result.andThen_ok,invoke,builtin,w17];simp [Builtin.max_,Builtin.max2,hm]
end
section
variable {P:Program} {o:Oper} {gc:Bool} {st:St}
def YJ (Λ:L) (arr:Array Value) (cs:List V):Prop:=
 arr.size=cs.length/\∀(j:Nat) (v:Value) (c:V),arr[j]?=some v->cs[j]?=some c->zr Λ v c
theorem YJ.set {Λ:L} {arr:Array Value} {cs:List V} (h:YJ Λ arr cs) {i:Nat} {v:Value} {c:V} (hv:zr Λ v c):YJ Λ (arr.setIfInBounds i v) (cs.set i c):=by
 refine ⟨by simp [h.1],fun j u x hu hx=>?_⟩
 rw [Array.getElem?_setIfInBounds] at hu;rw [w1q] at hx;by_cases e:i=j
 ·subst e;by_cases hlt:i<arr.size
  ·have hlt':i<cs.length:=by rw [←h.1];exact hlt
   simp [hlt] at hu;simp [hlt'] at hx;subst hu;subst hx;exact hv
  ·simp [hlt] at hu
 ·simp only [e,w0x] at hu hx;exact h.2 j u x hu hx
theorem YJ.foldl {Λ:L} (off:Nat):∀(vs:List Value) (us:List V) (s:Nat) (arr:Array Value) (cs:List V),vs.length=us.length->
  (∀(j:Nat) (v:Value) (c:V),vs[j]?=some v->us[j]?=some c->zr Λ v c)->YJ Λ arr cs->
  YJ Λ ((vs.zipIdx s).foldl (fun cs (c,j)=>cs.setIfInBounds (off+j) c) arr) (setAt cs (off+s) us)
 |[],[],s,arr,cs,_,_,h=>by simpa [setAt] using h
 |v::vs,u::us,s,arr,cs,hl,hv,h=>by
  simp only [List.zipIdx_cons,List.foldl_cons,setAt];rw [w1e];exact YJ.foldl off vs us (s+1) _ _ (by simpa using hl) (fun j a b h1 h2=>hv (j+1) a b (by simpa using h1) (by simpa using h2)) (h.set (hv 0 v u Z Z))
 |[],_::_,_,_,_,hl,_,_=>by simp at hl
 |_::_,[],_,_,_,hl,_,_=>by simp at hl
theorem YK:∀(us:List V) (cs:List V) (off:Nat),(setAt cs off us).length=cs.length
 |[],_,_=>rfl
 |u::us,cs,off=>by simp [setAt,YK us]
theorem zr.parts {Λ:L} {v:Value} {x:V} {ps:List V} (h:zr Λ v x) (hp:x.parts=some ps):YJ Λ v.cells ps:=by
 have one:∀{v:Value} {y:V},v.cells=#[v]->zr Λ v y->YJ Λ v.cells [y]:=by
  intro v y hv hy;rw [hv];refine ⟨rfl,fun j u c hu hc=>?_⟩
  cases j with
  |zero=>simp at hu hc;subst hu;subst hc;exact hy
  |succ j=>simp at hc
 cases h with
 |t h=>simp [V.parts] at hp;subst hp;refine one ?_ (.t h);cases h<;>rfl
 |zC=>simp [V.parts] at hp;subst hp;exact one Z .zC
 |own h a b c d=>simp [V.parts] at hp;subst hp;refine one ?_ (.own h a b c d);cases h<;>rfl
 |slc a c h=>simp [V.parts] at hp;subst hp;exact one Z (.slc a c h)
 |agg hs h=>simp [V.parts] at hp;subst hp;exact ⟨by simpa [Value.cells] using hs,h⟩
 |tup _ _=>simp [V.parts] at hp
 |ptr a h=>simp [V.parts] at hp;subst hp;exact one Z (.ptr a h)
 |mp a h=>simp [V.parts] at hp;subst hp;exact one Z (.mp a h)
 |fn hs h=>simp [V.parts] at hp;subst hp;exact one Z (.fn hs h)
 |gd _ _=>simp [V.parts] at hp
 |top=>simp [V.parts] at hp
 |ub _ _=>simp [V.parts] at hp
 |fpt a h=>simp [V.parts] at hp;subst hp;exact one Z (.fpt a h)
 |gpt hv a b h=>simp [V.parts] at hp;subst hp;refine one ?_ (.gpt hv a b h);obtain ⟨_,rfl⟩:=hv;rfl
 |gsl hv a b h=>simp [V.parts] at hp;subst hp;refine one ?_ (.gsl hv a b h);obtain ⟨_,_,_,rfl⟩:=hv;rfl
 |fow h a b c d=>simp [V.parts] at hp;subst hp;refine one ?_ (.fow h a b c d);cases h<;>rfl
theorem z0t {C:Ctx} {Λ:L} {ac:Act} (h:Rel C Λ st ac) (hg:gc=true) (place:Nat->Option (Nat×Nat)):∀(parts:List (Nat×Operand)) (ps:List (Nat×Nat×Ar)) (arr:Array Value) (cs cs':List V) (p:List Bool),
  partsOf place parts=some ps->YJ Λ arr cs->z1C st gc cs ps=some (cs',p)->(∀q∈p,q)->
  ∃arr',Instr.fill place arr (parts.map fun (i,x)=>(i,ac.eval x))=some arr'/\YJ Λ arr' cs'
 |[],ps,arr,cs,cs',p,hps,hr,hf,_=>by
  simp [partsOf] at hps;subst hps;simp [z1C] at hf;obtain ⟨rfl,rfl⟩:=hf;exact ⟨arr,rfl,hr⟩
 |(i,x)::parts,ps,arr,cs,cs',p,hps,hr,hf,hp=>by
  simp only [partsOf] at hps;split at hps
  ·rename_i off n a l h1 h2 h3;simp at hps;subst hps;simp only [z1C] at hf;generalize hrd:rd gc st a=va at hf;obtain ⟨v,p1⟩:=va;simp only at hf;split at hf
   ·simp at hf
   ·rename_i us hus;split at hf
    ·rename_i hle;split at hf
     ·rename_i c q hrest;simp at hf;obtain ⟨rfl,rfl⟩:=hf;have hv:=zm h h2 hrd (fun q hq=>hp q (by simp [hq])) hg;have hc:=hv.parts hus;have hfold:=YJ.foldl off (ac.eval x).cells.toList us 0 arr cs (by simpa using hc.1) (fun j a b e1 e2=>hc.2 j a b (by simpa using e1) e2) hr;obtain ⟨arr',h4,h5⟩:=z0t h hg place parts l _ _ _ _ h3 hfold hrest (fun q hq=>hp q (by simp [hq]));refine ⟨arr',?_,h5⟩
      have hsz:(ac.eval x).cells.size=n:=by rw [hc.1];exact hle.1
      have hsz2:arr.size=cs.length:=hr.1;simp only [w0n,Instr.fill,h1,hsz]
      have:¬ (off+n>arr.size):=by omega
      simp only [ne_eq,not_true_eq_false,decide_false,this,Bool.or_self,w0h,w0x];rw [←h4];congr 1;rw [←Array.foldl_toList,Array.toList_zipIdx]
     ·simp at hf
    ·simp at hf
  ·simp at hps
theorem y5 {t:TypeId} {zs:List V} (h:ZP P t=some zs):∃i z,P.info? t=some i/\i.zero=some z/\zs.length=i.size/\WX z.cells.toList zs=true:=by
 unfold ZP at h;split at h
 ·rename_i i zs' hi _;split at h
  ·rename_i z hz;split at h
   ·rename_i hc;simp at h;subst h;simp at hc;exact ⟨i,z,hi,hz,hc.2,hc.1⟩
   ·simp at h
  ·simp at h
 ·simp at h
theorem yf {Λ:L} {z:Value} {zs:List V} (h:WX z.cells.toList zs=true):YJ Λ z.cells zs:=by
 obtain ⟨h1,h2⟩:=z43 (Λ:=Λ) h
 exact ⟨by simpa using h1,fun j v c hv hc=>h2 j v c (by simpa using hv) hc⟩
theorem zah {t:TypeId} {parts:Array (Nat×Operand)} {zs cs:List V} {ps:List (Nat×Nat×Ar)} {p:List Bool} (ho:o.op= .build t parts) (hz:ZP P t=some zs)
  (hps:(∃fs pl,P.underlying t=some (.struct fs)/\placesOf P fs=some pl/\partsOf (pl.toArray[·]?) parts.toList=some ps)∨
   (∃m e sz,P.underlying t=some (.array m e)/\ZF P e=some sz/\partsOf (fun i=>some (i*sz,sz)) parts.toList=some ps))
  (hf:z1C st gc zs ps=some (cs,p)) (hp:∀q∈p,q):zD P o gc st (.agg cs):=by
 intro C Λ ac _ hg h;obtain ⟨i,z,hi,hz1,hlen,hok⟩:=y5 hz;have hrc:=yf (Λ:=Λ) hok
 have fin:∀arr',P.built t (parts.map fun (i,x)=>(i,ac.eval x)).toList=some arr'->YJ Λ arr' cs->∃v,(execOp ac.eval o).run P Λ.w= .ok (.value v) Λ.w/\zr Λ v (.agg cs):=by
  intro arr' h1 h2;refine ⟨.agg arr',?_,.agg h2.1 fun j v c e1 e2=>h2.2 j v c e1 e2⟩;simp only [execOp,ho,Sem.run_bind,run_build Λ.w t _ arr' h1];rfl
 rcases hps with ⟨fs,pl,hu,hpl,hpo⟩|⟨m,e,sz,hu,hs,hpo⟩
 ·obtain ⟨arr',h1,h2⟩:=z0t h hg _ _ _ _ _ _ _ hpo hrc hf hp;refine fin arr' ?_ h2;unfold placesOf at hpl;simp only [Program.built,hi,hu,hz1,hpl,Array.toList_map];exact h1
 ·obtain ⟨arr',h1,h2⟩:=z0t h hg _ _ _ _ _ _ _ hpo hrc hf hp;refine fin arr' ?_ h2;unfold ZF at hs
  cases hie:P.info? e with
  |none=>rw [hie] at hs;simp at hs
  |some ie=>
   rw [hie] at hs;simp at hs;subst hs;simp only [Program.built,hi,hu,hz1,hie,Array.toList_map];exact h1
theorem zg8 {f:FuncId} {first caps:Array Operand} {caps':List Ar} {cs:List (Nat×Nat)} (ho:o.op= .makeFunc (.func f) first caps) (hfirst:first.isEmpty=true) (hc:caps.toList.mapM opA=some caps')
  (hcs:Q3 st caps'=some cs):zD P o gc st (.fn f cs):=by
 intro C Λ ac _ hg h
 have key:∀(xs:List Operand) (ys:List Ar) (cs:List (Nat×Nat)),xs.mapM opA=some ys->Q3 st ys=some cs->
   (xs.map ac.eval).length=cs.length/\∀(j:Nat) (v:Value) (c:Nat×Nat),(xs.map ac.eval)[j]?=some v->cs[j]?=some c->∃b,v= .pointer (some ⟨b,c.2,none⟩)/\Λ.lab b= .obj c.1/\c.1<Λ.nxt:=by
  intro xs
  induction xs with
  |nil=>intro ys cs h1 h2;simp at h1;subst h1;simp [Q3] at h2;subst h2;simp
  |cons x xs ih=>
   intro ys cs h1 h2;simp only [List.mapM_cons,w04,Option.pure_def,w01] at h1;obtain ⟨y,hy,ys',hys,h1⟩:=h1;simp at h1;subst h1;simp only [Q3] at h2;split at h2
   ·rename_i k off cs' hv hcs';simp at h2;subst h2;obtain ⟨i1,i2⟩:=ih ys' cs' hys hcs'
    refine ⟨by simpa using i1,fun j v c hj hc=>?_⟩
    cases j with
    |zero=>
     simp at hj hc;subst hj;subst hc;have hr:=h.opd hy;rw [hv] at hr;generalize ac.eval x=u at hr
     cases hr with
     |@ptr b _ _ hk hb=>exact ⟨b,rfl,hb,hk⟩
    |succ j=>exact i2 j v c (by simpa using hj) (by simpa using hc)
   ·simp at h2
 obtain ⟨k1,k2⟩:=key _ _ _ hc hcs
 have he:first=#[]:=by simpa using hfirst
 subst he
 refine ⟨.func (.func f) #[] (caps.map ac.eval),by simp [execOp,ho,Instr.makeFunc],.fn (by simpa using k1) fun j v c hj hc=>k2 j v c (by simpa using hj) hc⟩
theorem ZD {t:TypeId} (x y:Value) (w:World) (b:Bool)
  (h:∀n,(Op.equalIn (n+1) t x y).run P w= .ok b w):(Op.equal t x y).run P w= .ok b w:=h 9999
theorem zf1 {neg:Bool} {t ty:TypeId} {x:Operand} {x':Ar} {k i off:Nat} {e:TypeId} {p:List Bool} (hu:P.underlying t=some (.pointer e))
  (ho:o.op= .binOp (if neg then .neq else .eql) t x (.const (.pointer none)) ty) (hx:opA x=some x') (h1:rd gc st x'=(.fpt k i off,p)) (hp:∀q∈p,q):zD P o gc st (.t (.bool neg)):=by
 intro C Λ ac _ hg h;have hx1:=zm h hx h1 hp hg;generalize hv':ac.eval x=u at hx1;have hc:∀v,ac.eval (.const v)=v:=fun _=>rfl;refine ⟨.bool neg,?_,.t (.bool _)⟩
 cases hx1 with
 |@fpt bl _ _ _ hk' h'=>
  have hq:(Op.equal t (.pointer (some ⟨bl,off,none⟩)) (.pointer none)).run P Λ.w= .ok false Λ.w:=ZD _ _ Λ.w false (fun n=>by simp [Op.equalIn,run_underlying hu])
  cases neg<;>simp [execOp,ho,hv',hc,eqGuard,binOp,hq]
theorem zeD {neg:Bool} {t ty:TypeId} {x:Operand} {x':Ar} {k ver off w:Nat} {cs:List V} {e:TypeId} {p:List Bool} (hu:P.underlying t=some (.pointer e))
  (ho:o.op= .binOp (if neg then .neq else .eql) t x (.const (.pointer none)) ty) (hx:opA x=some x') (h1:rd gc st x'=(.gpt k ver off,p)) (hp:∀q∈p,q) (hk:zj st.s.sto k=some (.gro w cs)) (hw:ver=w):zD P o gc st (.t (.bool neg)):=by
 intro C Λ ac _ hg h;have hx1:=zm h hx h1 hp hg;generalize hv':ac.eval x=u at hx1;have hc:∀v,ac.eval (.const v)=v:=fun _=>rfl;refine ⟨.bool neg,?_,.t (.bool _)⟩
 cases hx1 with
 |gpt _ hk' _ h'=>
  obtain ⟨bl,rfl,_⟩:=h' (hw.trans (h.s.sto k _ hk).2.1.symm)
  have hq:(Op.equal t (.pointer (some ⟨bl,off,none⟩)) (.pointer none)).run P Λ.w= .ok false Λ.w:=ZD _ _ Λ.w false (fun n=>by simp [Op.equalIn,run_underlying hu])
  cases neg<;>simp [execOp,ho,hv',hc,eqGuard,binOp,hq]
theorem z7N {neg:Bool} {t ty:TypeId} {x y:Operand} {x':Ar} {v:V} {b:Bool} {p:List Bool} (hu:(∃e,P.underlying t=some (.pointer e))/\y= .const (.pointer none)∨(∃k e,P.underlying t=some (.map k e))/\y= .const (.map none))
  (ho:o.op= .binOp (if neg then .neq else .eql) t x y ty) (hx:opA x=some x') (h1:rd gc st x'=(v,p)) (hp:∀q∈p,q)
  (hv:(y= .const (.pointer none)/\((v= .t .z2W/\b=!neg)∨((∃k o,v= .ptr k o)/\b=neg)∨((∃c,v= .t (.ptr c))/\b=neg)))∨(y= .const (.map none)/\((v= .t .z0J/\b=!neg)∨((∃k,v= .mp k)/\b=neg)))):
  zD P o gc st (.t (.bool b)):=by
 intro C Λ ac _ hg h;have hx1:=zm h hx h1 hp hg;generalize hv':ac.eval x=u at hx1;have hc:∀v,ac.eval (.const v)=v:=fun _=>rfl;refine ⟨.bool b,?_,.t (.bool _)⟩
 rcases hv with ⟨hy,hv⟩|⟨hy,hv⟩
 ·rcases hu with ⟨⟨e,hu⟩,_⟩|⟨_,hy'⟩
  ·subst hy
   rcases hv with ⟨rfl,hb⟩|⟨⟨k,off,rfl⟩,hb⟩|⟨⟨c,rfl⟩,hb⟩
   ·cases hx1 with
    |t h'=>
     cases h'
     have hq:(Op.equal t (.pointer none) (.pointer none)).run P Λ.w= .ok true Λ.w:=ZD _ _ Λ.w true (fun n=>by simp [Op.equalIn,run_underlying hu])
     cases neg<;>simp [execOp,ho,hv',hc,eqGuard,binOp,hq,hb]
   ·cases hx1 with
    |@ptr bl _ _ hk' h'=>
     have hq:(Op.equal t (.pointer (some ⟨bl,off,none⟩)) (.pointer none)).run P Λ.w= .ok false Λ.w:=ZD _ _ Λ.w false (fun n=>by simp [Op.equalIn,run_underlying hu])
     cases neg<;>simp [execOp,ho,hv',hc,eqGuard,binOp,hq,hb]
   ·cases hx1 with
    |t h'=>
     cases h' with
     |ptr _ bl off vf a1 a2 a3=>
     have hq:(Op.equal t (.pointer (some ⟨bl,off,none⟩)) (.pointer none)).run P Λ.w= .ok false Λ.w:=ZD _ _ Λ.w false (fun n=>by simp [Op.equalIn,run_underlying hu])
     cases neg<;>simp [execOp,ho,hv',hc,eqGuard,binOp,hq,hb]
  ·rw [hy] at hy';simp at hy'
 ·rcases hu with ⟨_,hy'⟩|⟨⟨k,e,hu⟩,_⟩
  ·rw [hy] at hy';simp at hy'
  ·subst hy
   rcases hv with ⟨rfl,hb⟩|⟨⟨k,rfl⟩,hb⟩
   ·cases hx1 with
    |t h'=>
     cases h'
     have hq:(Op.equal t (.map none) (.map none)).run P Λ.w= .ok true Λ.w:=ZD _ _ Λ.w true (fun n=>by simp [Op.equalIn,run_underlying hu])
     cases neg<;>simp [execOp,ho,hv',hc,eqGuard,binOp,hq,hb]
   ·cases hx1 with
    |@mp bl _ hk' h'=>
     have hq:(Op.equal t (.map (some bl)) (.map none)).run P Λ.w= .ok false Λ.w:=ZD _ _ Λ.w false (fun n=>by simp [Op.equalIn,run_underlying hu])
     cases neg<;>simp [execOp,ho,hv',hc,eqGuard,binOp,hq,hb]
theorem zeq {c x y:Operand} {c' x':Ar} {cb xa:Bool} {p1 p2:List Bool} (ho:o.op= .pick c x y) (hc:opA c=some c') (hx:opA x=some x')
  (h1:rd gc st c'=(.t (.bool cb),p1)) (h2:rd (gc&&cb) st x'=(.t (.bool xa),p2)) (hp:∀q∈p1++(p2++[cb]),q):zD P o gc st (.t (.bool xa)):=by
 intro C Λ a _ hg h;have hc1:=zm h hc h1 (fun q hq=>hp q (by simp [hq])) hg;have ec:=hc1.ZL.Yj;have hcb:cb=true:=hp cb (by simp);subst hcb;have hx1:=zm h hx h2 (fun q hq=>hp q (by simp [hq])) (by simp [hg])
 exact ⟨a.eval x,by simp [execOp,ho,ec,asBool],.t hx1.ZL⟩
theorem zeQ {c x y:Operand} {c' y':Ar} {cb xb:Bool} {p1 p3:List Bool} (ho:o.op= .pick c x y) (hc:opA c=some c') (hy:opA y=some y')
  (h1:rd gc st c'=(.t (.bool cb),p1)) (h3:rd (gc&&!cb) st y'=(.t (.bool xb),p3)) (hp:∀q∈p1++(p3++[!cb]),q):zD P o gc st (.t (.bool xb)):=by
 intro C Λ a _ hg h;have hc1:=zm h hc h1 (fun q hq=>hp q (by simp [hq])) hg;have ec:=hc1.ZL.Yj;have hcb:(!cb)=true:=hp (!cb) (by simp)
 have hcb':cb=false:=by simpa using hcb
 subst hcb';have hy1:=zm h hy h3 (fun q hq=>hp q (by simp [hq])) (by simp [hg])
 exact ⟨a.eval y,by simp [execOp,ho,ec,asBool],.t hy1.ZL⟩
end
section
variable {P:Program} {ops:Array Oper} {o:Oper} {gc:Bool} {st:St}
theorem zhl {x:Operand} {ix:Nat} {x':Ar} {vs:List V} {v:V} {p:List Bool} (ho:o.op= .extract x ix) (hx:opA x=some x') (h1:rd gc st x'=(.tup vs,p)) (hp:∀q∈p,q) (hv:vs[ix]?=some v):zD P o gc st v:=by
 intro C Λ ac _ hg h;have hx1:=zm h hx h1 hp hg;generalize hv':ac.eval x=u at hx1
 cases hx1 with
 |@tup us _ hs h'=>
  have hlt:=(w02.1 hv).1
  have hg':us[ix]?=some (us[ix]'(by omega)):=by simp
  refine ⟨_,?_,h' _ _ v hg' hv⟩;simp only [execOp,ho,hv'];simp [Instr.extract,hg']
theorem z7z {aop:AOp} {v:V} {ps:List Bool} (hres:ZV P ops o=some aop) (he:zk gc st aop=some (v,ps)) (hp:∀q∈ps,q):zD P o gc st v:=by
 unfold ZV at hres;split at hres
 ·rename_i t hop;simp at hres;subst hres;simp only [zk,w00] at he;exact ze3 (x:= .s t) (p:=ps) (.inl hop) Z he hp
 ·rename_i t hop;simp at hres;subst hres;simp only [zk,w00] at he;exact ze3 (x:= .s t) (p:=ps) (.inr hop) Z he hp
 ·rename_i c hop;simp only [w06] at hres;obtain ⟨x,hx,rfl⟩:=hres;simp [zk] at he;obtain ⟨rfl,rfl⟩:=he;exact zfd (.inl hop) (fun _=> .z6z hx)
 ·rename_i c hop;simp only [w06] at hres;obtain ⟨x,hx,rfl⟩:=hres;simp [zk] at he;obtain ⟨rfl,rfl⟩:=he;exact zfd (.inr hop) (fun _=> .z6z hx)
 ·rename_i f hop;simp at hres;subst hres;simp [zk] at he;obtain ⟨rfl,rfl⟩:=he;exact ze3 (v:= .t (.fn f)) (x:= .c (.t (.fn f))) (p:=[]) (.inl hop) Z Z (by simp)
 ·rename_i f hop;simp at hres;subst hres;simp [zk] at he;obtain ⟨rfl,rfl⟩:=he;exact ze3 (v:= .t (.fn f)) (x:= .c (.t (.fn f))) (p:=[]) (.inr hop) Z Z (by simp)
 ·
  rename_i c a b hop;simp only [w04,w01,w00] at hres;obtain ⟨c',hc,a',ha,b',hb,rfl⟩:=hres;simp only [zk] at he;split at he
  ·rename_i cb p1 hc1;split at he
   ·rename_i h2 h3;simp only [w00,w05] at he;obtain ⟨rfl,rfl⟩:=he;exact zgf hop hc ha hb hc1 h2 h3 hp
   ·rename_i h2 h3;simp only [w00,w05] at he;obtain ⟨rfl,rfl⟩:=he;exact zeq hop hc ha hc1 h2 hp
   ·rename_i h2 h3;simp only [w00,w05] at he;obtain ⟨rfl,rfl⟩:=he;exact zeQ hop hc hb hc1 h3 hp
   ·simp at he
  ·simp at he
 ·
  rename_i op ty x hop;simp only [w04,w01,w00] at hres;obtain ⟨x',hx,rfl⟩:=hres
  cases op with
  |not=>
   simp only [zk] at he;split at he
   ·rename_i h1;simp only [w00,w05] at he;obtain ⟨rfl,rfl⟩:=he;exact zhn hop hx h1 hp
   ·simp at he
  |neg=>
   simp only [zk] at he;split at he
   ·rename_i h1;simp only [w00,w05] at he;obtain ⟨rfl,rfl⟩:=he;exact zgG hop hx h1 hp
   ·simp at he
  |_=>simp [zk] at he
 ·
  rename_i op xt x y ty hop
  have hbin:∀aop,((opA x).bind fun a=>(opA y).bind fun b=>some (AOp.bin op a b))=some aop->zk gc st aop=some (v,ps)->zD P o gc st v:=by
   intro aop h1 h2;simp only [w01,w00] at h1;obtain ⟨x',hx,y',hy,rfl⟩:=h1;simp only [zk] at h2;split at h2
   ·rename_i a p1 b p2 e1 e2;simp only [w06] at h2;obtain ⟨⟨r,p3⟩,hb,h2⟩:=h2;simp at h2;obtain ⟨rfl,rfl⟩:=h2;exact zhg hop hx hy e1 e2 hb hp
   ·simp at h2
  split at hres
  ·exact hbin _ hres he
  ·exact hbin _ hres he
  ·rename_i hu;split at hres
   ·simp only [w04,w01,w00] at hres;obtain ⟨x',hx,y',hy,rfl⟩:=hres;simp only [zk] at he;split at he
    ·rename_i e1 e2;simp only [w00,w05] at he;obtain ⟨rfl,rfl⟩:=he;exact zfg (neg:=false) hu hop hx hy e1 e2 hp
    ·simp at he
   ·simp only [w04,w01,w00] at hres;obtain ⟨x',hx,y',hy,rfl⟩:=hres;simp only [zk] at he;split at he
    ·rename_i e1 e2;simp only [w00,w05] at he;obtain ⟨rfl,rfl⟩:=he;have:=zfg (neg:=true) hu hop hx hy e1 e2 hp;simpa using this
    ·simp at he
   ·simp at hres
  ·rename_i e hu
   have key:∀neg,o.op= .binOp (if neg then .neq else .eql) xt x (.const (.pointer none)) ty->∀x',opA x=some x'->zk gc st (.eqp neg x')=some (v,ps)->zD P o gc st v:=by
    intro neg hop x' hx he;simp only [zk] at he;split at he
    ·simp only [w00,w05] at he;obtain ⟨rfl,rfl⟩:=he;exact z7N (neg:=neg) (.inl ⟨⟨_,hu⟩,rfl⟩) hop hx (by assumption) hp (.inl ⟨rfl,.inl ⟨rfl,rfl⟩⟩)
    ·simp only [w00,w05] at he;obtain ⟨rfl,rfl⟩:=he;exact z7N (neg:=neg) (.inl ⟨⟨_,hu⟩,rfl⟩) hop hx (by assumption) hp (.inl ⟨rfl,.inr (.inl ⟨⟨_,_,rfl⟩,rfl⟩)⟩)
    ·simp only [w00,w05] at he;obtain ⟨rfl,rfl⟩:=he;exact z7N (neg:=neg) (.inl ⟨⟨_,hu⟩,rfl⟩) hop hx (by assumption) hp (.inl ⟨rfl,.inr (.inr ⟨⟨_,rfl⟩,rfl⟩)⟩)
    ·simp only [w00,w05] at he;obtain ⟨rfl,rfl⟩:=he;exact zf1 (neg:=neg) hu hop hx (by assumption) hp
    ·rename_i h1;split at he
     ·rename_i hk;simp only [w00,w05] at he;obtain ⟨rfl,rfl⟩:=he;exact zeD (neg:=neg) hu hop hx h1 (fun q hq=>hp q (by simp [hq])) hk (zDT (hp _ (by simp)))
     ·simp at he
    ·simp at he
   split at hres
   ·simp only [w04,w01,w00] at hres;obtain ⟨x',hx,rfl⟩:=hres;exact key false hop x' hx he
   ·simp only [w04,w01,w00] at hres;obtain ⟨x',hx,rfl⟩:=hres;exact key true hop x' hx he
   ·simp at hres
  ·rename_i k e hu
   have key:∀neg,o.op= .binOp (if neg then .neq else .eql) xt x (.const (.map none)) ty->∀x',opA x=some x'->zk gc st (.eqm neg x')=some (v,ps)->zD P o gc st v:=by
    intro neg hop x' hx he;simp only [zk] at he;split at he
    ·simp only [w00,w05] at he;obtain ⟨rfl,rfl⟩:=he;exact z7N (neg:=neg) (.inr ⟨⟨_,_,hu⟩,rfl⟩) hop hx (by assumption) hp (.inr ⟨rfl,.inl ⟨rfl,rfl⟩⟩)
    ·simp only [w00,w05] at he;obtain ⟨rfl,rfl⟩:=he;exact z7N (neg:=neg) (.inr ⟨⟨_,_,hu⟩,rfl⟩) hop hx (by assumption) hp (.inr ⟨rfl,.inr ⟨⟨_,rfl⟩,rfl⟩⟩)
    ·simp at he
   split at hres
   ·simp only [w04,w01,w00] at hres;obtain ⟨x',hx,rfl⟩:=hres;exact key false hop x' hx he
   ·simp only [w04,w01,w00] at hres;obtain ⟨x',hx,rfl⟩:=hres;exact key true hop x' hx he
   ·simp at hres
  ·simp at hres
 ·
  rename_i src dst x hop;split at hres
  ·rename_i k1 k hs hd;simp only [w04,w01,w00] at hres;obtain ⟨x',hx,rfl⟩:=hres;simp only [zk] at he;split at he
   ·rename_i h1;simp only [w00,w05] at he;obtain ⟨rfl,rfl⟩:=he;exact zfO hs hd hop hx h1 hp
   ·simp at he
  ·rename_i hs hd;simp only [w04,w01,w00] at hres;obtain ⟨x',hx,rfl⟩:=hres;simp only [zk] at he;split at he
   ·rename_i h1;simp only [w00,w05] at he;obtain ⟨rfl,rfl⟩:=he;exact zf5 hs hd hop hx h1 hp ⟨_,rfl⟩
   ·simp at he
  ·simp at hres
 ·
  rename_i x hop;simp only [w04,w01,w00] at hres;obtain ⟨x',hx,rfl⟩:=hres;simp only [zk] at he;split at he
  ·rename_i h1;simp only [w00,w05] at he;obtain ⟨rfl,rfl⟩:=he;exact z3c hop hx h1 hp (.inl ⟨_,_,rfl⟩)
  ·rename_i h1;simp only [w00,w05] at he;obtain ⟨rfl,rfl⟩:=he;exact z3c hop hx h1 hp (.inr (.inl ⟨_,rfl⟩))
  ·rename_i h1;simp only [w00,w05] at he;obtain ⟨rfl,rfl⟩:=he;exact z3c hop hx h1 hp (.inr (.inr (.inl ⟨_,rfl⟩)))
  ·rename_i h1;simp only [w00,w05] at he;obtain ⟨rfl,rfl⟩:=he;exact z3c hop hx h1 hp (.inr (.inr (.inr ⟨_,_,rfl⟩)))
  ·rename_i h1;simp only [w00,w05] at he;obtain ⟨rfl,rfl⟩:=he;exact zbe hop hx h1 hp
  ·rename_i h1;split at he
   ·rename_i hk;simp only [w00,w05] at he;obtain ⟨rfl,rfl⟩:=he;exact zaP hop hx h1 (fun q hq=>hp q (by simp [hq])) hk (zDT (hp _ (by simp)))
   ·simp at he
  ·simp at he
 ·
  rename_i s x f hop;split at hres
  ·rename_i fs hu;simp only [w04,w01] at hres;obtain ⟨fd,hf,n,hn,hres⟩:=hres;split at hres
   ·simp at hres
   ·rename_i h0;simp only [w01,w00] at hres;obtain ⟨x',hx,rfl⟩:=hres;simp only [zk] at he;split at he
    ·rename_i h1;simp only [w00,w05] at he;obtain ⟨rfl,rfl⟩:=he;exact zh8 hu hf hn h0 hop hx h1 hp (.inl ⟨_,_,rfl,rfl⟩)
    ·rename_i h1;simp only [w00,w05] at he;obtain ⟨rfl,rfl⟩:=he;exact zh8 hu hf hn h0 hop hx h1 hp (.inr ⟨_,rfl,rfl⟩)
    ·rename_i h1;simp only [w00,w05] at he;obtain ⟨rfl,rfl⟩:=he;exact zfo hu hf hn h0 hop hx h1 hp
    ·rename_i h1;split at he
     ·rename_i hk;simp only [w00,w05] at he;obtain ⟨rfl,rfl⟩:=he;exact zgg hu hf hn h0 hop hx h1 (fun q hq=>hp q (by simp [hq])) hk (zDT (hp _ (by simp)))
     ·simp at he
    ·simp at he
  ·simp at hres
 ·
  rename_i t x hop;simp only [w04,w01] at hres;obtain ⟨n,hn,hres⟩:=hres;split at hres
  ·simp at hres
  ·rename_i d hu;split at hres
   ·rename_i hag;simp only [w01,w00] at hres;obtain ⟨x',hx,rfl⟩:=hres;simp only [zk,w17] at he;split at he
    ·rename_i h1;split at he
     ·rename_i hle;simp only [w00,w05] at he;obtain ⟨rfl,rfl⟩:=he;exact zdR hn hag hop hx h1 hp hle
     ·simp at he
    ·rename_i h1;split at he
     ·rename_i hk;split at he
      ·rename_i hle;simp only [w00,w05] at he;obtain ⟨rfl,rfl⟩:=he;exact zaW hn hag hop hx h1 hp hk hle
      ·simp at he
     ·simp at he
    ·rename_i h1;split at he
     ·rename_i hk;split at he
      ·rename_i hle;simp only [w00,w05] at he;obtain ⟨rfl,rfl⟩:=he;exact zer hn hag hop hx h1 (fun q hq=>hp q (by simp [hq])) hk (zDT (hp _ (by simp))) hle
      ·simp at he
     ·simp at he
    ·rename_i h1;split at he
     ·rename_i hk;split at he
      ·rename_i hi;split at he
       ·rename_i hle;simp only [w00,w05] at he;obtain ⟨rfl,rfl⟩:=he;exact zeS hn hag hop hx h1 hp hk hi hle
       ·simp at he
      ·simp at he
     ·simp at he
    ·simp at he
   ·rename_i hag
    have hag':Z5 P t=false:=by simpa using hag
    simp only [w01,w00] at hres;obtain ⟨x',hx,rfl⟩:=hres;simp only [zk,w0h,w0x] at he;split at he
    ·rename_i h1;split at he
     ·rename_i hc;simp only [w00,w05] at he;obtain ⟨rfl,rfl⟩:=he;exact zej hu hag' hop hx h1 hp hc
     ·simp at he
    ·rename_i h1;split at he
     ·rename_i hk;split at he
      ·rename_i hc;simp only [w00,w05] at he;obtain ⟨rfl,rfl⟩:=he;exact zdz hu hag' hop hx h1 hp hk hc
      ·simp at he
     ·simp at he
    ·rename_i h1;split at he
     ·rename_i hk;split at he
      ·rename_i hc;simp only [w00,w05] at he;obtain ⟨rfl,rfl⟩:=he;exact zgj hu hag' hop hx h1 (fun q hq=>hp q (by simp [hq])) hk (zDT (hp _ (by simp))) hc
      ·simp at he
     ·simp at he
    ·rename_i h1;split at he
     ·rename_i hk;split at he
      ·rename_i hi;split at he
       ·rename_i hc;simp only [w00,w05] at he;obtain ⟨rfl,rfl⟩:=he;exact zfK hu hag' hop hx h1 hp hk hi hc
       ·simp at he
      ·simp at he
     ·simp at he
    ·simp at he
 ·
  simp only [w04,w01,w00] at hres;obtain ⟨_,_,_,_,_,_,rfl⟩:=hres;simp [zk] at he
 ·
  rename_i t x ix hop;split at hres
  ·rename_i e hu;simp only [w04,w01,w00] at hres;obtain ⟨sz,hs,x',hx,i',hi,rfl⟩:=hres;simp only [zk] at he;split at he
   ·rename_i w p1 k n p2 h1 h2;split at he
    ·split at he
     ·rename_i hsz;subst hsz;simp only [w00,w05] at he;obtain ⟨rfl,rfl⟩:=he;exact zdx hu hs hop hx hi h1 h2 hp
     ·simp at he
    ·split at he
     ·rename_i hk;split at he
      ·rename_i hsz;subst hsz;simp only [w00,w05] at he;obtain ⟨rfl,rfl⟩:=he;exact zfE hu hs hop hx hi h1 h2 hk hp
      ·simp at he
     ·simp at he
    ·split at he
     ·rename_i hv;split at he
      ·rename_i hc;split at he
       ·rename_i hsz;simp only [w00,w05] at he;obtain ⟨rfl,rfl⟩:=he;exact zhu hu hs hop hx hi h1 h2 hv hc hsz hp
       ·simp at he
      ·simp at he
     ·simp at he
   ·simp at he
  ·rename_i m e hu;simp only [w04,w01,w00] at hres;obtain ⟨sz,hs,x',hx,i',hi,rfl⟩:=hres;simp only [zk] at he;split at he
   ·rename_i h1 h2;simp only [w00,w05] at he;obtain ⟨rfl,rfl⟩:=he;exact zdt hu hs hop hx hi h1 h2 hp (.inl ⟨_,_,rfl,rfl⟩)
   ·rename_i h1 h2;simp only [w00,w05] at he;obtain ⟨rfl,rfl⟩:=he;exact zdt hu hs hop hx hi h1 h2 hp (.inr ⟨_,rfl,rfl⟩)
   ·simp at he
  ·simp at hres
 ·
  rename_i t x ix hop;split at hres
  ·rename_i hu;simp only [w04,w01,w00] at hres;obtain ⟨x',hx,i',hi,rfl⟩:=hres;simp only [zk] at he;split at he
   ·rename_i h1 h2;split at he
    ·rename_i hb;simp only [w00,w05] at he;obtain ⟨rfl,rfl⟩:=he;exact zgY hu hop hx hi h1 h2 hb hp
    ·simp at he
   ·simp at he
  ·rename_i m e hu;split at hres
   ·simp at hres
   ·rename_i d hd;simp only [w04,w01,w00] at hres;obtain ⟨sz,hs,x',hx,i',hi,rfl⟩:=hres;simp only [zk] at he;split at he
    ·rename_i h1 h2;split at he
     ·rename_i hag;split at he
      ·rename_i hle;simp only [w00,w05] at he;obtain ⟨rfl,rfl⟩:=he;exact zgr hu hs hag hop hx hi h1 h2 hle hp
      ·simp at he
     ·rename_i hag;split at he
      ·rename_i hc;simp only [w00,w05] at he;obtain ⟨rfl,rfl⟩:=he;exact zgI hu hs hd (by simpa using hag) hop hx hi h1 h2 hc hp
      ·simp at he
    ·simp at he
  ·simp at hres
 ·
  rename_i t x lo hi hop;split at hres
  ·rename_i hu;simp only [w04,w01,w00] at hres;obtain ⟨l',hl,h',hh,x',hx,rfl⟩:=hres;simp only [zk] at he;split at he
   ·rename_i h1;split at he
    ·rename_i h2 h3;simp only [w00,w05] at he;obtain ⟨rfl,rfl⟩:=he;exact zhh hu hop hx hl hh h1 h2 h3 hp
    ·simp at he
   ·simp at he
  ·rename_i e hu;simp only [w04,w01,w00] at hres;obtain ⟨l',hl,h',hh,sz,hs,x',hx,rfl⟩:=hres;simp only [zk] at he;generalize hr:rd gc st x'=r at he;obtain ⟨v',p'⟩:=r;simp only at he;split at he
   ·rename_i h1;split at he
    ·rename_i h2 h3;simp only [w00,w05] at he;obtain ⟨rfl,rfl⟩:=he;exact zgO hu hs hop hx hl hh hr h1 h2 h3 hp
    ·simp at he
   ·split at he
    ·split at he
     ·rename_i h2 h3;simp only [w00,w05] at he;obtain ⟨rfl,rfl⟩:=he;exact zh9 hu hs hop hx hl hh hr h2 h3 hp
     ·simp at he
    ·split at he
     ·rename_i hk h2 h3;simp only [w00,w05] at he;obtain ⟨rfl,rfl⟩:=he;exact zgy hu hs hop hx hl hh hr h2 h3 hp hk
     ·simp at he
    ·simp at he
  ·simp at hres
 ·
  rename_i t x f hop;split at hres
  ·rename_i fs hu;simp only [w04,w01] at hres;obtain ⟨fd,hf,n,hn,hres⟩:=hres;split at hres
   ·simp at hres
   ·rename_i d hd;simp only [w01,w00] at hres;obtain ⟨x',hx,rfl⟩:=hres;simp only [zk] at he;split at he
    ·rename_i h1;split at he
     ·rename_i hag;split at he
      ·rename_i hle;simp only [w00,w05] at he;obtain ⟨rfl,rfl⟩:=he;exact zgh hu hf hn hag hop hx h1 hp hle
      ·simp at he
     ·rename_i hag;split at he
      ·rename_i hc;simp only [w00,w05] at he;obtain ⟨rfl,rfl⟩:=he;exact zgP hu hf hd (by simpa using hag) hop hx h1 hp hc
      ·simp at he
    ·simp at he
  ·simp at hres
 ·
  rename_i t parts hop;split at hres
  ·rename_i fs hu;simp only [w04,w01,w00] at hres;obtain ⟨pl,hpl,zs,hz,ps',hps,rfl⟩:=hres;simp only [zk] at he;split at he
   ·rename_i hf;simp only [w00,w05] at he;obtain ⟨rfl,rfl⟩:=he;exact zah hop hz (.inl ⟨fs,pl,hu,hpl,hps⟩) hf hp
   ·simp at he
  ·rename_i m e hu;simp only [w04,w01,w00] at hres;obtain ⟨sz,hs,zs,hz,ps',hps,rfl⟩:=hres;simp only [zk] at he;split at he
   ·rename_i hf;simp only [w00,w05] at he;obtain ⟨rfl,rfl⟩:=he;exact zah hop hz (.inr ⟨m,e,sz,hu,hs,hps⟩) hf hp
   ·simp at he
  ·simp at hres
 ·
  rename_i f first caps hop;split at hres
  ·rename_i hfirst;simp only [w04,w01,w00] at hres;obtain ⟨caps',hc,rfl⟩:=hres;simp only [zk] at he;split at he
   ·rename_i hcs;simp only [w00,w05] at he;obtain ⟨rfl,rfl⟩:=he;exact zg8 hop hfirst hc hcs
   ·simp at he
  ·simp at hres
 ·simp only [w04,w01,w00] at hres;obtain ⟨_,_,rfl⟩:=hres;simp [zk] at he
 ·simp only [w04,w01,w00] at hres;obtain ⟨_,_,_,_,rfl⟩:=hres;simp [zk] at he
 ·split at hres
  ·simp only [w04,w01] at hres;obtain ⟨_,_,_,_,_,_,hres⟩:=hres;split at hres
   ·simp only [w01,w00] at hres;obtain ⟨_,_,rfl⟩:=hres;simp [zk] at he
   ·simp at hres
  ·simp at hres
 ·
  rename_i x ix hop;simp only [w04,w01,w00] at hres;obtain ⟨x',hx,rfl⟩:=hres;simp only [zk] at he;split at he
  ·rename_i h1;split at he
   ·rename_i hv;simp only [w00,w05] at he;obtain ⟨rfl,rfl⟩:=he;exact zhl hop hx h1 hp hv
   ·simp at he
  ·simp at he
 ·split at hres
  ·simp at hres;subst hres;simp [zk] at he
  ·simp at hres
 ·split at hres
  ·simp only [w04,w01] at hres;obtain ⟨_,_,hres⟩:=hres;split at hres
   ·simp only [w01,w00] at hres;obtain ⟨_,_,rfl⟩:=hres;simp [zk] at he
   ·simp at hres
  ·simp at hres
 ·
  rename_i args ats hop;split at hres
  ·rename_i t x hat ha;split at hres
   ·rename_i hu;simp only [w04,w01,w00] at hres;obtain ⟨x',hx,rfl⟩:=hres;simp only [zk] at he;split at he
    ·rename_i h1;simp only [w00,w05] at he;obtain ⟨rfl,rfl⟩:=he;exact z5a ha hat hu (.inl Z) hop hx h1 hp (.inl ⟨rfl,_,rfl,rfl⟩)
    ·simp at he
   ·rename_i hu;simp only [w04,w01,w00] at hres;obtain ⟨x',hx,rfl⟩:=hres;simp only [zk] at he;split at he
    ·rename_i h1;simp only [w00,w05] at he;obtain ⟨rfl,rfl⟩:=he;exact z5a ha hat hu (.inr ⟨_,rfl⟩) hop hx h1 hp (.inr ⟨⟨_,rfl⟩,.inl ⟨_,rfl,rfl⟩⟩)
    ·rename_i h1;simp only [w00,w05] at he;obtain ⟨rfl,rfl⟩:=he;exact z5a ha hat hu (.inr ⟨_,rfl⟩) hop hx h1 hp (.inr ⟨⟨_,rfl⟩,.inl ⟨_,rfl,rfl⟩⟩)
    ·rename_i h1;simp only [w00,w05] at he;obtain ⟨rfl,rfl⟩:=he;exact z5a (n:=0) ha hat hu (.inr ⟨_,rfl⟩) hop hx h1 hp (.inr ⟨⟨_,rfl⟩,.inl ⟨[],rfl,rfl⟩⟩)
    ·rename_i h1;simp only [w00,w05] at he;obtain ⟨rfl,rfl⟩:=he;exact z5a ha hat hu (.inr ⟨_,rfl⟩) hop hx h1 hp (.inr ⟨⟨_,rfl⟩,.inr ⟨_,_,_,rfl⟩⟩)
    ·rename_i h1;split at he
     ·rename_i hk;simp only [w00,w05] at he;obtain ⟨rfl,rfl⟩:=he;exact zf7 ha hat hu hop hx h1 (fun q hq=>hp q (by simp [hq])) hk (zDT (hp _ (by simp)))
     ·simp at he
    ·rename_i h1;simp only [w00,w05] at he;obtain ⟨rfl,rfl⟩:=he;exact z5a ha hat hu (.inr ⟨_,rfl⟩) hop hx h1 hp (.inr ⟨⟨_,rfl⟩,.inl ⟨_,rfl,rfl⟩⟩)
    ·simp at he
   ·simp only [w04,w01,w00] at hres;obtain ⟨_,_,rfl⟩:=hres;simp [zk] at he
   ·simp at hres
  ·simp at hres
 ·
  rename_i args _ hop;split at hres
  ·rename_i x y ha;simp only [w04,w01,w00] at hres;obtain ⟨x',hx,y',hy,rfl⟩:=hres;simp only [zk] at he;split at he
   ·rename_i h1 h2;split at he
    ·rename_i hk;subst hk;simp only [w00,w05] at he;obtain ⟨rfl,rfl⟩:=he;exact zfh (b:=true) ha hop hx hy h1 h2 hp
    ·simp at he
   ·simp at he
  ·simp at hres
 ·
  rename_i args _ hop;split at hres
  ·rename_i x y ha;simp only [w04,w01,w00] at hres;obtain ⟨x',hx,y',hy,rfl⟩:=hres;simp only [zk] at he;split at he
   ·rename_i h1 h2;split at he
    ·rename_i hk;subst hk;simp only [w00,w05] at he;obtain ⟨rfl,rfl⟩:=he;have:=zfh (P:=P) (b:=false) ha hop hx hy h1 h2 hp;simpa using this
    ·simp at he
   ·simp at he
  ·simp at hres
 ·split at hres
  ·split at hres
   ·split at hres
    ·simp only [w04,w01] at hres;obtain ⟨_,_,_,_,hres⟩:=hres;split at hres
     ·simp at hres
     ·simp only [w01,w00] at hres;obtain ⟨_,_,_,_,rfl⟩:=hres;simp [zk] at he
    ·simp at hres
   ·simp at hres
  ·simp at hres
 ·split at hres
  ·cases hres
  ·simp only [w04,w01,w00] at hres;obtain ⟨_,_,rfl⟩:=hres;simp [zk] at he
 ·simp only [w04,w01,w00] at hres;obtain ⟨_,_,rfl⟩:=hres;simp [zk] at he
 ·split at hres
  ·simp only [w04,w01,w00] at hres;obtain ⟨_,_,rfl⟩:=hres;simp [zk] at he
  ·simp at hres
 ·simp at hres
end
def zQ (l:Nat->Lab) (b:Nat) (x:Lab):Nat->Lab:=fun b'=>if b'=b then x else l b'
def ZG (f:Nat->Nat) (k n:Nat):Nat->Nat:=fun k'=>if k'=k then n else f k'
theorem zq {l:Nat->Lab} {b:Nat} {x:Lab}:zQ l b x b=x:=by simp [zQ]
theorem zx {l:Nat->Lab} {b b':Nat} {x:Lab} (h:b'≠b):zQ l b x b'=l b':=by simp [zQ,h]
theorem z4x {f:Nat->Nat} {k n:Nat}:ZG f k n k=n:=by simp [ZG]
theorem qg {f:Nat->Nat} {k k' n:Nat} (h:k'≠k):ZG f k n k'=f k':=by simp [ZG,h]
structure yK (w w':World) (o:Obj):Prop where
 os:w'.os=w.os
 tape:w'.tape=w.tape
 output:w'.output=w.output
 heap:w'.heap=w.heap.push o
theorem yK.size {w w':World} {o:Obj} (g:yK w w' o):w'.heap.size=w.heap.size+1:=by rw [g.heap];simp
theorem yK.old {w w':World} {o:Obj} (g:yK w w' o) {b:Nat} (h:b<w.heap.size):w'.heap[b]?=w.heap[b]?:=by
 rw [g.heap,Array.getElem?_push];simp;omega
theorem yK.top {w w':World} {o:Obj} (g:yK w w' o):w'.heap[w.heap.size]?=some o:=by rw [g.heap];simp
theorem yK.alloc (w:World) (o:Obj):yK w (w.alloc o) o:=⟨rfl,rfl,rfl,rfl⟩
theorem yK.wB (w:World) (o:Obj):yK w (w.drew.alloc o) o:=⟨rfl,rfl,rfl,rfl⟩
structure Z7 (Λ Λ':L):Prop where
 fob:∀b k i,Λ'.lab b= .fob k i↔Λ.lab b= .fob k i
 far:∀b k i n,Λ'.lab b= .far k i n↔Λ.lab b= .far k i n
 frf:Λ'.frf=Λ.frf
 hob:∀b k i,Λ.lab b= .fob k i->Λ'.w.heap[b]?=Λ.w.heap[b]?
 har:∀b k i n,b<Λ.w.heap.size->Λ.lab b= .far k i n->Λ'.w.heap[b]?=Λ.w.heap[b]?
theorem Z7.refl (Λ:L):Z7 Λ Λ:=⟨fun _ _ _=>Iff.rfl,fun _ _ _ _=>Iff.rfl,rfl,fun _ _ _ _=>rfl,fun _ _ _ _ _ _=>rfl⟩
theorem Z7.trans {A B C:L} (h:Z7 A B) (k:Z7 B C) (hs:A.w.heap.size<=B.w.heap.size):Z7 A C:=
 ⟨fun b j i=>(k.fob b j i).trans (h.fob b j i),fun b j i n=>(k.far b j i n).trans (h.far b j i n),k.frf.trans h.frf,fun b j i e=>(k.hob b j i ((h.fob b j i).2 e)).trans (h.hob b j i e),
  fun b j i n hb e=>(k.har b j i n (w08 hb hs) ((h.far b j i n).2 e)).trans (h.har b j i n hb e)⟩
theorem Kp.old {Λ Λ':L} (F:Z7 Λ Λ') (os:Λ'.w.os=Λ.w.os) (tape:Λ'.w.tape=Λ.w.tape) (output:Λ'.w.output=Λ.w.output) (size:Λ.w.heap.size<=Λ'.w.heap.size)
  (fix:∀b,b<Λ.w.heap.size->∀fr,Λ.lab b= .fix fr->Λ'.lab b= .fix fr/\Λ'.w.heap[b]?=Λ.w.heap[b]?)
  (arr:∀b,b<Λ.w.heap.size->∀k fr,Λ.lab b= .arr k fr->∀o,o<fr->Rd Λ'.lab b o/\Λ'.w.cell? ⟨b,o,none⟩=Λ.w.cell? ⟨b,o,none⟩)
  (nxt:Λ.nxt<=Λ'.nxt) (obj:∀b k,k<Λ.nxt->Λ.lab b= .obj k->Λ'.lab b= .obj k)
  (own:∀b k n,k<Λ.nxt->b<Λ.w.heap.size->Λ.lab b= .arr k n->Λ'.fro k=Λ.fro k->Λ'.lab b= .arr k n/\Λ'.w.heap[b]?=Λ.w.heap[b]?)
  (fro:∀k,k<Λ.nxt->Λ.fro k<=Λ'.fro k):Kp Λ Λ':=
 ⟨⟨os,tape,output,size,fix,arr,fun b hb k i fr hl o ho=>⟨by simp [Rd,(F.far b k i fr).2 hl,ho],cell?_heap (F.har b k i fr hb hl)⟩⟩,nxt,obj,own,fro,
  fun b k i _ hl=>⟨(F.fob b k i).2 hl,fun N hN=>by unfold Zl at hN⊢;rw [F.hob b k i hl];exact hN⟩,
  fun b k i n _ hb hl _=>⟨(F.far b k i n).2 hl,F.har b k i n hb hl⟩,fun k i _=>by rw [F.frf];exact w09 _,fun b k i _ _ _ hl=>(F.fob b k i).1 hl⟩
def Lab.old:Lab->Bool
 | .fob _ _=>false
 | .far _ _ _=>false
 |_=>true
theorem Z7.relabel {Λ Λ':L} {b:Nat} {X:Lab} (hl:Λ'.lab=GB.zQ Λ.lab b X) (hX:X.old=true) (hb:(Λ.lab b).old=true) (hf:Λ'.frf=Λ.frf)
  (hh:∀c,c<Λ.w.heap.size->c≠b->Λ'.w.heap[c]?=Λ.w.heap[c]?) (hn:∀c,Λ.w.heap.size<=c->Λ.lab c= .fix none):Z7 Λ Λ':=by
 have lt:∀{c:Nat},Λ.lab c≠ .fix none->c<Λ.w.heap.size:=fun {c} h=>by
  rcases w1a c Λ.w.heap.size with h'|h'
  ·exact h'
  ·exact absurd (hn c h') h
 refine ⟨fun c k i=>?_,fun c k i n=>?_,hf,fun c k i e=>?_,fun c k i n _ e=>?_⟩
 ·rw [hl];by_cases e:c=b
  ·subst e;rw [zq]
   exact ⟨fun h=>by rw [h] at hX;simp [Lab.old] at hX,fun h=>by rw [h] at hb;simp [Lab.old] at hb⟩
  ·rw [zx e]
 ·rw [hl];by_cases e:c=b
  ·subst e;rw [zq]
   exact ⟨fun h=>by rw [h] at hX;simp [Lab.old] at hX,fun h=>by rw [h] at hb;simp [Lab.old] at hb⟩
  ·rw [zx e]
 ·exact hh c (lt (by rw [e];simp)) (fun e'=>by subst e';rw [e] at hb;simp [Lab.old] at hb)
 ·exact hh c (lt (by rw [e];simp)) (fun e'=>by subst e';rw [e] at hb;simp [Lab.old] at hb)
theorem Z7.same {Λ Λ':L} {b:Nat} (hl:Λ'.lab=Λ.lab) (hb:(Λ.lab b).old=true) (hf:Λ'.frf=Λ.frf) (hh:∀c,c≠b->Λ'.w.heap[c]?=Λ.w.heap[c]?):Z7 Λ Λ':=by
 refine ⟨fun c k i=>by rw [hl],fun c k i n=>by rw [hl],hf,fun c k i e=>hh c ?_,fun c k i n _ e=>hh c ?_⟩<;>(rintro rfl;rw [e] at hb;simp [Lab.old] at hb)
theorem Z7.new {Λ:L} {w':World} {o:Obj} (g:yK Λ.w w' o) (hb:∀b,Λ.w.heap.size<=b->Λ.lab b= .fix none) (X:Lab) (hX:X.old=true):
  Z7 Λ {Λ with lab:=zQ Λ.lab Λ.w.heap.size X,w:=w'}:=
 Z7.relabel rfl hX (by rw [hb _ (w09 _)];rfl) rfl (fun c hc _=>g.old hc) hb
theorem Kp.new {Λ:L} {w':World} {o:Obj} (g:yK Λ.w w' o) (hb:∀b,Λ.w.heap.size<=b->Λ.lab b= .fix none) (X:Lab) (hX:X.old=true:=by rfl):
  Kp Λ {Λ with lab:=zQ Λ.lab Λ.w.heap.size X,w:=w'}:=by
 have hne:∀{b:Nat},b<Λ.w.heap.size->zQ Λ.lab Λ.w.heap.size X b=Λ.lab b:=fun h=>zx (by omega);refine Kp.old (Z7.new g hb X hX) g.os g.tape g.output (by rw [g.size];omega) (fun b h fr hl=>⟨by simp only [hne h];exact hl,g.old h⟩) (fun b h k fr hl o ho=>⟨?_,cell?_heap (g.old h)⟩) (w09 _) (fun b k _ hl=>?_) (fun b k n _ h hl _=>⟨by simp only [hne h];exact hl,g.old h⟩) (fun k _=>w09 _)
 ·simp only [Rd,hne h,hl];exact ho
 ·have:b<Λ.w.heap.size:=by
   rcases w1a b Λ.w.heap.size with h|h
   ·exact h
   ·rw [hb b h] at hl;simp at hl
  simp only [hne this];exact hl
theorem Z7.ZG {Λ:L} {k n:Nat}:Z7 Λ {Λ with fro:=GB.ZG Λ.fro k n}:=⟨fun _ _ _=>Iff.rfl,fun _ _ _ _=>Iff.rfl,rfl,fun _ _ _ _=>rfl,fun _ _ _ _ _ _=>rfl⟩
theorem Kp.ZG {Λ:L} {k n:Nat} (hn:Λ.fro k<=n):Kp Λ {Λ with fro:=ZG Λ.fro k n}:=by
 refine ⟨Fr.refl _ _,w09 _,fun _ _ _ h=>h,fun b j m _ _ hl _=>⟨hl,rfl⟩,fun j _=>?_,fun _ _ _ _ h=>⟨h,fun _ h=>h⟩,fun _ _ _ _ _ _ h _=>⟨h,rfl⟩,fun _ _ _=>w09 _,fun _ _ _ _ _ _ h=>h⟩;by_cases e:j=k
 ·subst e;simp [GB.ZG,hn]
 ·simp [GB.ZG,e]
theorem Z7.left {Λ:L} {b k fr n:Nat} (hb:Λ.lab b= .arr k fr):Z7 Λ {Λ with lab:=zQ Λ.lab b (.fix (some fr)),fro:=GB.ZG Λ.fro k n}:=by
 refine ⟨fun c j i=>?_,fun c j i m=>?_,rfl,fun _ _ _ _=>rfl,fun _ _ _ _ _ _=>rfl⟩
 ·by_cases e:c=b
  ·subst e;simp [zq,hb]
  ·simp only [zx e]
 ·by_cases e:c=b
  ·subst e;simp [zq,hb]
  ·simp only [zx e]
theorem Kp.left {Λ:L} {b k fr n:Nat} (hb:Λ.lab b= .arr k fr) (hn:Λ.fro k<n):
  Kp Λ {Λ with lab:=zQ Λ.lab b (.fix (some fr)),fro:=GB.ZG Λ.fro k n}:=by
 refine Kp.old (Z7.left hb) Z Z Z (w09 _) (fun c _ f hl=>⟨?_,rfl⟩) (fun c _ j f hl o ho=>⟨?_,rfl⟩) (w09 _) (fun c j _ hl=>?_) (fun c j m _ _ hl hf=>?_) (fun j _=>?_)
 ·have:c≠b:=by rintro rfl;rw [hb] at hl;simp at hl
  simp only [zx this];exact hl
 ·by_cases e:c=b
  ·subst e;rw [hb] at hl;simp at hl;obtain ⟨rfl,rfl⟩:=hl;simp [Rd,zQ,ho]
  ·simp only [Rd,zx e,hl];exact ho
 ·have:c≠b:=by rintro rfl;rw [hb] at hl;simp at hl
  simp only [zx this];exact hl
 ·by_cases e:j=k
  ·subst e;simp [GB.ZG] at hf;omega
  ·have:c≠b:=by rintro rfl;rw [hb] at hl;simp at hl;exact e hl.1.symm
   exact ⟨by simp only [zx this];exact hl,rfl⟩
 ·by_cases e:j=k
  ·subst e;simp [GB.ZG];omega
  ·simp [GB.ZG,e]
structure YH (w w':World) (b:Nat):Prop where
 os:w'.os=w.os
 tape:w'.tape=w.tape
 output:w'.output=w.output
 size:w'.heap.size=w.heap.size
 old:∀c,c≠b->w'.heap[c]?=w.heap[c]?
theorem YH.setRow (w:World) (b:Nat) (cs:Array Value):YH w (w.setRow b cs) b:=⟨rfl,rfl,rfl,by simp,fun c hc=>setRow_other w b c cs hc⟩
theorem Z7.wrote {Λ:L} {w':World} {b k:Nat} (g:YH Λ.w w' b) (hb:Λ.lab b= .obj k):Z7 Λ {Λ with w:=w'}:=
 Z7.same (b:=b) rfl (by rw [hb];rfl) rfl fun c hc=>g.old c hc
theorem Kp.wrote {Λ:L} {w':World} {b k:Nat} (g:YH Λ.w w' b) (hb:Λ.lab b= .obj k):Kp Λ {Λ with w:=w'}:=by
 have hne:∀{c:Nat} {x:Lab},Λ.lab c=x->(∀j,x≠ .obj j)->c≠b:=fun h hx e=>hx k (by rw [←h,e,hb])
 exact Kp.old (Z7.wrote g hb) g.os g.tape g.output (by rw [g.size];exact w09 _) (fun c _ fr hl=>⟨hl,g.old c (hne hl (by simp))⟩) (fun c _ j fr hl o ho=>⟨by simp [Rd,hl,ho],cell?_heap (g.old c (hne hl (by simp)))⟩) (w09 _) (fun _ _ _ h=>h) (fun c j n _ _ hl _=>⟨hl,g.old c (hne hl (by simp))⟩) (fun _ _=>w09 _)
theorem Z7.grown {Λ:L} {w':World} {b k fr fr' n:Nat} (g:YH Λ.w w' b) (hb:Λ.lab b= .arr k fr):Z7 Λ {Λ with lab:=zQ Λ.lab b (.arr k fr'),fro:=GB.ZG Λ.fro k n,w:=w'}:=by
 refine ⟨fun c j i=>?_,fun c j i m=>?_,rfl,fun c j i e=>g.old c ?_,fun c j i m _ e=>g.old c ?_⟩
 ·by_cases e:c=b
  ·subst e;simp [zq,hb]
  ·simp only [zx e]
 ·by_cases e:c=b
  ·subst e;simp [zq,hb]
  ·simp only [zx e]
 ·rintro rfl;rw [hb] at e;simp at e
 ·rintro rfl;rw [hb] at e;simp at e
theorem Kp.grown {Λ:L} {w':World} {b k fr fr' n:Nat} (g:YH Λ.w w' b) (hb:Λ.lab b= .arr k fr) (hfr:fr<=fr') (hc:∀o,o<fr->w'.cell? ⟨b,o,none⟩=Λ.w.cell? ⟨b,o,none⟩) (hn:Λ.fro k<n):
  Kp Λ {Λ with lab:=zQ Λ.lab b (.arr k fr'),fro:=GB.ZG Λ.fro k n,w:=w'}:=by
 refine Kp.old (Z7.grown g hb) g.os g.tape g.output (by rw [g.size];exact w09 _) (fun c _ f hl=>?_) (fun c _ j f hl o ho=>?_) (w09 _) (fun c j _ hl=>?_) (fun c j m _ _ hl hf=>?_) (fun j _=>?_)
 ·have:c≠b:=by rintro rfl;rw [hb] at hl;simp at hl
  exact ⟨by simp only [zx this];exact hl,g.old c this⟩
 ·by_cases e:c=b
  ·subst e;rw [hb] at hl;simp at hl;obtain ⟨rfl,rfl⟩:=hl
   exact ⟨by simp [Rd,zQ];omega,hc o ho⟩
  ·exact ⟨by simp only [Rd,zx e,hl];exact ho,cell?_heap (g.old c e)⟩
 ·have:c≠b:=by rintro rfl;rw [hb] at hl;simp at hl
  simp only [zx this];exact hl
 ·by_cases e:j=k
  ·subst e;simp [GB.ZG] at hf;omega
  ·have:c≠b:=by rintro rfl;rw [hb] at hl;simp at hl;exact e hl.1.symm
   exact ⟨by simp only [zx this];exact hl,g.old c this⟩
 ·by_cases e:j=k
  ·subst e;simp [GB.ZG];omega
  ·simp [GB.ZG,e]
theorem zT.step {Λ Λ':L} {s s':S} (h:zT Λ s) (hk:Kp Λ Λ') (hx:Λ'.nxt=Λ.nxt)
  (hsto:∀k o,zj s'.sto k=some o->(zj s.sto k=some o/\(∀b,Λ.lab b= .obj k->Λ'.w.heap[b]?=Λ.w.heap[b]?)/\Λ'.fro k=Λ.fro k)∨(k<Λ.nxt/\qd Λ' k o))
  (hinj:∀b b' k,Λ'.lab b= .obj k->Λ'.lab b'= .obj k->b=b') (hnew:∀b,Λ'.w.heap.size<=b->Λ'.lab b= .fix none)
  (hbnd:∀b k,(Λ'.lab b= .obj k∨∃n,Λ'.lab b= .arr k n)->k<Λ.nxt) (hfrz:∀k,Λ.nxt<=k->Λ'.fro k=0) (F:Z7 Λ Λ'):zT Λ' s':=by
 refine ⟨fun k o hko=>?_,hinj,hnew,fun b k hb=>by rw [hx];exact hbnd b k hb,fun k hk'=>hfrz k (by rw [←hx];exact hk'),fun b b' k i e1 e2=>h.YX b b' k i ((F.fob ..).1 e1) ((F.fob ..).1 e2),fun b k hb=>?_,fun k i hk'=>by rw [F.frf];exact h.z2g k i (by rw [←hx];exact hk')⟩
 rotate_left
 ·rw [hx];refine h.Yu b k ?_
  rcases hb with ⟨i,hb⟩|⟨i,n,hb⟩
  ·exact .inl ⟨i,(F.fob ..).1 hb⟩
  ·exact .inr ⟨i,n,(F.far ..).1 hb⟩
 rcases hsto k o hko with ⟨h1,h2,h3⟩|⟨h1,h2⟩
 ·obtain ⟨a1,a2⟩:=h.sto k o h1
  exact ⟨by rw [hx];exact a1,a2.mono hk a1 h2 h3 (fun b i=>F.hob b k i) (fun b i=>(F.fob b k i).1) (fun i=>by rw [F.frf])⟩
 ·exact ⟨by rw [hx];exact h1,h2⟩
theorem ZU.ZX {Λ Λ':L} {k:Nat} (h:ZU Λ k) (F:Z7 Λ Λ') (ho:∀b,Λ'.lab b≠ .obj k) (ha:∀b n,Λ'.lab b≠ .arr k n) (hf:Λ'.fro k=0):ZU Λ' k:=
 ⟨ho,ha,hf,fun b i e=>h.fob b i ((F.fob ..).1 e),fun b i n e=>h.far b i n ((F.far ..).1 e),fun i=>by rw [F.frf];exact h.frf i⟩
def zM (P:Program) (o:Oper) (base:Nat) (st:St) (out:Out):Prop:=
 ∀(C:Ctx) (Λ:L) (a:Act) (next:Act->World->Prop) (Q:Exit->Act->World->Prop),C.P=P->Rel C Λ st a->base+out.n<=Λ.nxt->(∀k,base<=k->k<base+out.n->k<Λ.nxt/\ZU Λ k/\zj st.s.sto k=none)->
  (∀v Λ',Kp Λ Λ'->Λ'.nxt=Λ.nxt->zT Λ' (st.s.app out)->zr Λ' v out.v->(∀k,ZU Λ k->zj st.s.sto k=none->(base+out.n<=k∨(k<base/\out.rd=false))->ZU Λ' k)->next (a.put o.dst v) Λ'.w)->
  o.wp P a Λ.w next Q
section
variable {P:Program} {o:Oper} {base:Nat} {st:St}
theorem S.z69 {s:S} {v:V} {r:Bool}:s.app {v:=v,rd:=r}=s:=rfl
theorem zM.zg6 {x:V} {r:Bool} (h:zD P o true st x):zM P o base st {v:=x,rd:=r}:=by
 intro C Λ a next Q hC hr _ _ hn;obtain ⟨v,h1,h2⟩:=h C Λ a hC rfl hr;unfold Oper.wp;rw [h1];exact hn v Λ (Kp.refl _) Z hr.s h2 (fun _ h _ _=>h)
theorem zr.Q1 {Λ:L} {v:Value} {x:V} (h:zr Λ v x) (hx:x.Zm=true):v.oneCell'=true:=by
 cases h with
 |t h=>cases h<;>rfl
 |zC=>rfl
 |own h _ _ _ _=>cases h;rfl
 |slc _ _ _=>rfl
 |agg _ _=>simp [V.Zm] at hx
 |tup _ _=>simp [V.Zm] at hx
 |ptr _ _=>rfl
 |mp _ _=>rfl
 |fn _ _=>rfl
 |gd _ _=>simp [V.Zm] at hx
 |top=>simp [V.Zm] at hx
 |ub _ _=>simp [V.Zm] at hx
 |fpt _ _=>rfl
 |gpt hv _ _ _=>obtain ⟨_,rfl⟩:=hv;rfl
 |gsl hv _ _ _=>obtain ⟨_,_,_,rfl⟩:=hv;rfl
 |fow h _ _ _ _=>cases h;rfl
theorem QR:∀(us:List V) (cs:List V) (off j:Nat),off+us.length<=cs.length->(setAt cs off us)[j]?=if off<=j/\j<off+us.length then us[j - off]? else cs[j]?
 |[],cs,off,j,_=>by simp [setAt];omega
 |u::us,cs,off,j,h=>by
  simp only [setAt];rw [QR us (cs.set off u) (off+1) j (by simp at h⊢;omega)];simp only [w0d] at h⊢;by_cases h1:off+1<=j/\j<off+1+us.length
  ·rw [w0e h1,w0e (by omega)]
   have:j - off=(j - (off+1))+1:=by omega
   rw [this];simp
  ·rw [w0g h1,w1q];by_cases h2:off=j
   ·subst h2;rw [w0e rfl,w0e (by omega),w0e (by omega)];simp
   ·rw [w0g h2,w0g (by omega)]
theorem zew {t:TypeId} {x y:Operand} {x' y':Ar} {n k off:Nat} {cs vs:List V} (ho:o.op= .store t x y) (hn:ZF P t=some n) (hx:opA x=some x') (hy:opA y=some y')
  (hxv:x'.u st= .ptr k off) (hk:zj st.s.sto k=some (.cells cs)) (hvs:(y'.u st).parts=some vs) (hl:vs.length=n/\off+n<=cs.length) (hok:vs.all V.Zm=true):
  zM P o base st {v:= .top,ob:=[(k,.cells (setAt cs off vs))],rd:=true}:=by
 intro C Λ a next Q hC hr _ _ hnext;have hx1:=hr.opu hx;have hy1:=(hr.opu hy).parts hvs;rw [hxv] at hx1;generalize hv:a.eval x=v at hx1
 cases hx1 with
 |@ptr b _ _ hkn hb=>
  obtain ⟨arr,e,h2,h3,h4⟩:=hr.s.Qw hk hb
  have hone:∀u∈(a.eval y).cells.toList,u.oneCell'=true:=by
   intro u hu;obtain ⟨j,hj⟩:=w0v.1 hu
   have hj':(a.eval y).cells[j]?=some u:=by simpa using hj
   have hlt:j<vs.length:=by rw [←hy1.1];exact (w1s.1 hj').1
   have:=hy1.2 j u vs[j] hj' (by simp [hlt]);exact this.Q1 (by rw [w0i] at hok;exact hok _ (List.getElem_mem hlt))
  have hsz:(a.eval y).cells.size=n:=by rw [hy1.1];exact hl.1
  have hst:=run_storeCells_at P b off e (a.eval y).cells.toList 0 arr Λ.w h2 (by simp [hsz];omega) hone;simp only [w1w] at hst
  have hrun:(execOp a.eval o).run P Λ.w= .ok .skip (Λ.w.setRow b (arr.toList.take off++(a.eval y).cells.toList++arr.toList.drop (off+(a.eval y).cells.toList.length)).toArray):=by
   simp only [execOp,ho,hv];simp [Instr.storeAt,Instr.sureAddr,storeVar,yI hn,hsz,hst]
  unfold Oper.wp;rw [hrun]
  have hkp:Kp Λ {Λ with w:=Λ.w.setRow b (arr.toList.take off++(a.eval y).cells.toList++arr.toList.drop (off+(a.eval y).cells.toList.length)).toArray}:=Kp.wrote (YH.setRow _ _ _) hb
  have hF:Z7 Λ {Λ with w:=Λ.w.setRow b (arr.toList.take off++(a.eval y).cells.toList++arr.toList.drop (off+(a.eval y).cells.toList.length)).toArray}:=Z7.wrote (YH.setRow _ _ _) hb
  refine hnext undef _ hkp Z ?_ .top (fun k h _ _=>h.ZX hF h.obj h.arr h.fro);refine hr.s.step hkp Z (fun j ob hj=>?_) hr.s.inj (fun c hc=>hr.s.new c (by simpa using hc)) hr.s.bnd hr.s.frz hF;simp only [S.app,Zf] at hj;rw [Zb] at hj;split at hj
  ·rename_i e;subst e;simp at hj;subst hj;refine .inr ⟨hkn,b,_,e,hb,setRow_heap _ _ _ _ _ _ h2,?_,?_⟩
   ·simp [YK,hsz];omega
   ·intro j u c hu hc;rw [QR _ _ _ _ (by omega)] at hc
    have hu':(arr.toList.take off++(a.eval y).cells.toList++arr.toList.drop (off+(a.eval y).cells.toList.length))[j]?=some u:=by simpa using hu
    have hln:(a.eval y).cells.toList.length=n:=by simpa using hsz
    have hlt:(arr.toList.take off).length=off:=by simp;omega
    split at hc
    ·rename_i hj;rw [w1g,w0b (by omega),hlt,w0a (by omega)] at hu';exact (hy1.2 _ u c (by simpa using hu') hc).mono hkp
    ·rename_i hj;refine (h4 j u c ?_ hc).mono hkp;by_cases hj1:j<off
     ·rw [w1g,w0a (by omega),w0p,w0e hj1] at hu';simpa using hu'
     ·rw [w0b (by simp;omega),w0z] at hu'
      have:off+(a.eval y).cells.toList.length+(j - (arr.toList.take off++(a.eval y).cells.toList).length)=j:=by simp;omega
      rw [this] at hu';simpa using hu'
  ·rename_i hne;refine .inl ⟨hj,fun c hc=>?_,rfl⟩
   have:c≠b:=by rintro rfl;rw [hb] at hc;simp at hc;exact hne hc
   exact setRow_other _ _ _ _ this
theorem z08 {Λ:L} {s:S} {w':World} {ob:Obj} {k:Nat} {ao:zd} (h:zT Λ s) (g:yK Λ.w w' ob) (hk:k<Λ.nxt) (hf:ZU Λ k) {Λ':L} (hΛ:Λ'={Λ with lab:=zQ Λ.lab Λ.w.heap.size (.obj k),w:=w'})
  (ho:qd Λ' k ao):
  Kp Λ Λ'/\zT Λ' {s with sto:=Ym s.sto k ao}/\∀j,ZU Λ j->j≠k->ZU Λ' j:=by
 subst hΛ;have hkp:=Kp.new g h.new (.obj k);have hF:=Z7.new g h.new (.obj k) rfl;refine ⟨hkp,h.step hkp Z (fun j ob' hj=>?_) (fun b b' j h1 h2=>?_) (fun b hb=>?_) (fun b j hb=>?_) h.frz hF,fun j hj hne=>hj.ZX hF (fun b hb=>?_) (fun b n hb=>?_) hj.fro⟩
 ·simp only at hj;rw [Zb] at hj;split at hj
  ·rename_i e;subst e;simp at hj;subst hj;exact .inr ⟨hk,ho⟩
  ·refine .inl ⟨hj,fun b hb=>g.old ?_,rfl⟩
   rcases w1a b Λ.w.heap.size with h'|h'
   ·exact h'
   ·rw [h.new b h'] at hb;simp at hb
 ·by_cases e1:b=Λ.w.heap.size
  ·by_cases e2:b'=Λ.w.heap.size
   ·omega
   ·simp only [zx e2] at h2;subst e1;simp only [zq] at h1;simp at h1;subst h1;exact absurd h2 (hf.obj b')
  ·simp only [zx e1] at h1;by_cases e2:b'=Λ.w.heap.size
   ·subst e2;simp only [zq] at h2;simp at h2;subst h2;exact absurd h1 (hf.obj b)
   ·simp only [zx e2] at h2;exact h.inj b b' j h1 h2
 ·simp only at hb⊢;rw [g.size] at hb;rw [zx (by omega)];exact h.new b (by omega)
 ·by_cases e:b=Λ.w.heap.size
  ·subst e;simp only [zq] at hb;rcases hb with hb|⟨n,hb⟩<;>simp at hb;omega
  ·simp only [zx e] at hb;exact h.bnd b j hb
 ·by_cases e:b=Λ.w.heap.size
  ·subst e;simp only [zq] at hb;simp at hb;exact hne hb.symm
  ·simp only [zx e] at hb;exact hj.obj b hb
 ·by_cases e:b=Λ.w.heap.size
  ·subst e;simp only [zq] at hb;simp at hb
  ·simp only [zx e] at hb;exact hj.arr b n hb
theorem zh7 {t:TypeId} {x:Operand} {x':Ar} {n:Nat} {vs:List V} (ho:o.op= .box t x) (hx:opA x=some x') (hvs:(x'.u st).parts=some vs):
  zM P o base st {v:= .ptr base 0,ob:=[(base,.cells vs)],n:=n+1}:=by
 intro C Λ a next Q hC hr hle hfree hnext;have hx1:=(hr.opu hx).parts hvs
 have hrun:(execOp a.eval o).run P Λ.w= .ok (.value (.pointer (some ⟨Λ.w.heap.size,0,none⟩))) (Λ.w.alloc (.cells (a.eval x).cells t)):=by
  simp only [execOp,ho];simp [Instr.box,newVar,newRow]
 unfold Oper.wp;rw [hrun];obtain ⟨hb1,hb2,hb3⟩:=hfree base (w09 _) (by simp);have g:=yK.alloc Λ.w (.cells (a.eval x).cells t);have hkp:=Kp.new g hr.s.new (.obj base)
 obtain ⟨k1,k2,k3⟩:=z08 hr.s g hb1 hb2 rfl (ao:= .cells vs) ⟨Λ.w.heap.size,_,_,by simp [zq],g.top,hx1.1,fun j v c e1 e2=>(hx1.2 j v c e1 e2).mono hkp⟩
 exact hnext _ _ k1 Z k2 (.ptr hb1 (by simp [zq])) (fun k hk _ hlt=>k3 k hk (by simp at hlt;omega))
theorem zep {t:TypeId} {zs:List V} (ho:o.op= .alloc t) (hz:ZP P t=some zs):zM P o base st {v:= .ptr base 0,ob:=[(base,.cells zs)],n:=1}:=by
 intro C Λ a next Q hC hr hle hfree hnext;obtain ⟨i,z,hi,hz1,hlen,hok⟩:=y5 hz
 have hrun:(execOp a.eval o).run P Λ.w= .ok (.value (.pointer (some ⟨Λ.w.heap.size,0,none⟩))) (Λ.w.alloc (.cells z.cells t)):=by
  simp only [execOp,ho];simp [Instr.alloc,zeroValue,typeInfo,hi,hz1,newVar,newRow]
 unfold Oper.wp;rw [hrun];obtain ⟨hb1,hb2,hb3⟩:=hfree base (w09 _) (by simp);have g:=yK.alloc Λ.w (.cells z.cells t);have hrc:=fun Λ':L=>yf (Λ:=Λ') hok
 obtain ⟨k1,k2,k3⟩:=z08 hr.s g hb1 hb2 rfl (ao:= .cells zs) ⟨Λ.w.heap.size,_,_,by simp [zq],g.top,(hrc Λ).1,fun j v c e1 e2=>(hrc _).2 j v c e1 e2⟩
 exact hnext _ _ k1 Z k2 (.ptr hb1 (by simp [zq])) (fun k hk _ hlt=>k3 k hk (by simp at hlt;omega))
end
end Go.GB
