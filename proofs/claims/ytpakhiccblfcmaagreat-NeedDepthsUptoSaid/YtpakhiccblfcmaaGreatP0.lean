/-
  YtpakhiccblfcmaaGreatP0: lemmas. No conditions.
-/
import Derived.Calls
import Derived.Orders
import Derived.Laws.World
import Derived.Lib.Bytealg
import Derived.Laws.Sem
import Derived.Laws.Tables
import Derived.Laws.Cells
import Derived.Laws.Rows
import Derived.Laws.Strings
import Derived.Lib.Strings
import Derived.Laws.AppendOwn
import Derived.Laws.CopyRow
import Derived.Laws.MakeOwn
set_option linter.all false
set_option maxRecDepth 100000
set_option maxHeartbeats 16000000
namespace Go.GB
theorem Z.{u} {α:Sort u} {a:α}:a=a:=rfl
theorem zLB {n m:Nat} (h:Nat.ble n m=true):n<=m:=Nat.le_of_ble_eq_true h
theorem zMG {α:Type} {l:List α} {i:Nat} {a:α} (h:l[i]?=some a):a∈l:=List.mem_of_getElem? h
theorem zDT {p:Prop} [s:Decidable p] (h:decide p=true):p:=of_decide_eq_true h
abbrev w00:=@Option.some.injEq
abbrev w01:=@Option.bind_eq_some_iff
abbrev w02:=@List.getElem?_eq_some_iff
abbrev w03:=@Option.bind_eq_bind
abbrev w04:=@Prod.mk.injEq
abbrev w05:=@Option.map_eq_some_iff
abbrev w06:=@Nat.lt_of_lt_of_le
abbrev w07:=@Nat.le_refl
abbrev w08:=@List.mem_cons_of_mem
abbrev w09:=@List.getElem?_eq_getElem
abbrev w0a:=@Bool.and_eq_true
abbrev w0b:=@List.length_cons
abbrev w0c:=@if_pos
abbrev w0d:=@if_neg
abbrev w0e:=@List.getD_eq_getElem?_getD
abbrev w0f:=@List.getElem?_map
abbrev w0g:=@List.length_append
abbrev w0h:=@List.getElem?_append_left
abbrev w0i:=@List.getElem?_append_right
abbrev w0j:=@Bool.not_or_self
abbrev w0k:=@Bool.false_eq_true
abbrev w0l:=@List.mem_cons_self
abbrev w0m:=@List.all_eq_true
abbrev w0n:=@decide_eq_true_eq
abbrev w0o:=@List.map_cons
abbrev w0p:=@List.getElem?_take
abbrev w0q:=@List.length_eq_zero_iff
abbrev w0r:=@if_false
abbrev w0s:=@Nat.eq_of_beq_eq_true
abbrev w0t:=@Nat.zero_add
abbrev w0u:=@Nat.le_trans
abbrev w0v:=@if_true
abbrev w0w:=@List.take_of_length_le
abbrev w0x:=@Nat.le_of_ble_eq_true
abbrev w0y:=@List.mem_iff_getElem?
abbrev w0z:=@List.getElem?_drop
abbrev w10:=@Nat.mul_le_mul_right
abbrev w11:=@List.take_add_one
abbrev w12:=@List.getElem?_eq_none
abbrev w13:=@Bool.true_and
abbrev w14:=@List.any_cons
abbrev w15:=@Bool.false_and
abbrev w16:=@List.length_nil
abbrev w17:=@List.mem_cons
abbrev w18:=@List.append_nil
abbrev w19:=@List.mem_append
abbrev w1a:=@List.mem_map
abbrev w1b:=@Nat.lt_or_ge
abbrev w1c:=@List.nodup_cons
abbrev w1d:=@Nat.add_mul
abbrev w1e:=@Nat.add_assoc
abbrev w1f:=@List.take_length
abbrev w1g:=@List.length_map
abbrev w1h:=@Int.le_refl
abbrev w1i:=@List.getElem?_set
abbrev w1j:=@List.flatten_cons
abbrev w1k:=@List.drop_eq_getElem_cons
abbrev w1l:=@List.mem_append_left
abbrev w1m:=@Array.length_toList
abbrev w1n:=@Array.getElem?_toList
abbrev w1o:=@Array.getD_eq_getD_getElem?
abbrev w1p:=@List.size_toArray
abbrev w1q:=@Array.getElem?_eq_some_iff
abbrev w1r:=@Array.getElem?_append_left
abbrev w1s:=@Nat.add_zero
abbrev w1t:=@List.foldl_cons
abbrev w1u:=@decide_eq_false_iff_not
abbrev w1v:=@List.ext_getElem?
abbrev w1w:=@List.append_assoc
abbrev w1x:=@Bool.false_or
abbrev w1y:=@List.nil_append
abbrev w1z:=@List.length_filter_le
abbrev w20:=@List.filter_cons
abbrev w21:=@Bool.or_eq_false_iff
abbrev w22:=@Bool.not_eq_true'
abbrev w23:=@List.cons_append
abbrev w24:=@Array.ext'
abbrev w25:=@Nat.add_comm
abbrev w26:=@List.findIdx?_eq_some_iff_getElem
abbrev w27:=@List.findIdx?_cons
abbrev w28:=@Array.getElem?_modify
abbrev w29:=@List.length_eraseIdx
abbrev w2a:=@List.mem_filter
abbrev w2b:=@Bool.eq_iff_iff
abbrev w2c:=@List.length_take
abbrev w2d:=@List.any_eq_true
abbrev w2e:=@Bool.not_false
abbrev w2f:=@List.getElem?_set_self
abbrev w2g:=@List.drop_eq_nil_of_le
abbrev w2h:=@Option.map_none
abbrev w2i:=@Bool.true_or
abbrev w2j:=@Bool.or_eq_true
abbrev w2k:=@List.length_range
abbrev w2l:=@Bool.and_true
abbrev w2m:=@Array.size_append
abbrev w2n:=@List.getElem?_set_ne
abbrev w2o:=@List.mem_range
abbrev w2p:=@Array.getElem?_eq_getElem
abbrev w2q:=@Option.getD_some
abbrev w2r:=@Nat.lt_succ_self
inductive T where
 |bool (b:Bool)
 |int (k:IntKind) (n:Int)
 |str (s:List UInt8)
 |lst (xs:List (List T))
 |ptr (cs:List T)
 |fn (f:FuncId)
 |z11
 |QB
 |z3I
inductive V where
 |t (x:T)
 |zJ
 |own (k sz:Nat) (xs:List (List T))
 |slc (k off len sz:Nat)
 |agg (cs:List V)
 |tup (vs:List V)
 |ptr (k off:Nat)
 |mp (k:Nat)
 |fn (f:FuncId) (caps:List (Nat×Nat))
 |gd (c:Bool) (x:V)
 |top
 |ub (c d:Prop)
 |fpt (k i off:Nat)
 |gpt (k ver off:Nat)
 |gsl (k ver off len sz:Nat)
 |fow (k i sz:Nat) (xs:List (List T))
inductive z5 where
 |cells (cs:List V)
 |map (kag:Bool) (es:List (List T×V)) (st:Option (Nat×List Nat))
 |arr (n:Nat)
 |iter (q since:Nat) (seen:List Nat) (last:Nat)
 |gro (r:Nat) (cs:List V)
 |wo (os:List (List V))
 |Ya (ns:List Nat)
 |WM (kag:Bool) (I:List T->T->Prop)
inductive Lab where
 |fix (fr:Option Nat)
 |obj (k:Nat)
 |arr (k fr:Nat)
 |fob (k i:Nat)
 |far (k i fr:Nat)
structure L where
 lab:Nat->Lab
 fro:Nat->Nat
 nxt:Nat
 w:World
 frf:Nat->Nat->Nat
def ZG (w:World) (b:Nat):Option Nat:=
 match w.heap[b]? with
 |some (.cells arr _ _)=>some arr.size
 |_=>none
def Rd (l:Nat->Lab) (b o:Nat):Prop:=
 match l b with
 | .fix none=>True
 | .fix (some fr)=>o<fr
 | .arr _ fr=>o<fr
 | .obj _=>False
 | .far _ _ fr=>o<fr
 | .fob _ _=>False
inductive zR (l:Nat->Lab) (w:World):Value->T->Prop
 |bool (b:Bool):zR l w (.bool b) (.bool b)
 |int (k:IntKind) (n:Int):zR l w (.int k n) (.int k n)
 |str (s:List UInt8):zR l w (.string ⟨⟨s⟩⟩) (.str s)
 |fn (f:FuncId):zR l w (.func (.func f) #[] #[]) (.fn f)
 |z11:zR l w (.pointer none) .z11
 |QB:zR l w (.map none) .QB
 |z3I:zR l w .nilFunc .z3I
 |ptr (cs:List T) (b o:Nat) (vf:Nat->Value)
   (hr:∀(j:Nat) (x:T),cs[j]?=some x->Rd l b (o+j))
   (hc:∀(j:Nat) (x:T),cs[j]?=some x->w.cell? ⟨b,o+j,none⟩=some (vf j))
   (h:∀(j:Nat) (x:T),cs[j]?=some x->zR l w (vf j) x):
   zR l w (.pointer (some ⟨b,o,none⟩)) (.ptr cs)
 |lst (a:Option Addr) (cap sz:Nat) (xs:List (List T)) (b o:Nat) (vf:Nat->Nat->Value)
   (hcap:xs.length<=cap) (hsz:∀(i:Nat) (c:List T),xs[i]?=some c->c.length=sz)
   (ha:∀(i j:Nat) (c:List T) (x:T),xs[i]?=some c->c[j]?=some x->a=some ⟨b,o,none⟩)
   (hr:∀(i j:Nat) (c:List T) (x:T),xs[i]?=some c->c[j]?=some x->Rd l b (o+i*sz+j))
   (hc:∀(i j:Nat) (c:List T) (x:T),xs[i]?=some c->c[j]?=some x->w.cell? ⟨b,o+i*sz+j,none⟩=some (vf i j))
   (h:∀(i j:Nat) (c:List T) (x:T),xs[i]?=some c->c[j]?=some x->zR l w (vf i j) x):
   zR l w (.slice a xs.length cap) (.lst xs)
structure Fr (l:Nat->Lab) (w:World) (l':Nat->Lab) (w':World):Prop where
 os:w'.os=w.os
 tape:w'.tape=w.tape
 output:w'.output=w.output
 size:w.heap.size<=w'.heap.size
 fix:∀b,b<w.heap.size->∀fr,l b= .fix fr->l' b= .fix fr/\w'.heap[b]?=w.heap[b]?
 arr:∀b,b<w.heap.size->∀k fr,l b= .arr k fr->∀o,o<fr->Rd l' b o/\w'.cell? ⟨b,o,none⟩=w.cell? ⟨b,o,none⟩
 far:∀b,b<w.heap.size->∀k i fr,l b= .far k i fr->∀o,o<fr->Rd l' b o/\w'.cell? ⟨b,o,none⟩=w.cell? ⟨b,o,none⟩
theorem cell?_heap {w w':World} {b o:Nat} (h:w'.heap[b]?=w.heap[b]?):w'.cell? ⟨b,o,none⟩=w.cell? ⟨b,o,none⟩:=by
 simp [World.cell?,h]
theorem z7R {w:World} {b o:Nat} {v:Value} (h:w.cell? ⟨b,o,none⟩=some v):b<w.heap.size:=by
 unfold World.cell? at h;simp only at h
 cases hb:w.heap[b]? with
 |none=>rw [hb] at h;simp at h
 |some x=>exact (w1q.1 hb).1
theorem z24 {w:World} {b:Nat} {o:Obj} (h:w.heap[b]?=some o):b<w.heap.size:=(w1q.1 h).1
theorem Fr.refl (l:Nat->Lab) (w:World):Fr l w l w:=
 ⟨rfl,rfl,rfl,w07 _,fun _ _ _ h=>⟨h,rfl⟩,fun b _ k fr h o ho=>⟨by simp [Rd,h,ho],rfl⟩,fun b _ k i fr h o ho=>⟨by simp [Rd,h,ho],rfl⟩⟩
theorem Fr.step {l l':Nat->Lab} {w w':World} (h:Fr l w l' w') {b o:Nat} (hb:b<w.heap.size) (hr:Rd l b o):
  Rd l' b o/\w'.cell? ⟨b,o,none⟩=w.cell? ⟨b,o,none⟩:=by
 cases hl:l b with
 |fix fr=>
  have:=h.fix b hb fr hl;refine ⟨?_,cell?_heap this.2⟩;simpa [Rd,hl,this.1] using hr
 |obj k=>simp [Rd,hl] at hr
 |arr k fr=>
  have hr':o<fr:=by simpa [Rd,hl] using hr
  exact h.arr b hb k fr hl o hr'
 |fob k i=>simp [Rd,hl] at hr
 |far k i fr=>
  have hr':o<fr:=by simpa [Rd,hl] using hr
  exact h.far b hb k i fr hl o hr'
theorem Fr.trans {l1 l2 l3:Nat->Lab} {w1 w2 w3:World} (h:Fr l1 w1 l2 w2) (k:Fr l2 w2 l3 w3):Fr l1 w1 l3 w3:=by
 refine ⟨k.os.trans h.os,k.tape.trans h.tape,k.output.trans h.output,w0u h.size k.size,?_,?_,?_⟩
 ·intro b hb fr hl;obtain ⟨h1,h2⟩:=h.fix b hb fr hl;obtain ⟨k1,k2⟩:=k.fix b (w06 hb h.size) fr h1;exact ⟨k1,k2.trans h2⟩
 ·intro b hb n fr hl o ho;obtain ⟨h1,h2⟩:=h.arr b hb n fr hl o ho;obtain ⟨k1,k2⟩:=k.step (w06 hb h.size) h1;exact ⟨k1,k2.trans h2⟩
 ·intro b hb n i fr hl o ho;obtain ⟨h1,h2⟩:=h.far b hb n i fr hl o ho;obtain ⟨k1,k2⟩:=k.step (w06 hb h.size) h1;exact ⟨k1,k2.trans h2⟩
theorem zR.yq {l l':Nat->Lab} {w w':World} (hf:∀b o v,w.cell? ⟨b,o,none⟩=some v->Rd l b o->Rd l' b o/\w'.cell? ⟨b,o,none⟩=w.cell? ⟨b,o,none⟩) {v:Value} {x:T} (h:zR l w v x):zR l' w' v x:=by
 induction h with
 |bool b=>exact .bool b
 |int k n=>exact .int k n
 |str s=>exact .str s
 |fn f=>exact .fn f
 |z11=>exact .z11
 |QB=>exact .QB
 |z3I=>exact .z3I
 |ptr cs b o vf hr hc _ ih=>
  refine .ptr cs b o vf ?_ ?_ ih
  ·intro j x h;exact (hf _ _ _ (hc j x h) (hr j x h)).1
  ·intro j x h;rw [(hf _ _ _ (hc j x h) (hr j x h)).2];exact hc j x h
 |lst a cap sz xs b o vf hcap hsz ha hr hc _ ih=>
  refine .lst a cap sz xs b o vf hcap hsz ha ?_ ?_ ih
  ·intro i j c x h1 h2;exact (hf _ _ _ (hc i j c x h1 h2) (hr i j c x h1 h2)).1
  ·intro i j c x h1 h2;rw [(hf _ _ _ (hc i j c x h1 h2) (hr i j c x h1 h2)).2];exact hc i j c x h1 h2
theorem zR.mono {l l':Nat->Lab} {w w':World} (hf:Fr l w l' w') {v:Value} {x:T} (h:zR l w v x):zR l' w' v x:=
 h.yq fun _ _ _ hc hr=>hf.step (z7R hc) hr
def zgO (l:Nat->Lab) (w:World) (k sz n:Nat) (v:Value):Prop:=
 ((∃a:Option Addr,v= .slice a 0 0)/\n=0)∨
 ∃(b cap:Nat) (arr:Array Value) (e:TypeId),v= .slice (some ⟨b,0,none⟩) n cap/\l b= .arr k (n*sz)/\
  w.heap[b]?=some (.cells arr e (0,0))/\arr.size=cap*sz/\n<=cap
def zfv (l:Nat->Lab) (w:World) (k i sz n:Nat) (v:Value):Prop:=
 ((∃a:Option Addr,v= .slice a 0 0)/\n=0)∨
 ∃(b cap:Nat) (arr:Array Value) (e:TypeId),v= .slice (some ⟨b,0,none⟩) n cap/\l b= .far k i (n*sz)/\
  w.heap[b]?=some (.cells arr e (0,0))/\arr.size=cap*sz/\n<=cap
def qz (l:Nat->Lab) (k b:Nat):Prop:=∃i,l b= .fob k i/\∀b' i',l b'= .fob k i'->i'<=i
def zfy (l:Nat->Lab) (w:World) (k off len sz:Nat) (v:Value):Prop:=
 ((∃a:Option Addr,v= .slice a 0 0)/\len=0)∨
 ∃(b cap N:Nat),v= .slice (some ⟨b,off,none⟩) len cap/\len<=cap/\qz l k b/\ZG w b=some N/\off+cap*sz=N
inductive zy (Λ:L):Value->V->Prop
 |t {v:Value} {x:T} (h:zR Λ.lab Λ.w v x):zy Λ v (.t x)
 |zJ {a:Option Addr}:zy Λ (.slice a 0 0) .zJ
 |own {v:Value} {k sz:Nat} {xs:List (List T)} (h:zR Λ.lab Λ.w v (.lst xs)) (hsz:∀(i:Nat) (c:List T),xs[i]?=some c->c.length=sz)
   (hk:k<Λ.nxt) (hn:xs.length<=Λ.fro k) (ho:xs.length=Λ.fro k->zgO Λ.lab Λ.w k sz xs.length v):zy Λ v (.own k sz xs)
 |slc {b k off len cap sz:Nat} (hk:k<Λ.nxt) (hc:len<=cap) (h:Λ.lab b= .obj k):zy Λ (.slice (some ⟨b,off,none⟩) len cap) (.slc k off len sz)
 |agg {vs:Array Value} {cs:List V} (hs:vs.size=cs.length) (h:∀(j:Nat) (v:Value) (c:V),vs[j]?=some v->cs[j]?=some c->zy Λ v c):zy Λ (.agg vs) (.agg cs)
 |tup {vs:Array Value} {cs:List V} (hs:vs.size=cs.length) (h:∀(j:Nat) (v:Value) (c:V),vs[j]?=some v->cs[j]?=some c->zy Λ v c):zy Λ (.tuple vs) (.tup cs)
 |ptr {b k off:Nat} (hk:k<Λ.nxt) (h:Λ.lab b= .obj k):zy Λ (.pointer (some ⟨b,off,none⟩)) (.ptr k off)
 |mp {b k:Nat} (hk:k<Λ.nxt) (h:Λ.lab b= .obj k):zy Λ (.map (some b)) (.mp k)
 |fn {f:FuncId} {vs:Array Value} {cs:List (Nat×Nat)} (hs:vs.size=cs.length)
   (h:∀(j:Nat) (v:Value) (c:Nat×Nat),vs[j]?=some v->cs[j]?=some c->∃b,v= .pointer (some ⟨b,c.2,none⟩)/\Λ.lab b= .obj c.1/\c.1<Λ.nxt):
   zy Λ (.func (.func f) #[] vs) (.fn f cs)
 |gd {v:Value} {c:Bool} {x:V} (h:c=true->zy Λ v x) (h':c=false->v=undef):zy Λ v (.gd c x)
 |top {v:Value}:zy Λ v .top
 |ub {b:Bool} {c d:Prop} (h:b=true->c) (h':b=false->d):zy Λ (.bool b) (.ub c d)
 |fpt {b k i off:Nat} (hk:k<Λ.nxt) (h:Λ.lab b= .fob k i):zy Λ (.pointer (some ⟨b,off,none⟩)) (.fpt k i off)
 |gpt {v:Value} {k ver off:Nat} (hv:∃a,v= .pointer a) (hk:k<Λ.nxt) (hn:0<ver/\ver<=Λ.frf k 0) (h:ver=Λ.frf k 0->∃b,v= .pointer (some ⟨b,off,none⟩)/\qz Λ.lab k b):zy Λ v (.gpt k ver off)
 |gsl {v:Value} {k ver off len sz:Nat} (hv:∃a n c,v= .slice a n c) (hk:k<Λ.nxt) (hn:(ver=0->(∃a:Option Addr,v= .slice a 0 0)/\len=0)/\ver<=Λ.frf k 0) (h:ver=Λ.frf k 0->zfy Λ.lab Λ.w k off len sz v):zy Λ v (.gsl k ver off len sz)
 |fow {v:Value} {k i sz:Nat} {xs:List (List T)} (h:zR Λ.lab Λ.w v (.lst xs)) (hsz:∀(i:Nat) (c:List T),xs[i]?=some c->c.length=sz)
   (hk:k<Λ.nxt) (hn:xs.length<=Λ.frf k i) (ho:xs.length=Λ.frf k i->zfv Λ.lab Λ.w k i sz xs.length v):zy Λ v (.fow k i sz xs)
structure Kp (Λ Λ':L):Prop where
 fr:Fr Λ.lab Λ.w Λ'.lab Λ'.w
 nxt:Λ.nxt<=Λ'.nxt
 obj:∀b k,k<Λ.nxt->Λ.lab b= .obj k->Λ'.lab b= .obj k
 own:∀b k n,k<Λ.nxt->b<Λ.w.heap.size->Λ.lab b= .arr k n->Λ'.fro k=Λ.fro k->Λ'.lab b= .arr k n/\Λ'.w.heap[b]?=Λ.w.heap[b]?
 fro:∀k,k<Λ.nxt->Λ.fro k<=Λ'.fro k
 fob:∀b k i,k<Λ.nxt->Λ.lab b= .fob k i->Λ'.lab b= .fob k i/\∀N,ZG Λ.w b=some N->ZG Λ'.w b=some N
 far:∀b k i n,k<Λ.nxt->b<Λ.w.heap.size->Λ.lab b= .far k i n->Λ'.frf k i=Λ.frf k i->Λ'.lab b= .far k i n/\Λ'.w.heap[b]?=Λ.w.heap[b]?
 frf:∀k i,k<Λ.nxt->Λ.frf k i<=Λ'.frf k i
 z4W:∀b k i,k<Λ.nxt->0<Λ.frf k 0->Λ'.frf k 0=Λ.frf k 0->Λ'.lab b= .fob k i->Λ.lab b= .fob k i
theorem Kp.refl (Λ:L):Kp Λ Λ:=⟨Fr.refl _ _,w07 _,fun _ _ _ h=>h,fun _ _ _ _ _ h _=>⟨h,rfl⟩,fun _ _=>w07 _,fun _ _ _ _ h=>⟨h,fun _ h=>h⟩,fun _ _ _ _ _ _ h _=>⟨h,rfl⟩,fun _ _ _=>w07 _,fun _ _ _ _ _ _ h=>h⟩
theorem Kp.trans {A B C:L} (h:Kp A B) (k:Kp B C):Kp A C:=by
 refine ⟨h.fr.trans k.fr,w0u h.nxt k.nxt,fun b n hn hl=>k.obj b n (w06 hn h.nxt) (h.obj b n hn hl),?_,fun n hn=>w0u (h.fro n hn) (k.fro n (w06 hn h.nxt)),fun b n i hn hl=>?_,?_,fun n i hn=>w0u (h.frf n i hn) (k.frf n i (w06 hn h.nxt)),fun b n i hn hp hf hl=>?_⟩
 rotate_left
 ·obtain ⟨a1,a2⟩:=h.fob b n i hn hl;obtain ⟨b1,b2⟩:=k.fob b n i (w06 hn h.nxt) a1;exact ⟨b1,fun N hN=>b2 N (a2 N hN)⟩
 ·intro b n i m hn hb hl hf;have h1:=h.frf n i hn;have h2:=k.frf n i (w06 hn h.nxt);obtain ⟨e1,e2⟩:=h.far b n i m hn hb hl (by omega);obtain ⟨e3,e4⟩:=k.far b n i m (w06 hn h.nxt) (w06 hb h.fr.size) e1 (by omega);exact ⟨e3,e4.trans e2⟩
 ·have h1:=h.frf n 0 hn;have h2:=k.frf n 0 (w06 hn h.nxt);exact h.z4W b n i hn hp (by omega) (k.z4W b n i (w06 hn h.nxt) (by omega) (by omega) hl)
 intro b n m hn hb hl hf;have h1:=h.fro n hn;have h2:=k.fro n (w06 hn h.nxt);obtain ⟨e1,e2⟩:=h.own b n m hn hb hl (by omega);obtain ⟨e3,e4⟩:=k.own b n m (w06 hn h.nxt) (w06 hb h.fr.size) e1 (by omega);exact ⟨e3,e4.trans e2⟩
theorem zy.mono {Λ Λ':L} (hk:Kp Λ Λ') {v:Value} {x:V} (h:zy Λ v x):zy Λ' v x:=by
 induction h with
 |t h=>exact .t (h.mono hk.fr)
 |zJ=>exact .zJ
 |@own v k sz xs h hsz hl hn ho=>
  have hf:=hk.fro k hl;refine .own (h.mono hk.fr) hsz (w06 hl hk.nxt) (w0u hn hf) fun he=>?_
  rcases ho (by omega) with ho|⟨b,cap,arr,e,hv,hb,hh,hc,hm⟩
  ·exact .inl ho
  ·obtain ⟨e1,e2⟩:=hk.own b k _ hl (z24 hh) hb (by omega)
   exact .inr ⟨b,cap,arr,e,hv,e1,by rw [e2];exact hh,hc,hm⟩
 |slc hl hc h=>exact .slc (w06 hl hk.nxt) hc (hk.obj _ _ hl h)
 |agg hs _ ih=>exact .agg hs ih
 |tup hs _ ih=>exact .tup hs ih
 |ptr hl h=>exact .ptr (w06 hl hk.nxt) (hk.obj _ _ hl h)
 |mp hl h=>exact .mp (w06 hl hk.nxt) (hk.obj _ _ hl h)
 |fn hs h=>exact .fn hs fun j v c h1 h2=>let ⟨b,e1,e2,e3⟩:=h j v c h1 h2;⟨b,e1,hk.obj _ _ e3 e2,w06 e3 hk.nxt⟩
 |gd _ h' ih=>exact .gd ih h'
 |top=>exact .top
 |ub h h'=>exact .ub h h'
 |fpt hl h=>exact .fpt (w06 hl hk.nxt) (hk.fob _ _ _ hl h).1
 |@gpt v k ver off hv hl hn h=>
  have hf:=hk.frf k 0 hl;obtain ⟨hp,hn⟩:=hn;refine .gpt hv (w06 hl hk.nxt) ⟨hp,w0u hn hf⟩ fun he=>?_;obtain ⟨b,e1,i,e2,e3⟩:=h (by omega);exact ⟨b,e1,i,(hk.fob _ _ _ hl e2).1,fun b' i' h'=>e3 b' i' (hk.z4W b' k i' hl (by omega) (by omega) h')⟩
 |@gsl v k ver off len sz hv hl hn h=>
  have hf:=hk.frf k 0 hl;obtain ⟨hp,hn⟩:=hn;refine .gsl hv (w06 hl hk.nxt) ⟨hp,w0u hn hf⟩ fun he=>?_;by_cases h0:ver=0
  ·exact .inl (hp h0)
  rcases h (by omega) with h|⟨b,cap,N,hv,hc,⟨i,e2,e3⟩,hN,he'⟩
  ·exact .inl h
  ·obtain ⟨e1,e4⟩:=hk.fob _ _ _ hl e2;exact .inr ⟨b,cap,N,hv,hc,⟨i,e1,fun b' i' h'=>e3 b' i' (hk.z4W b' k i' hl (by omega) (by omega) h')⟩,e4 N hN,he'⟩
 |@fow v k i sz xs h hsz hl hn ho=>
  have hf:=hk.frf k i hl;refine .fow (h.mono hk.fr) hsz (w06 hl hk.nxt) (w0u hn hf) fun he=>?_
  rcases ho (by omega) with ho|⟨b,cap,arr,e,hv,hb,hh,hc,hm⟩
  ·exact .inl ho
  ·obtain ⟨e1,e2⟩:=hk.far b k i _ hl (z24 hh) hb (by omega)
   exact .inr ⟨b,cap,arr,e,hv,e1,by rw [e2];exact hh,hc,hm⟩
def zl {α:Type}:List (Nat×α)->Nat->Option α
 |[],_=>none
 |(k,x)::r,t=>if k=t then some x else zl r t
def Yn {α:Type}:List (Nat×α)->Nat->α->List (Nat×α)
 |[],d,v=>[(d,v)]
 |(k,x)::r,d,v=>if k=d then (k,v)::r else (k,x)::Yn r d v
theorem Zf {α:Type} (e:List (Nat×α)) (d:Nat) (v:α) (t:Nat):zl (Yn e d v) t=if d=t then some v else zl e t:=by
 induction e with
 |nil=>simp [Yn,zl]
 |cons h r ih=>
  obtain ⟨k,x⟩:=h;by_cases h1:k=d
  ·subst h1;simp only [Yn,w0v,zl];by_cases h:k=t<;>simp [h]
  ·simp only [Yn,h1,w0r,zl,ih];by_cases h3:k=t
   ·subst h3;simp [Ne.symm h1]
   ·simp [h3]
def look (e:List (Nat×V)) (t:Nat):V:=(zl e t).getD .top
theorem Yq (e:List (Nat×V)) (d:Nat) (v:V) (t:Nat):look (Yn e d v) t=if d=t then v else look e t:=by
 unfold look;rw [Zf];split<;>rfl
def Wj (l:Nat->Lab) (w:World) (ag:Bool) (v:Value) (cs:List T):Prop:=
 if ag then ∃vs:Array Value,v= .agg vs/\vs.size=cs.length/\∀(j:Nat) (u:Value) (x:T),vs[j]?=some u->cs[j]?=some x->zR l w u x
 else ∃x,cs=[x]/\zR l w v x
theorem Wj.yq {l l':Nat->Lab} {w w':World} (hf:∀v x,zR l w v x->zR l' w' v x) {ag:Bool} {v:Value} {cs:List T} (h:Wj l w ag v cs):Wj l' w' ag v cs:=by
 unfold Wj at*
 cases ag with
 |true=>obtain ⟨vs,h1,h2,h3⟩:=h;exact ⟨vs,h1,h2,fun j u x a b=>hf _ _ (h3 j u x a b)⟩
 |false=>obtain ⟨x,h1,h2⟩:=h;exact ⟨x,h1,hf _ _ h2⟩
structure wj (Λ:L) (kag:Bool) (ents:Array MapEntry) (clock:Nat) (es:List (List T×V)) (st:Option (Nat×List Nat)):Prop where
 size:ents.size=es.length
 at_:∀(i:Nat) (e:MapEntry) (kv:List T×V),ents[i]?=some e->es[i]?=some kv->Wj Λ.lab Λ.w kag e.key kv.1/\zy Λ e.val kv.2
 born:∀(i:Nat) (e:MapEntry),ents[i]?=some e->e.born<clock
 apart:∀(i j:Nat) (e f:MapEntry),ents[i]?=some e->ents[j]?=some f->e.born=f.born->i=j
 known:∀(c:Nat) (bs:List Nat),st=some (c,bs)->clock=c/\ents.toList.map (·.born)=bs
theorem wj.yq {Λ Λ':L} (hf:∀v x,zR Λ.lab Λ.w v x->zR Λ'.lab Λ'.w v x) {kag:Bool} {ents:Array MapEntry} {clock:Nat} {es:List (List T×V)} {st:Option (Nat×List Nat)}
  (hg:∀(i:Nat) (kv:List T×V) (v:Value),es[i]?=some kv->zy Λ v kv.2->zy Λ' v kv.2)
  (h:wj Λ kag ents clock es st):wj Λ' kag ents clock es st:=
 ⟨h.size,fun i e kv a b=>⟨(h.at_ i e kv a b).1.yq hf,hg i kv _ b (h.at_ i e kv a b).2⟩,h.born,h.apart,h.known⟩
def WV (Λ:L) (k:Nat):z5->Prop
 | .cells cs=>∃(b:Nat) (arr:Array Value) (e:TypeId),Λ.lab b= .obj k/\Λ.w.heap[b]?=some (.cells arr e (0,0))/\arr.size=cs.length/\
   ∀(j:Nat) (v:Value) (c:V),arr[j]?=some v->cs[j]?=some c->zy Λ v c
 | .map kag es st=>∃(b:Nat) (ents:Array MapEntry) (clock:Nat),Λ.lab b= .obj k/\Λ.w.heap[b]?=some (.map ents clock)/\wj Λ kag ents clock es st
 | .arr n=>Λ.fro k=n
 | .iter q s seen c=>∃(b bm:Nat),Λ.lab b= .obj k/\Λ.w.heap[b]?=some (.mapIter (some bm) s seen.toArray c)/\Λ.lab bm= .obj q/\q<Λ.nxt
 | .gro ver cs=>Λ.frf k 0=ver/\((cs=[]/\∀b i,Λ.lab b≠ .fob k i)∨∃(b:Nat) (arr:Array Value) (e:TypeId),qz Λ.lab k b/\Λ.w.heap[b]?=some (.cells arr e (0,0))/\cs.length<=arr.size/\
   ∀(j:Nat) (v:Value) (c:V),arr[j]?=some v->cs[j]?=some c->zy Λ v c)
 | .wo os=>(∀b i,Λ.lab b= .fob k i->i<os.length)/\∀(i:Nat) (cs:List V),os[i]?=some cs->∃(b:Nat) (arr:Array Value) (e:TypeId),Λ.lab b= .fob k i/\Λ.w.heap[b]?=some (.cells arr e (0,0))/\arr.size=cs.length/\
   ∀(j:Nat) (v:Value) (c:V),arr[j]?=some v->cs[j]?=some c->zy Λ v c
 | .Ya ns=>∀i,Λ.frf k i=(ns[i]?).getD 0
 | .WM kag I=>∃(b:Nat) (ents:Array MapEntry) (clock:Nat),Λ.lab b= .obj k/\Λ.w.heap[b]?=some (.map ents clock)/\(∀(i:Nat) (e:MapEntry),ents[i]?=some e->e.born<clock)/\
   (∀(i j:Nat) (e f:MapEntry),ents[i]?=some e->ents[j]?=some f->e.born=f.born->i=j)/\∀(i:Nat) (e:MapEntry),ents[i]?=some e->∃cs x,Wj Λ.lab Λ.w kag e.key cs/\zR Λ.lab Λ.w e.val x/\I cs x
structure S where
 sto:List (Nat×z5)
 nxt:Nat
structure Z7 (Λ:L) (s:S):Prop where
 sto:∀(k:Nat) (o:z5),zl s.sto k=some o->k<Λ.nxt/\WV Λ k o
 inj:∀b b' k,Λ.lab b= .obj k->Λ.lab b'= .obj k->b=b'
 new:∀b,Λ.w.heap.size<=b->Λ.lab b= .fix none
 bnd:∀b k,(Λ.lab b= .obj k∨∃n,Λ.lab b= .arr k n)->k<Λ.nxt
 frz:∀k,Λ.nxt<=k->Λ.fro k=0
 wF:∀b b' k i,Λ.lab b= .fob k i->Λ.lab b'= .fob k i->b=b'
 wh:∀b k,((∃i,Λ.lab b= .fob k i)∨∃i n,Λ.lab b= .far k i n)->k<Λ.nxt
 z22:∀k i,Λ.nxt<=k->Λ.frf k i=0
structure St where
 env:List (Nat×V)
 s:S
structure Ctx where
 P:Program
 n:Nat
 Λ:L
structure Rel (C:Ctx) (Λ:L) (st:St) (a:Act):Prop where
 kp:Kp C.Λ Λ
 size:a.tmps.size=C.n
 defers:a.defers=[]
 env:∀t,zy Λ (a.tmps.getD t undef) (look st.env t)
 s:Z7 Λ st.s
theorem zch (a:Act) (d:Nat) (v:Value) (t:Nat) (h:d<a.tmps.size):
  (a.put (some d) v).tmps.getD t undef=if d=t then v else a.tmps.getD t undef:=by
 unfold Act.put;simp only [w1o,Array.getElem?_setIfInBounds];by_cases e:d=t
 ·subst e;simp [h]
 ·simp [e]
theorem zd2 (a:Act) (d:Option Nat) (v:Value):(a.put d v).tmps.size=a.tmps.size:=by
 cases d<;>simp [Act.put]
theorem WV.mono {Λ Λ':L} (hk:Kp Λ Λ') {k:Nat} {o:z5} (hl:k<Λ.nxt) (hb:∀b,Λ.lab b= .obj k->Λ'.w.heap[b]?=Λ.w.heap[b]?) (hf:Λ'.fro k=Λ.fro k)
  (hb2:∀b i,Λ.lab b= .fob k i->Λ'.w.heap[b]?=Λ.w.heap[b]?) (hb3:∀b i,Λ'.lab b= .fob k i->Λ.lab b= .fob k i) (hf2:∀i,Λ'.frf k i=Λ.frf k i) (h:WV Λ k o):WV Λ' k o:=by
 cases o with
 |cells cs=>
  obtain ⟨b,arr,e,h1,h2,h3,h4⟩:=h
  exact ⟨b,arr,e,hk.obj _ _ hl h1,by rw [hb b h1];exact h2,h3,fun j v c a1 a2=>(h4 j v c a1 a2).mono hk⟩
 |map kag es st=>
  obtain ⟨b,ents,clock,h1,h2,h3⟩:=h
  exact ⟨b,ents,clock,hk.obj _ _ hl h1,by rw [hb b h1];exact h2,h3.yq (fun _ _ h=>h.mono hk.fr) (fun _ _ _ _ h=>h.mono hk)⟩
 |arr n=>unfold WV at*;rw [hf];exact h
 |iter q s seen c=>
  obtain ⟨b,bm,h1,h2,h3,h4⟩:=h
  exact ⟨b,bm,hk.obj _ _ hl h1,by rw [hb b h1];exact h2,hk.obj _ _ h4 h3,w06 h4 hk.nxt⟩
 |gro r cs=>
  obtain ⟨h0,h⟩:=h;refine ⟨(hf2 0).trans h0,?_⟩
  rcases h with ⟨h1,h2⟩|⟨b,arr,e,⟨i,h1,h1'⟩,h2,h3,h4⟩
  ·exact .inl ⟨h1,fun b i hbr=>h2 b i (hb3 b i hbr)⟩
  ·exact .inr ⟨b,arr,e,⟨i,(hk.fob _ _ _ hl h1).1,fun b' i' h'=>h1' b' i' (hb3 b' i' h')⟩,by rw [hb2 b i h1];exact h2,h3,fun j v c a1 a2=>(h4 j v c a1 a2).mono hk⟩
 |wo os=>
  obtain ⟨h0,h⟩:=h;refine ⟨fun b i hbi=>h0 b i (hb3 b i hbi),fun i cs hi=>?_⟩;obtain ⟨b,arr,e,h1,h2,h3,h4⟩:=h i cs hi
  exact ⟨b,arr,e,(hk.fob _ _ _ hl h1).1,by rw [hb2 b i h1];exact h2,h3,fun j v c a1 a2=>(h4 j v c a1 a2).mono hk⟩
 |Ya ns=>exact fun i=>(hf2 i).trans (h i)
 |WM kag I=>
  obtain ⟨b,ents,clock,h1,h2,h3,h4,h5⟩:=h
  refine ⟨b,ents,clock,hk.obj _ _ hl h1,by rw [hb b h1];exact h2,h3,h4,fun i e hi=>?_⟩
  obtain ⟨cs,v,g1,g2,g3⟩:=h5 i e hi;exact ⟨cs,v,g1.yq fun _ _ h=>h.mono hk.fr,g2.mono hk.fr,g3⟩
structure Out where
 v:V
 ob:List (Nat×z5):=[]
 n:Nat:=0
 rd:Bool:=false
def Zr:List (Nat×z5)->List (Nat×z5)->List (Nat×z5)
 |s,[]=>s
 |s,(k,o)::r=>Zr (Yn s k o) r
def S.app (s:S) (o:Out):S:={s with sto:=Zr s.sto o.ob}
def St.app (st:St) (d:Option Nat) (o:Out):St:=
 {env:=match d with|some d=>Yn st.env d o.v|none=>st.env,s:=st.s.app o}
theorem Rel.step {C:Ctx} {Λ Λ':L} {st:St} {a:Act} (h:Rel C Λ st a) (hk:Kp Λ Λ') {d:Option Nat} (hd:∀x,d=some x->x<C.n) {v:Value} {o:Out} (hv:zy Λ' v o.v) (hs:Z7 Λ' (st.s.app o)):
  Rel C Λ' (st.app d o) (a.put d v):=by
 refine ⟨h.kp.trans hk,by rw [zd2];exact h.size,by cases d<;>exact h.defers,fun t=>?_,hs⟩
 cases d with
 |none=>exact (h.env t).mono hk
 |some d=>
  simp only [St.app];rw [Yq,zch _ _ _ _ (by rw [h.size];exact hd d rfl)];by_cases e:d=t
  ·simp only [e,w0v];exact hv
  ·simp only [e,w0r];exact (h.env t).mono hk
structure ya (Λ:L) (k:Nat):Prop where
 obj:∀b,Λ.lab b≠ .obj k
 arr:∀b n,Λ.lab b≠ .arr k n
 fro:Λ.fro k=0
 fob:∀b i,Λ.lab b≠ .fob k i
 far:∀b i n,Λ.lab b≠ .far k i n
 frf:∀i,Λ.frf k i=0
def L.up (Λ:L) (m:Nat):L:={Λ with nxt:=m}
theorem Kp.up (Λ:L) {m:Nat} (h:Λ.nxt<=m):Kp Λ (Λ.up m):=
 ⟨Fr.refl _ _,h,fun _ _ _ h=>h,fun _ _ _ _ _ h _=>⟨h,rfl⟩,fun _ _=>w07 _,fun _ _ _ _ h=>⟨h,fun _ h=>h⟩,fun _ _ _ _ _ _ h _=>⟨h,rfl⟩,fun _ _ _=>w07 _,fun _ _ _ _ _ _ h=>h⟩
theorem Z7.up {Λ:L} {s:S} (h:Z7 Λ s) {m:Nat} (hm:Λ.nxt<=m):Z7 (Λ.up m) s:=by
 have hk:=Kp.up Λ hm;refine ⟨fun k o hk'=>?_,h.inj,h.new,fun b k hb=>w06 (h.bnd b k hb) hm,fun k hk'=>h.frz k (w0u hm hk'),h.wF,fun b k hb=>w06 (h.wh b k hb) hm,fun k i hk'=>h.z22 k i (w0u hm hk')⟩;obtain ⟨h1,h2⟩:=h.sto k o hk';exact ⟨w06 h1 hm,h2.mono hk h1 (fun _ _=>rfl) Z (fun _ _ _=>rfl) (fun _ _ h=>h) (fun _=>rfl)⟩
theorem Z7.free {Λ:L} {s:S} (h:Z7 Λ s) {k:Nat} (hk:Λ.nxt<=k):ya Λ k:=
 ⟨fun b hb=>by have:=h.bnd b k (.inl hb);omega,fun b n hb=>by have:=h.bnd b k (.inr ⟨n,hb⟩);omega,h.frz k hk,fun b i hb=>by have:=h.wh b k (.inl ⟨i,hb⟩);omega,fun b i n hb=>by have:=h.wh b k (.inr ⟨i,n,hb⟩);omega,fun i=>h.z22 k i hk⟩
theorem Rel.up {C:Ctx} {Λ:L} {st:St} {a:Act} (h:Rel C Λ st a) {m:Nat} (hm:Λ.nxt<=m):Rel C (Λ.up m) st a:=by
 have hk:=Kp.up Λ hm;exact ⟨h.kp.trans hk,h.size,h.defers,fun t=>(h.env t).mono hk,h.s.up hm⟩
mutual
def V.bd (m:Nat):V->Bool
 | .t _=>true
 | .zJ=>true
 | .top=>true
 | .own k _ _=>decide (k<m)
 | .slc k _ _ _=>decide (k<m)
 | .ptr k _=>decide (k<m)
 | .mp k=>decide (k<m)
 | .fn _ cs=>cs.all fun c=>decide (c.1<m)
 | .agg cs=>V.bds m cs
 | .tup cs=>V.bds m cs
 | .gd _ x=>x.bd m
 | .ub _ _=>true
 | .fpt k _ _=>decide (k<m)
 | .gpt k _ _=>decide (k<m)
 | .gsl k _ _ _ _=>decide (k<m)
 | .fow k _ _ _=>decide (k<m)
def V.bds (m:Nat):List V->Bool
 |[]=>true
 |x::r=>x.bd m&&V.bds m r
end
theorem V.ZL {m:Nat}:∀{cs:List V},V.bds m cs=true->∀(j:Nat) (c:V),cs[j]?=some c->c.bd m=true
 |[],_,j,c,h=>by simp at h
 |x::r,hb,0,c,h=>by simp at h;subst h;simp [V.bds] at hb;exact hb.1
 |x::r,hb,j+1,c,h=>by simp [V.bds] at hb;exact V.ZL hb.2 j c (by simpa using h)
def L.cut (Λ:L) (m m':Nat):L where
 lab:=fun b=>match Λ.lab b with
  | .obj k=>if k<m then .obj k else .fix none
  | .arr k fr=>if k<m then .arr k fr else .fix none
  | .fob k i=>if k<m then .fob k i else .fix none
  | .far k i fr=>if k<m then .far k i fr else .fix none
  |x=>x
 fro:=fun k=>if k<m then Λ.fro k else 0
 nxt:=m'
 w:=Λ.w
 frf:=fun k i=>if k<m then Λ.frf k i else 0
theorem z28 {Λ:L} {m m' b:Nat} {fr:Option Nat} (h:Λ.lab b= .fix fr):(Λ.cut m m').lab b= .fix fr:=by simp [L.cut,h]
theorem yr {Λ:L} {m m' b k:Nat} (h:Λ.lab b= .obj k) (hk:k<m):(Λ.cut m m').lab b= .obj k:=by simp [L.cut,h,hk]
theorem z9z {Λ:L} {m m' b k n:Nat} (h:Λ.lab b= .arr k n) (hk:k<m):(Λ.cut m m').lab b= .arr k n:=by simp [L.cut,h,hk]
theorem wG {Λ:L} {m m' b k i:Nat} (h:Λ.lab b= .fob k i) (hk:k<m):(Λ.cut m m').lab b= .fob k i:=by simp [L.cut,h,hk]
theorem z8Q {Λ:L} {m m' b k i n:Nat} (h:Λ.lab b= .far k i n) (hk:k<m):(Λ.cut m m').lab b= .far k i n:=by simp [L.cut,h,hk]
theorem Z0 {Λ:L} {m m' b k i:Nat} (h:(Λ.cut m m').lab b= .fob k i):Λ.lab b= .fob k i/\k<m:=by
 simp only [L.cut] at h
 cases hl:Λ.lab b with
 |fix fr=>simp [hl] at h
 |obj j=>simp only [hl] at h;split at h<;>simp_all
 |arr j n=>simp only [hl] at h;split at h<;>simp_all
 |fob j n=>simp only [hl] at h;split at h<;>simp_all
 |far j n q=>simp only [hl] at h;split at h<;>simp_all
theorem z1X {Λ:L} {m m' b k i n:Nat} (h:(Λ.cut m m').lab b= .far k i n):Λ.lab b= .far k i n/\k<m:=by
 simp only [L.cut] at h
 cases hl:Λ.lab b with
 |fix fr=>simp [hl] at h
 |obj j=>simp only [hl] at h;split at h<;>simp_all
 |arr j n=>simp only [hl] at h;split at h<;>simp_all
 |fob j n=>simp only [hl] at h;split at h<;>simp_all
 |far j n q=>simp only [hl] at h;split at h<;>simp_all
theorem Yr {Λ:L} {m m' b k:Nat} (h:(Λ.cut m m').lab b= .obj k):Λ.lab b= .obj k/\k<m:=by
 simp only [L.cut] at h
 cases hl:Λ.lab b with
 |fix fr=>simp [hl] at h
 |obj j=>simp only [hl] at h;split at h<;>simp_all
 |arr j n=>simp only [hl] at h;split at h<;>simp_all
 |fob j n=>simp only [hl] at h;split at h<;>simp_all
 |far j n q=>simp only [hl] at h;split at h<;>simp_all
theorem z1H {Λ:L} {m m' b k n:Nat} (h:(Λ.cut m m').lab b= .arr k n):Λ.lab b= .arr k n/\k<m:=by
 simp only [L.cut] at h
 cases hl:Λ.lab b with
 |fix fr=>simp [hl] at h
 |obj j=>simp only [hl] at h;split at h<;>simp_all
 |arr j n=>simp only [hl] at h;split at h<;>simp_all
 |fob j n=>simp only [hl] at h;split at h<;>simp_all
 |far j n q=>simp only [hl] at h;split at h<;>simp_all
theorem z7K {Λ:L} {m m' b o:Nat} (h:Rd Λ.lab b o):Rd (Λ.cut m m').lab b o:=by
 unfold Rd at*
 cases hl:Λ.lab b with
 |fix fr=>rw [z28 hl];rw [hl] at h;exact h
 |obj j=>simp [hl] at h
 |arr j n=>
  simp only [hl] at h;simp only [L.cut,hl]
  by_cases hj:j<m<;>simp [hj,h]
 |fob j i=>simp [hl] at h
 |far j i n=>
  simp only [hl] at h;simp only [L.cut,hl]
  by_cases hj:j<m<;>simp [hj,h]
theorem zR.cut {Λ:L} {m m':Nat} {v:Value} {x:T} (h:zR Λ.lab Λ.w v x):zR (Λ.cut m m').lab (Λ.cut m m').w v x:=
 h.yq fun _ _ _ _ hr=>⟨z7K hr,rfl⟩
theorem zy.cut {Λ:L} {m m':Nat} (hm:m<=m') {v:Value} {x:V} (h:zy Λ v x) (hb:x.bd m=true):zy (Λ.cut m m') v x:=by
 induction h with
 |t h=>exact .t h.cut
 |zJ=>exact .zJ
 |@own v k sz xs h hsz hl hn ho=>
  have hk:k<m:=by simpa [V.bd] using hb
  have hf:(Λ.cut m m').fro k=Λ.fro k:=by simp [L.cut,hk]
  refine .own h.cut hsz (w06 hk hm) (by rw [hf];exact hn) fun he=>?_
  rcases ho (by rw [←hf];exact he) with ho|⟨b,cap,arr,e,hv,hb',hh,hc,hn'⟩
  ·exact .inl ho
  ·exact .inr ⟨b,cap,arr,e,hv,z9z hb' hk,hh,hc,hn'⟩
 |@slc b k off len cap sz hl hc h=>
  have hk:k<m:=by simpa [V.bd] using hb
  exact .slc (w06 hk hm) hc (yr h hk)
 |agg hs _ ih=>exact .agg hs fun j v c h1 h2=>ih j v c h1 h2 (V.ZL (by simpa [V.bd] using hb) j c h2)
 |tup hs _ ih=>exact .tup hs fun j v c h1 h2=>ih j v c h1 h2 (V.ZL (by simpa [V.bd] using hb) j c h2)
 |@ptr b k off hl h=>
  have hk:k<m:=by simpa [V.bd] using hb
  exact .ptr (w06 hk hm) (yr h hk)
 |@mp b k hl h=>
  have hk:k<m:=by simpa [V.bd] using hb
  exact .mp (w06 hk hm) (yr h hk)
 |fn hs h=>
  refine .fn hs fun j v c h1 h2=>?_;obtain ⟨b,e1,e2,e3⟩:=h j v c h1 h2
  have hk:c.1<m:=by
   simp only [V.bd,w0m,w0n] at hb;exact hb c (zMG h2)
  exact ⟨b,e1,yr e2 hk,w06 hk hm⟩
 |gd _ h' ih=>exact .gd (fun hc=>ih hc (by simpa [V.bd] using hb)) h'
 |top=>exact .top
 |ub h h'=>exact .ub h h'
 |@fpt b k i off hl h=>
  have hk:k<m:=by simpa [V.bd] using hb
  exact .fpt (w06 hk hm) (wG h hk)
 |@gpt v k ver off hv hl hn h=>
  have hk:k<m:=by simpa [V.bd] using hb
  have hf:(Λ.cut m m').frf k 0=Λ.frf k 0:=by simp [L.cut,hk]
  refine .gpt hv (w06 hk hm) (by rw [hf];exact hn) fun he=>?_;obtain ⟨b,e1,i,e2,e3⟩:=h (by rw [←hf];exact he);exact ⟨b,e1,i,wG e2 hk,fun b' i' h'=>e3 b' i' (Z0 h').1⟩
 |@gsl v k ver off len sz hv hl hn h=>
  have hk:k<m:=by simpa [V.bd] using hb
  have hf:(Λ.cut m m').frf k 0=Λ.frf k 0:=by simp [L.cut,hk]
  refine .gsl hv (w06 hk hm) (by rw [hf];exact hn) fun he=>?_
  rcases h (by rw [←hf];exact he) with h|⟨b,cap,N,hv,hc,⟨i,e2,e3⟩,hN,he'⟩
  ·exact .inl h
  ·exact .inr ⟨b,cap,N,hv,hc,⟨i,wG e2 hk,fun b' i' h'=>e3 b' i' (Z0 h').1⟩,hN,he'⟩
 |@fow v k i sz xs h hsz hl hn ho=>
  have hk:k<m:=by simpa [V.bd] using hb
  have hf:(Λ.cut m m').frf k i=Λ.frf k i:=by simp [L.cut,hk]
  refine .fow h.cut hsz (w06 hk hm) (by rw [hf];exact hn) fun he=>?_
  rcases ho (by rw [←hf];exact he) with ho|⟨b,cap,arr,e,hv,hb',hh,hc,hn'⟩
  ·exact .inl ho
  ·exact .inr ⟨b,cap,arr,e,hv,z8Q hb' hk,hh,hc,hn'⟩
theorem Kp.cut {A Λ:L} {m m':Nat} (h:Kp A Λ) (hm:A.nxt<=m) (hm':m<=m'):Kp A (Λ.cut m m'):=by
 refine ⟨⟨h.fr.os,h.fr.tape,h.fr.output,h.fr.size,fun b hb fr hl=>?_,fun b hb k fr hl o ho=>?_,fun b hb k i fr hl o ho=>?_⟩,w0u hm hm',fun b k hk hl=>?_,fun b k n hk hb hl hf=>?_,fun k hk=>?_,fun b k i hk hl=>?_,fun b k i n hk hb hl hf=>?_,fun k i hk=>?_,fun b k i hk hp hf hl=>?_⟩
 ·obtain ⟨h1,h2⟩:=h.fr.fix b hb fr hl;exact ⟨z28 h1,h2⟩
 ·obtain ⟨h1,h2⟩:=h.fr.arr b hb k fr hl o ho;exact ⟨z7K h1,h2⟩
 ·obtain ⟨h1,h2⟩:=h.fr.far b hb k i fr hl o ho;exact ⟨z7K h1,h2⟩
 ·exact yr (h.obj b k hk hl) (w06 hk hm)
 ·have e:(Λ.cut m m').fro k=Λ.fro k:=by simp [L.cut,w06 hk hm]
  obtain ⟨h1,h2⟩:=h.own b k n hk hb hl (by rw [←e];exact hf);exact ⟨z9z h1 (w06 hk hm),h2⟩
 ·have e:(Λ.cut m m').fro k=Λ.fro k:=by simp [L.cut,w06 hk hm]
  rw [e];exact h.fro k hk
 ·obtain ⟨h1,h2⟩:=h.fob b k i hk hl;exact ⟨wG h1 (w06 hk hm),h2⟩
 ·have e:(Λ.cut m m').frf k i=Λ.frf k i:=by simp [L.cut,w06 hk hm]
  obtain ⟨h1,h2⟩:=h.far b k i n hk hb hl (by rw [←e];exact hf);exact ⟨z8Q h1 (w06 hk hm),h2⟩
 ·have e:(Λ.cut m m').frf k i=Λ.frf k i:=by simp [L.cut,w06 hk hm]
  rw [e];exact h.frf k i hk
 ·have e:(Λ.cut m m').frf k 0=Λ.frf k 0:=by simp [L.cut,w06 hk hm]
  exact h.z4W b k i hk hp (by rw [←e];exact hf) (Z0 hl).1
def LeV (m m':Nat) (x x':V):Prop:=
 ∀(Λ:L) (v:Value),(∀k,m<=k->k<m'->Λ.fro k=0/\∀i,Λ.frf k i=0)->m'<=Λ.nxt->zy Λ v x->zy Λ v x'
theorem LeV.rfl {m m':Nat} {x:V}:LeV m m' x x:=fun _ _ _ _ h=>h
theorem LeV.top {m m':Nat} {x:V}:LeV m m' x .top:=fun _ _ _ _ _=> .top
theorem LeV.Zc {m m' k sz:Nat} {xs:List (List T)}:LeV m m' (.own k sz xs) (.t (.lst xs)):=fun _ _ _ _ h=>by cases h;exact .t ‹_›
theorem zR.nil {l:Nat->Lab} {w:World} {a:Option Addr}:zR l w (.slice a 0 0) (.lst []):=
 .lst a 0 0 [] 0 0 (fun _ _=>undef) (by simp) (by simp) (by simp) (by simp) (by simp) (by simp)
theorem LeV.Zb {m m':Nat}:LeV m m' .zJ (.t (.lst [])):=fun _ _ _ _ h=>by cases h;exact .t .nil
theorem LeV.zI {m m' k sz:Nat} (_:m<=k) (h2:k<m'):LeV m m' .zJ (.own k sz []):=fun _ _ hf hn h=>by
 cases h;exact .own .nil (by simp) (by omega) (by simp) (fun _=> .inl ⟨⟨_,Eq.refl _⟩,Eq.refl _⟩)
theorem LeV.Wp {m m' k off sz:Nat} (h2:k<m'):LeV m m' .zJ (.gsl k 0 off 0 sz):=fun _ _ hf hn h=>by
 cases h;exact .gsl ⟨_,_,_,Eq.refl _⟩ (by omega) ⟨fun _=>⟨⟨_,Eq.refl _⟩,Eq.refl _⟩,Nat.zero_le _⟩ (fun _=> .inl ⟨⟨_,Eq.refl _⟩,Eq.refl _⟩)
def LeX (m m':Nat) (x x':V):Prop:=∃y,LeV m m x y/\y.bd m=true/\LeV m m' y x'
theorem LeX.same {m m':Nat} {x:V} (h:x.bd m=true):LeX m m' x x:=⟨x,.rfl,h,.rfl⟩
theorem LeX.eq {m m':Nat} {x y:V} (e:x=y) (h:y.bd m=true):LeX m m' x y:=e▸⟨x,.rfl,e▸h,.rfl⟩
theorem LeX.top {m m':Nat} {x:V}:LeX m m' x .top:=⟨.top,.top,by simp [V.bd],.rfl⟩
theorem LeX.t {m m':Nat} {x:T}:LeX m m' (.t x) (.t x):= .same (by simp [V.bd])
theorem LeX.tEq {m m':Nat} {x y:T} (e:x=y):LeX m m' (.t x) (.t y):=e▸ .t
theorem LeX.Zc {m m' k sz:Nat} {xs:List (List T)}:LeX m m' (.own k sz xs) (.t (.lst xs)):=⟨.t (.lst xs),.Zc,by simp [V.bd],.rfl⟩
theorem LeX.Zb {m m':Nat}:LeX m m' .zJ (.t (.lst [])):=⟨.zJ,.rfl,by simp [V.bd],.Zb⟩
theorem LeX.zI {m m' k sz:Nat} (h1:m<=k) (h2:k<m'):LeX m m' .zJ (.own k sz []):=⟨.zJ,.rfl,by simp [V.bd],.zI h1 h2⟩
theorem LeX.Wp {m m' k off sz:Nat} (h2:k<m'):LeX m m' .zJ (.gsl k 0 off 0 sz):=⟨.zJ,.rfl,by simp [V.bd],.Wp h2⟩
theorem LeX.cut {m m':Nat} (hm:m<=m') {x x':V} (h:LeX m m' x x') {Λ:L} {v:Value} (hx:m<=Λ.nxt) (hr:zy Λ v x):zy (Λ.cut m m') v x':=by
 obtain ⟨y,h1,h2,h3⟩:=h
 exact h3 _ _ (fun k hk _=>⟨by simp [L.cut];omega,fun i=>by simp [L.cut];omega⟩) (w07 _) ((h1 Λ v (fun k h1 h2=>by omega) hx hr).cut hm h2)
def z5.fresh:z5->Bool
 | .arr n=>Nat.beq n 0
 | .gro ver cs=>(ver==0)&&cs.isEmpty
 | .wo os=>os.isEmpty
 | .Ya ns=>ns.isEmpty
 |_=>false
inductive zq (m m':Nat):List V->List V->Prop
 |nil:zq m m' [] []
 |cons {x y:V} {xs ys:List V} (h:LeX m m' x y) (t:zq m m' xs ys):zq m m' (x::xs) (y::ys)
theorem zq.length {m m':Nat} {xs ys:List V} (h:zq m m' xs ys):xs.length=ys.length:=by
 induction h with
 |nil=>rfl
 |cons _ _ ih=>simp [ih]
theorem zq.at {m m':Nat} {xs ys:List V} (h:zq m m' xs ys):∀(j:Nat) (c d:V),xs[j]?=some c->ys[j]?=some d->LeX m m' c d:=by
 induction h with
 |nil=>intro j c d h;simp at h
 |cons h _ ih=>
  intro j c d h1 h2
  cases j with
  |zero=>simp at h1 h2;subst h1;subst h2;exact h
  |succ j=>exact ih j c d (by simpa using h1) (by simpa using h2)
theorem zq.same {m m':Nat}:∀{xs:List V},V.bds m xs=true->zq m m' xs xs
 |[],_=> .nil
 |x::r,h=>by simp [V.bds] at h;exact .cons (.same h.1) (.same h.2)
inductive LeO (m m':Nat):z5->z5->Prop
 |cells {cs ds:List V} (h:zq m m' cs ds):LeO m m' (.cells cs) (.cells ds)
 |map {a:Bool} {es fs:List (List T×V)} {st st':Option (Nat×List Nat)} (hk:es.map (·.1)=fs.map (·.1)) (hv:zq m m' (es.map (·.2)) (fs.map (·.2))) (hs:st'=none∨st'=st):LeO m m' (.map a es st) (.map a fs st')
 |arr {n n':Nat} (h:n=n'):LeO m m' (.arr n) (.arr n')
 |iter {q s c:Nat} {u v:List Nat} (h:u=v) (hq:q<m):LeO m m' (.iter q s u c) (.iter q s v c)
 |gro {r:Nat} {cs ds:List V} (h:zq m m' cs ds):LeO m m' (.gro r cs) (.gro r ds)
 |wo {os ps:List (List V)} (hl:os.length=ps.length) (h:∀(i:Nat) (cs ds:List V),os[i]?=some cs->ps[i]?=some ds->zq m m' cs ds):LeO m m' (.wo os) (.wo ps)
 |Ya {ns ms:List Nat} (h:ns=ms):LeO m m' (.Ya ns) (.Ya ms)
 |WM {a:Bool} {I J:List T->T->Prop} (h:∀cs v,I cs v->J cs v):LeO m m' (.WM a I) (.WM a J)
def LeE (m m':Nat) (e:List (Nat×V)):List (Nat×V)->Prop
 |[]=>True
 |(t,x)::r=>LeX m m' (look e t) x/\LeE m m' e r
def LeS (m m':Nat) (s:List (Nat×z5)):List (Nat×z5)->Prop
 |[]=>True
 |(k,o)::r=>((k<m/\∃o',zl s k=some o'/\LeO m m' o' o)∨(m<=k/\k<m'/\o.fresh=true))/\LeS m m' s r
theorem LeE.at {m m':Nat} {e:List (Nat×V)}:∀{e':List (Nat×V)},LeE m m' e e'->∀t,LeX m m' (look e t) (look e' t)
 |[],_,t=> .top
 |(k,x)::r,h,t=>by
  obtain ⟨h1,h2⟩:=h;by_cases e':k=t
  ·subst e';simpa [look,zl] using h1
  ·have:=LeE.at h2 t;simpa [look,zl,e'] using this
theorem LeS.at {m m':Nat} {s:List (Nat×z5)}:∀{s':List (Nat×z5)},LeS m m' s s'->∀k o,zl s' k=some o->
  (k<m/\∃o',zl s k=some o'/\LeO m m' o' o)∨(m<=k/\k<m'/\o.fresh=true)
 |[],_,k,o,h=>by simp [zl] at h
 |(j,x)::r,h,k,o,hk=>by
  obtain ⟨h1,h2⟩:=h;by_cases e':j=k
  ·subst e';simp [zl] at hk;subst hk;exact h1
  ·simp only [zl,e',w0r] at hk;exact LeS.at h2 k o hk
theorem Z7.QA {Λ:L} {s:S} (h:Z7 Λ s) {s':S} {m m':Nat} (hm0:m<=Λ.nxt) (hm':m<=m') (hs:LeS m m' s.sto s'.sto):Z7 (Λ.cut m m') s':=by
 have hnew:∀k,m<=k->k<m'->(Λ.cut m m').fro k=0:=fun k hk _=>by simp [L.cut];omega
 refine ⟨fun k o hk=>?_,fun b b' k h1 h2=>h.inj b b' k (Yr h1).1 (Yr h2).1,fun b hb=>z28 (h.new b hb),?_,fun k hk=>by have hk':m'<=k:=hk;simp [L.cut];omega,fun b b' k i h1 h2=>h.wF b b' k i (Z0 h1).1 (Z0 h2).1,?_,fun k i hk=>by have hk':m'<=k:=hk;simp [L.cut];omega⟩
 ·rcases hs.at k o hk with ⟨hkm,o',ho',hle⟩|⟨h1,h2,hfr⟩
  ·refine ⟨w06 hkm hm',?_⟩;have hr:=(h.sto k o' ho').2
   cases hle with
   |cells hle=>
    obtain ⟨b,arr,e,e1,e2,e3,e4⟩:=hr
    refine ⟨b,arr,e,yr e1 hkm,e2,by rw [e3];exact hle.length,fun j v d a1 a2=>?_⟩
    have hlt:j<_:=(w02.1 a2).1;rw [←hle.length] at hlt;have hc:=w09 hlt;exact (hle.at j _ d hc a2).cut hm' hm0 (e4 j v _ a1 hc)
   |@map a es fs sx sy hke hve hse=>
    obtain ⟨b,ents,clock,e1,e2,e3⟩:=hr
    have hlen:es.length=fs.length:=by have:=congrArg List.length hke;simpa using this
    refine ⟨b,ents,clock,yr e1 hkm,e2,⟨e3.size.trans hlen,fun i e kv a1 a2=>?_,e3.born,e3.apart,fun c bs h=>?_⟩⟩
    ·have hlt:i<es.length:=by rw [hlen];exact (w02.1 a2).1
     have hes:=w09 hlt;obtain ⟨g1,g2⟩:=e3.at_ i e _ a1 hes
     have hk1:(es[i]).1=kv.1:=by
      have:=congrArg (fun l=>l[i]?) hke;simp only [w0f,hes,a2,Option.map] at this;exact Option.some.inj this
     refine ⟨by rw [←hk1];exact g1.yq fun _ _ h=>h.cut,?_⟩
     exact (hve.at i (es[i]).2 kv.2 (by simp [w0f,hes]) (by simp [w0f,a2])).cut hm' hm0 g2
    ·rcases hse with e|e
     ·rw [e] at h;cases h
     ·rw [e] at h;exact e3.known c bs h
   |arr e=>subst e;unfold WV at*;simp [L.cut,hkm,hr]
   |iter e hq=>
    subst e;obtain ⟨b,bm,e1,e2,e3,e4⟩:=hr;exact ⟨b,bm,yr e1 hkm,e2,yr e3 hq,w06 hq hm'⟩
   |@gro r cs ds hle=>
    obtain ⟨h0,hr⟩:=hr
    refine ⟨by simp [L.cut,hkm,h0],?_⟩
    rcases hr with ⟨e1,e2⟩|⟨b,arr,e,⟨i,e1,e1'⟩,e2,e3,e4⟩
    ·subst e1;have:ds=[]:=w0q.1 (by rw [←hle.length];rfl);exact .inl ⟨this,fun b i hb=>e2 b i (Z0 hb).1⟩
    ·refine .inr ⟨b,arr,e,⟨i,wG e1 hkm,fun b' i' h'=>e1' b' i' (Z0 h').1⟩,e2,by rw [←hle.length];exact e3,fun j v d a1 a2=>?_⟩
     have hlt:j<_:=(w02.1 a2).1;rw [←hle.length] at hlt;have hc:=w09 hlt;exact (hle.at j _ d hc a2).cut hm' hm0 (e4 j v _ a1 hc)
   |@wo os ps hl hle=>
    obtain ⟨h0,hr⟩:=hr
    refine ⟨fun b i hbi=>by rw [←hl];exact h0 b i (Z0 hbi).1,fun i ds hi=>?_⟩
    have hlt:i<os.length:=by rw [hl];exact (w02.1 hi).1
    have hos:=w09 hlt;have hle:=hle i _ ds hos hi;obtain ⟨b,arr,e,e1,e2,e3,e4⟩:=hr i _ hos
    refine ⟨b,arr,e,wG e1 hkm,e2,by rw [e3];exact hle.length,fun j v d a1 a2=>?_⟩
    have hlt:j<_:=(w02.1 a2).1;rw [←hle.length] at hlt;have hc:=w09 hlt;exact (hle.at j _ d hc a2).cut hm' hm0 (e4 j v _ a1 hc)
   |Ya e=>subst e;intro i;have:=hr i;simpa [L.cut,hkm] using this
   |WM hI=>
    obtain ⟨b,ents,clock,e1,e2,e3,e4,e5⟩:=hr;refine ⟨b,ents,clock,yr e1 hkm,e2,e3,e4,fun i e hi=>?_⟩;obtain ⟨cs,v,g1,g2,g3⟩:=e5 i e hi;exact ⟨cs,v,g1.yq fun _ _ h=>h.cut,g2.cut,hI cs v g3⟩
  ·have hnf:∀b i,(Λ.cut m m').lab b≠ .fob k i:=fun b i hb=>by have:=(Z0 hb).2;omega
   refine ⟨h2,?_⟩
   cases o with
   |arr n=>
    have:n=0:=by simpa [z5.fresh] using hfr
    subst this;exact hnew k h1 h2
   |gro r cs=>
    have:r=0/\cs=[]:=by simpa [z5.fresh] using hfr
    exact ⟨by rw [this.1];simp [L.cut];omega,.inl ⟨this.2,hnf⟩⟩
   |wo os=>
    have:os=[]:=by simpa [z5.fresh] using hfr
    subst this
    exact ⟨fun b i hb=>absurd hb (hnf b i),fun i cs hi=>by simp at hi⟩
   |Ya ns=>
    have:ns=[]:=by simpa [z5.fresh] using hfr
    subst this;intro i;simp [L.cut];omega
   |cells _=>simp [z5.fresh] at hfr
   |map _ _ _=>simp [z5.fresh] at hfr
   |iter _ _ _ _=>simp [z5.fresh] at hfr
   |WM _ _=>simp [z5.fresh] at hfr
 ·intro b k hb
  rcases hb with hb|⟨n,hb⟩
  ·exact w06 (Yr hb).2 hm'
  ·exact w06 (z1H hb).2 hm'
 ·intro b k hb
  rcases hb with ⟨i,hb⟩|⟨i,n,hb⟩
  ·exact w06 (Z0 hb).2 hm'
  ·exact w06 (z1X hb).2 hm'
theorem Rel.QA {C:Ctx} {Λ:L} {st:St} {a:Act} (h:Rel C Λ st a) {st':St} {m:Nat} (hm:C.Λ.nxt<=m) (hm0:m<=Λ.nxt) (hm':m<=st'.s.nxt)
  (he:LeE m st'.s.nxt st.env st'.env) (hs:LeS m st'.s.nxt st.s.sto st'.s.sto):Rel C (Λ.cut m st'.s.nxt) st' a:=
 ⟨h.kp.cut hm hm',h.size,h.defers,fun t=>(he.at t).cut hm' hm0 (h.env t),h.s.QA hm0 hm' hs⟩
inductive Ar where
 |s (t:Nat)
 |c (v:V)
inductive KSh where
 |bool
 |int (k:IntKind)
 |str
inductive NOp where
 |lookup (ks:List KSh) (kag:Bool) (zv:V) (ok:Bool) (x k:Ar)
 |zcg (ks:List KSh) (kag:Bool) (x k v:Ar)
 |zaL (ks:List KSh) (kag:Bool) (x k:Ar)
 |zcv (ks:List KSh) (kag:Bool) (zv:V) (x k:Ar)
 |zcs (x s v:Ar)
 |zd8 (sz:Nat) (z:List V) (x:Ar)
 |zdQ (x:Ar)
 |nxt (x:Ar)
 |z6r (x:Ar)
 |xtr (cnt:Bool) (x y:Ar)
 |xcm (x y:Ar)
 |bad
 |eqn (neg:Bool) (x:Ar)
 |zaO (neg:Bool) (ks:List KSh) (x y:Ar)
 |zcu (x:Ar)
inductive AOp where
 |nw (op:NOp)
 |cst (v:V)
 |mv (x:Ar)
 |pick (c a b:Ar)
 |un (op:UnOp) (x:Ar)
 |bin (op:BinOp) (x y:Ar)
 |eqb (neg:Bool) (x y:Ar)
 |eqp (neg:Bool) (x:Ar)
 |eqm (neg:Bool) (x:Ar)
 |conv (k:IntKind) (x:Ar)
 |z93 (x:Ar)
 |z4p (x:Ar)
 |fa (off:Nat) (x:Ar)
 |ld (ag:Bool) (n:Nat) (x:Ar)
 |ia (sz:Nat) (x i:Ar)
 |z9X (len sz:Nat) (x i:Ar)
 |ixs (x i:Ar)
 |ixa (ag:Bool) (len sz:Nat) (x i:Ar)
 |len (x:Ar)
 |lens (x:Ar)
 |sls (x:Ar) (lo hi:Option Ar)
 |sll (sz:Nat) (x:Ar) (lo hi:Option Ar)
 |fld (ag:Bool) (off n:Nat) (x:Ar)
 |ze4 (x y:Ar)
 |zew (x y:Ar)
 |build (zs:List V) (ps:List (Nat×Nat×Ar))
 |zet (f:FuncId) (caps:List Ar)
 |z7O (x:Ar)
 |st (n:Nat) (x v:Ar)
 |box (n:Nat) (x:Ar)
 |alloc (zs:List V)
 |bsl (ow:Bool) (sz:Nat) (zs:List (List T)) (ps:List (Nat×Ar))
 |app (sz bytes:Nat) (x y:Ar)
 |ext (x:Ar) (i:Nat)
 |z3r (kag vag:Bool)
 |qT (x:Ar)
 |z2v (sz bytes:Nat) (z:List V) (n:Ar)
 |call (f:FuncId) (args:List Ar)
 |z1w (x:Ar) (args:List Ar)
structure AO where
 dst:Option Nat
 g:Option (Nat×Bool)
 op:AOp
def Ar.v (st:St):Ar->V
 | .s t=>look st.env t
 | .c v=>v
def V.ug:V->V
 | .gd c v=>if c then v else .top
 |v=>v
def Ar.u (st:St) (x:Ar):V:=(x.v st).ug
def V.un (gc:Bool):V->V×List Bool
 | .gd c v=>(v,[!gc||c])
 |v=>(v,[])
def rd (gc:Bool) (st:St) (x:Ar):V×List Bool:=(x.v st).un gc
def V.zF:V->Option T
 | .t x=>some x
 | .own _ _ xs=>some (.lst xs)
 | .zJ=>some (.lst [])
 | .fow _ _ _ xs=>some (.lst xs)
 |_=>none
def V.Zg:V->Option (List T)
 | .agg cs=>cs.mapM V.zF
 |v=>(v.zF).map fun x=>[x]
def zgB (k:IntKind) (a b:Int):Int:=k.wrap ((BitVec.ofInt k.bits a&&& BitVec.ofInt k.bits b).toNat:Int)
def orI (k:IntKind) (a b:Int):Int:=k.wrap ((BitVec.ofInt k.bits a|||BitVec.ofInt k.bits b).toNat:Int)
def z0i (op:BinOp):T->T->Option (T×List Bool)
 | .int k a,.int k' b=>
  if k=k' then
   match op with
   | .add=>some (.int k (k.wrap (a+b)),[])
   | .sub=>some (.int k (k.wrap (a - b)),[])
   | .mul=>some (.int k (k.wrap (a*b)),[])
   | .quo=>some (.int k (k.wrap (a.tdiv b)),[decide (b≠0)])
   | .rem=>some (.int k (a.tmod b),[decide (b≠0)])
   | .and=>some (.int k (zgB k a b),[])
   | .or=>some (.int k (orI k a b),[])
   | .eql=>some (.bool (a==b),[])
   | .neq=>some (.bool (a !=b),[])
   | .lss=>some (.bool (decide (a<b)),[])
   | .leq=>some (.bool (decide (a<=b)),[])
   | .gtr=>some (.bool (decide (a>b)),[])
   | .geq=>some (.bool (decide (a≥b)),[])
   |_=>none
  else none
 | .str a,.str b=>
  match op with
  | .add=>some (.str (a++b),[decide (a.length+b.length<=9223372036854775807)])
  | .eql=>some (.bool (a==b),[])
  | .neq=>some (.bool (!(a==b)),[])
  | .lss=>some (.bool (Op.bytesLess a b),[])
  | .leq=>some (.bool (Op.bytesLess a b||a==b),[])
  | .gtr=>some (.bool (!(Op.bytesLess a b||a==b)),[])
  | .geq=>some (.bool (!(Op.bytesLess a b)),[])
  |_=>none
 |_,_=>none
def setAt (cs:List V) (off:Nat) (vs:List V):List V:=
 match vs with
 |[]=>cs
 |v::r=>setAt (cs.set off v) (off+1) r
def V.parts:V->Option (List V)
 | .agg cs=>some cs
 | .top=>none
 | .tup _=>none
 | .gd _ _=>none
 | .ub _ _=>none
 |v=>some [v]
def z0C (st:St) (gc:Bool):List V->List (Nat×Nat×Ar)->Option (List V×List Bool)
 |cs,[]=>some (cs,[])
 |cs,(off,n,x)::r=>
  match rd gc st x with
  |(v,p)=>
   match v.parts with
   |none=>none
   |some ps=>
    if ps.length=n/\off+n<=cs.length then
     match z0C st gc (setAt cs off ps) r with
     |some (c,q)=>some (c,p++q)
     |none=>none
    else none
def qh (st:St):List Ar->Option (List (Nat×Nat))
 |[]=>some []
 |x::r=>
  match x.v st,qh st r with
  | .ptr k o,some cs=>some ((k,o)::cs)
  |_,_=>none
def y6 (sz:Nat) (xs:List (List T)):Bool:=xs.all fun c=>c.length==sz
def bnd (x:Option Ar) (gc:Bool) (st:St) (d:Int):Option (Int×List Bool):=
 match x with
 |none=>some (d,[])
 |some x=>match rd gc st x with|(.t (.int _ n),p)=>some (n,p)|_=>none
def KSh.ok:KSh->T->Bool
 | .bool,.bool _=>true
 | .int k,.int k' _=>decide (k=k')
 | .str,.str _=>true
 |_,_=>false
def Zj:List KSh->List T->Bool
 |[],[]=>true
 |s::r,x::c=>s.ok x&&Zj r c
 |_,_=>false
def T.eqb:T->T->Bool
 | .bool a,.bool b=>a==b
 | .int _ a,.int _ b=>a==b
 | .str a,.str b=>a==b
 |_,_=>false
def ZX:List T->List T->Bool
 |[],[]=>true
 |x::r,y::c=>x.eqb y&&ZX r c
 |_,_=>false
def yp (ks:List KSh) (es:List (List T×V)):Bool:=es.all fun e=>Zj ks e.1
def yd (k:List T):List (List T×V)->Option Nat
 |[]=>none
 |e::r=>if ZX k e.1 then some 0 else (yd k r).map (· +1)
def z3O (k:List T):List (List T×V)->Option V
 |[]=>none
 |e::r=>if ZX k e.1 then some e.2 else z3O k r
def z3Q (k:List T) (v:V):List (List T×V)->List (List T×V)
 |[]=>[(k,v)]
 |e::r=>if ZX k e.1 then (k,v)::r else e::z3Q k v r
def QG (k:List T):List (List T×V)->List (List T×V)
 |[]=>[]
 |e::r=>if ZX k e.1 then r else e::QG k r
def V.isAgg:V->Bool
 | .agg _=>true
 |_=>false
def qx (ks:List KSh) (kag:Bool) (v:V):Option (List T):=
 match v.Zg with
 |some cs=>if Zj ks cs&&v.isAgg==kag then some cs else none
 |none=>none
def okV (ok:Bool) (v:V) (b:Bool):V:=if ok then .tup [v,.t (.bool b)] else v
def z4e (i:Option Nat):Option (Nat×List Nat)->Option (Nat×List Nat)
 |some (c,bs)=>some (c,match i with|some i=>bs.eraseIdx i|none=>bs)
 |none=>none
def z1Z (kag:Bool) (cs:List T):V:=if kag then .agg (cs.map V.t) else match cs with|[x]=> .t x|_=> .top
def z0d (z:Nat):List (List T×V)->List Nat->Option (List T×V)
 |e::r,b::bs=>if b=z then some e else z0d z r bs
 |_,_=>none
def u8s:List (List T)->Option (List Int)
 |[]=>some []
 |[.int .u8 n]::r=>(u8s r).map (n::·)
 |_=>none
def u8S (xs:List (List T)):Option V:=match u8s xs with|some (n::r)=>some (.t (.str ((n::r).map fun n=>UInt8.ofNat n.toNat)))|_=>none
def Zu (gc:Bool) (st:St):NOp->Option (V×List Bool)
 | .lookup ks kag zv ok x k=>
  match rd gc st x,rd gc st k with
  |(vx,p1),(vk,p2)=>
   match qx ks kag vk with
   |none=>none
   |some cs=>
    match vx with
    | .mp q=>
     match zl st.s.sto q with
     |some (.map kag' es _)=>
      match z3O cs es with
      |some v=>some (okV ok v true,p1++(p2++[kag'==kag,yp ks es]))
      |none=>some (okV ok zv false,p1++(p2++[kag'==kag,yp ks es]))
     |_=>none
    | .t .QB=>some (okV ok zv false,p1++p2)
    |_=>none
 | .eqn neg x=>
  match rd gc st x with
  |(.zJ,p)=>some (.ub True True,p)
  |(.slc _ _ _ _,p)=>some (.t (.bool neg),p)
  |(.own _ _ xs,p)=>some (if neg then .ub True (∀c∈xs,c=[]) else .ub (∀c∈xs,c=[]) True,p)
  |(.t (.lst xs),p)=>some (if neg then .ub True (∀c∈xs,c=[]) else .ub (∀c∈xs,c=[]) True,p)
  |_=>none
 | .zaO neg ks x y=>
  match rd gc st x,rd gc st y with
  |(vx,p1),(vy,p2)=>
   match qx ks true vx,qx ks true vy with
   |some cs,some ds=>some (.t (.bool (if neg then !(ZX cs ds) else ZX cs ds)),p1++p2)
   |_,_=>none
 | .xtr cnt x y=>
  match rd gc st x,rd gc st y with
  |(.t (.str s),p1),(.t (.int .u8 c),p2)=>some (.t (.int .i64 (if cnt then (Go.Lib.countByte s c.toNat.toUInt8:Int) else Go.Lib.indexByte s c.toNat.toUInt8)),p1++p2)
  |_,_=>none
 | .xcm x y=>
  match rd gc st x,rd gc st y with
  |(.t (.str s),p1),(.t (.str r),p2)=>some (.t (.int .i64 (Go.Lib.compareBytes s r)),p1++p2)
  |_,_=>none
 | .zcu x=>
  match rd gc st x with
  |(.t (.lst xs),p)=>(u8S xs).map fun v=>(v,p)
  |(.own _ _ xs,p)=>(u8S xs).map fun v=>(v,p)
  |_=>none
 | .z6r x=>
  match rd gc st x with
  |(.ptr k 0,p)=>
   match zl st.s.sto k with
   |some (.iter q _ seen c)=>
    match zl st.s.sto q,seen.getLast? with
    |some (.map kag es (some (c',bs))),some z=>
     match z0d z es bs with
     |some e=>some (.tup [z1Z kag e.1,e.2],p++[decide (c'=c),decide (bs.Nodup)])
     |none=>none
    |_,_=>none
   |_=>none
  |_=>none
 |_=>none
def zk (gc:Bool) (st:St):AOp->Option (V×List Bool)
 | .nw op=>Zu gc st op
 | .cst v=>some (v,[])
 | .mv x=>some (rd gc st x)
 | .pick c a b=>
  match rd gc st c with
  |(.t (.bool cb),p1)=>
   match rd (gc&&cb) st a,rd (gc&&!cb) st b with
   |(.t (.bool xa),p2),(.t (.bool xb),p3)=>some (.t (.bool (bif cb then xa else xb)),p1++(p2++p3))
   |(.t (.bool xa),p2),(_,_)=>some (.t (.bool xa),p1++(p2++[cb]))
   |(_,_),(.t (.bool xb),p3)=>some (.t (.bool xb),p1++(p3++[!cb]))
   |_,_=>none
  |_=>none
 | .un .not x=>match rd gc st x with|(.t (.bool b),p)=>some (.t (.bool (!b)),p)|_=>none
 | .un .neg x=>match rd gc st x with|(.t (.int k n),p)=>some (.t (.int k (k.wrap (0 - n))),p)|_=>none
 | .un _ _=>none
 | .bin op x y=>
  match rd gc st x,rd gc st y with
  |(.t a,p1),(.t b,p2)=>(z0i op a b).map fun (r,p3)=>(.t r,p1++(p2++p3))
  |_,_=>none
 | .eqb neg x y=>
  match rd gc st x,rd gc st y with
  |(.t (.bool a),p1),(.t (.bool b),p2)=>some (.t (.bool (if neg then !(a==b) else a==b)),p1++p2)
  |_,_=>none
 | .eqp neg x=>
  match rd gc st x with
  |(.t .z11,p)=>some (.t (.bool (!neg)),p)
  |(.ptr _ _,p)=>some (.t (.bool neg),p)
  |(.t (.ptr _),p)=>some (.t (.bool neg),p)
  |(.fpt _ _ _,p)=>some (.t (.bool neg),p)
  |(.gpt k ver _,p)=>match zl st.s.sto k with|some (.gro w _)=>some (.t (.bool neg),p++[decide (ver=w)])|_=>none
  |_=>none
 | .eqm neg x=>
  match rd gc st x with
  |(.t .QB,p)=>some (.t (.bool (!neg)),p)
  |(.mp _,p)=>some (.t (.bool neg),p)
  |_=>none
 | .conv k x=>match rd gc st x with|(.t (.int _ n),p)=>some (.t (.int k (k.wrap n)),p)|_=>none
 | .z93 x=>match rd gc st x with|(.t (.str s),p)=>some (.t (.str s),p)|_=>none
 | .z4p x=>
  match rd gc st x with
  |(.ptr k o,p)=>some (.ptr k o,p)
  |(.t (.ptr cs),p)=>some (.t (.ptr cs),p)
  |(.t (.fn f),p)=>some (.t (.fn f),p)
  |(.fn f c,p)=>some (.fn f c,p)
  |(.fpt k i o,p)=>some (.fpt k i o,p)
  |(.gpt k ver o,p)=>match zl st.s.sto k with|some (.gro w _)=>some (.gpt k ver o,p++[decide (ver=w)])|_=>none
  |_=>none
 | .fa off x=>
  match rd gc st x with
  |(.ptr k o,p)=>some (.ptr k (o+off),p)
  |(.t (.ptr cs),p)=>some (.t (.ptr (cs.drop off)),p)
  |(.fpt k i o,p)=>some (.fpt k i (o+off),p)
  |(.gpt k ver o,p)=>match zl st.s.sto k with|some (.gro w _)=>some (.gpt k ver (o+off),p++[decide (0<w),decide (ver=w)])|_=>none
  |_=>none
 | .ld ag n x=>
  match rd gc st x with
  |(.t (.ptr cs),p)=>
   if ag then (if n<=cs.length then some (.agg ((cs.take n).map V.t),p) else none)
   else match cs[0]? with|some c=>some (.t c,p)|none=>none
  |(.ptr k o,p)=>
   match zl st.s.sto k with
   |some (.cells cs)=>
    if ag then (if o+n<=cs.length then some (.agg (((cs.drop o).take n)),p) else none)
    else match cs[o]? with|some c=>some (c,p)|none=>none
   |_=>none
  |(.gpt k ver o,p)=>
   match zl st.s.sto k with
   |some (.gro w cs)=>
    if ag then (if o+n<=cs.length then some (.agg (((cs.drop o).take n)),p++[decide (0<w),decide (ver=w)]) else none)
    else match cs[o]? with|some c=>some (c,p++[decide (0<w),decide (ver=w)])|none=>none
   |_=>none
  |(.fpt k i o,p)=>
   match zl st.s.sto k with
   |some (.wo os)=>
    match os[i]? with
    |some cs=>
     if ag then (if o+n<=cs.length then some (.agg (((cs.drop o).take n)),p) else none)
     else match cs[o]? with|some c=>some (c,p)|none=>none
    |none=>none
   |_=>none
  |_=>none
 | .ia sz x i=>
  match rd gc st x,rd gc st i with
  |(v,p1),(.t (.int _ n),p2)=>
   match v with
   | .slc k off len s=>if s=sz then some (.ptr k (off+n.toNat*sz),p1++(p2++[decide (0<=n),decide (n<(len:Int))])) else none
   | .gsl k ver off len s=>
    match zl st.s.sto k with
    |some (.gro w _)=>if s=sz then some (.gpt k ver (off+n.toNat*sz),p1++(p2++[decide (0<=n),decide (n<(len:Int)),decide (0<w),decide (ver=w)])) else none
    |_=>none
   |v=>match v.zF with
    |some (.lst xs)=>match xs[n.toNat]? with
     |some c=>if c.length=sz/\sz≠0 then some (.t (.ptr c),p1++(p2++[decide (0<=n)])) else none
     |none=>none
    |_=>none
  |_,_=>none
 | .z9X len sz x i=>
  match rd gc st x,rd gc st i with
  |(.ptr k o,p1),(.t (.int _ n),p2)=>some (.ptr k (o+n.toNat*sz),p1++(p2++[decide (0<=n),decide (n<(len:Int))]))
  |(.t (.ptr cs),p1),(.t (.int _ n),p2)=>some (.t (.ptr (cs.drop (n.toNat*sz))),p1++(p2++[decide (0<=n),decide (n<(len:Int))]))
  |_,_=>none
 | .ixs x i=>
  match rd gc st x,rd gc st i with
  |(.t (.str s),p1),(.t (.int _ n),p2)=>match s[n.toNat]? with
   |some b=>some (.t (.int .u8 b.toNat),p1++(p2++[decide (0<=n)]))
   |none=>none
  |_,_=>none
 | .ixa ag len sz x i=>
  match rd gc st x,rd gc st i with
  |(.agg cs,p1),(.t (.int _ n),p2)=>
   if ag then (if n.toNat*sz+sz<=cs.length then some (.agg (((cs.drop (n.toNat*sz)).take sz)),p1++(p2++[decide (0<=n),decide (n<(len:Int))])) else none)
   else match cs[n.toNat*sz]? with|some c=>some (c,p1++(p2++[decide (0<=n),decide (n<(len:Int))]))|none=>none
  |_,_=>none
 | .len x=>
  match rd gc st x with
  |(.t (.lst xs),p)=>some (.t (.int .i64 xs.length),p)
  |(.own _ _ xs,p)=>some (.t (.int .i64 xs.length),p)
  |(.zJ,p)=>some (.t (.int .i64 0),p)
  |(.slc _ _ n _,p)=>some (.t (.int .i64 n),p)
  |(.gsl k ver _ n _,p)=>match zl st.s.sto k with|some (.gro w _)=>some (.t (.int .i64 n),p++[decide (ver=w)])|_=>none
  |(.fow _ _ _ xs,p)=>some (.t (.int .i64 xs.length),p)
  |_=>none
 | .lens x=>match rd gc st x with|(.t (.str s),p)=>some (.t (.int .i64 s.length),p)|_=>none
 | .sls x lo hi=>
  match rd gc st x with
  |(.t (.str s),p)=>
   match bnd lo gc st 0,bnd hi gc st s.length with
   |some (l,p1),some (h,p2)=>some (.t (.str ((s.take h.toNat).drop l.toNat)),p++(p1++(p2++[decide (0<=l),decide (l<=h),decide (h<=(s.length:Int))])))
   |_,_=>none
  |_=>none
 | .sll sz x lo hi=>
  match rd gc st x with
  |(v,p)=>match v.zF with
   |some (.lst xs)=>
    match bnd lo gc st 0,bnd hi gc st xs.length with
    |some (l,p1),some (h,p2)=>some (.t (.lst ((xs.take h.toNat).drop l.toNat)),p++(p1++(p2++[decide (0<=l),decide (l<=h),decide (h<=(xs.length:Int)),y6 sz xs])))
    |_,_=>none
   |_=>match v with
    | .slc k off len s=>
     match bnd lo gc st 0,bnd hi gc st len with
     |some (l,p1),some (h,p2)=>some (.slc k off h.toNat s,p++(p1++(p2++[decide (l=0),decide (0<=h),decide (h<=(len:Int)),s==sz])))
     |_,_=>none
    | .gsl k ver off len s=>
     match zl st.s.sto k,bnd lo gc st 0,bnd hi gc st len with
     |some (.gro w _),some (l,p1),some (h,p2)=>some (.gsl k ver (off+l.toNat*s) (h.toNat - l.toNat) s,p++(p1++(p2++[decide (0<=l),decide (l<=h),decide (h<=(len:Int)),s==sz,decide (ver=w)])))
     |_,_,_=>none
    |_=>none
 | .fld ag off n x=>
  match rd gc st x with
  |(.agg cs,p)=>
   if ag then (if off+n<=cs.length then some (.agg (((cs.drop off).take n)),p) else none)
   else match cs[off]? with|some c=>some (c,p)|none=>none
  |_=>none
 | .ze4 x y=>
  match rd gc st x,rd gc st y with
  |(.t (.int k a),p1),(.t (.int k' b),p2)=>if k=k' then some (.t (.int k (if b>a then b else a)),p1++p2) else none
  |_,_=>none
 | .zew x y=>
  match rd gc st x,rd gc st y with
  |(.t (.int k a),p1),(.t (.int k' b),p2)=>if k=k' then some (.t (.int k (if b<a then b else a)),p1++p2) else none
  |_,_=>none
 | .build zs ps=>
  match z0C st gc zs ps with
  |some (cs,p)=>some (.agg cs,p)
  |none=>none
 | .ext x i=>
  match rd gc st x with
  |(.tup vs,p)=>match vs[i]? with|some v=>some (v,p)|none=>none
  |_=>none
 | .zet f caps=>
  match qh st caps with
  |some cs=>some (.fn f cs,[])
  |none=>none
 |_=>none
def ZP (st:St) (sz:Nat):List (List T)->List (Nat×Ar)->Option (List (List T))
 |xs,[]=>some xs
 |xs,(i,x)::r=>
  match (x.u st).Zg with
  |some c=>if c.length=sz/\i<xs.length then ZP st sz (xs.set i c) r else none
  |none=>none
def V.Zq:V->Bool
 | .t _=>true
 | .zJ=>true
 | .own _ _ _=>true
 | .slc _ _ _ _=>true
 | .ptr _ _=>true
 | .mp _=>true
 | .fn _ _=>true
 | .fpt _ _ _=>true
 | .gpt _ _ _=>true
 | .gsl _ _ _ _ _=>true
 | .fow _ _ _ _=>true
 |_=>false
def Z9:List Bool->Prop
 |[]=>True
 |p::r=>p=true/\Z9 r
def yL:V->Bool
 | .ptr _ _=>true
 | .mp _=>true
 | .fpt _ _ _=>true
 | .gpt _ _ _=>true
 | .gd _ (.ptr _ _)=>true
 | .gd _ (.mp _)=>true
 | .gd _ (.fpt _ _ _)=>true
 | .gd _ (.gpt _ _ _)=>true
 |_=>false
def Yd:V->Bool
 | .gpt _ _ _=>true
 | .gsl _ _ _ _ _=>true
 | .gd _ (.gpt _ _ _)=>true
 | .gd _ (.gsl _ _ _ _ _)=>true
 |_=>false
def Z8 (st:St):AOp->Bool
 | .fa _ x=>Yd (x.v st)
 | .z4p x=>Yd (x.v st)
 | .eqp _ x=>Yd (x.v st)
 | .ia _ x _=>Yd (x.v st)
 | .len x=>Yd (x.v st)
 | .sll _ x _ _=>Yd (x.v st)
 | .ld _ _ x=>yL (x.v st)
 | .nw (.lookup _ _ _ _ x _)=>yL (x.v st)
 | .nw (.z6r x)=>yL (x.v st)
 |_=>false
def zfx (P:Program) (f:FuncId):Prop:=∀args w,(callFunc f args).run P w= .ok (.enter f args) w
def w4 (P:Program) (f:FuncId) (vs:List V) (base:Nat) (sto:List (Nat×z5)) (out:Out):Prop:=
 zfx P f/\(∀k o,(k,o)∈out.ob->zl sto k≠none∨(base<=k/\k<base+out.n))/\
 ∀(Λ:L) (args:Array Value),Z7 Λ ⟨sto,Λ.nxt⟩->base+out.n<=Λ.nxt->(∀k,base<=k->k<base+out.n->k<Λ.nxt/\ya Λ k/\zl sto k=none)->args.size=vs.length->(∀(j:Nat) (v:Value) (x:V),args[j]?=some v->vs[j]?=some x->zy Λ v x)->
  Calls P f args Λ.w fun e w'=>∃v Λ',e= .returned v/\Λ'.w=w'/\Kp Λ Λ'/\Λ'.nxt=Λ.nxt/\Z7 Λ' ⟨Zr sto out.ob,Λ.nxt⟩/\zy Λ' v out.v/\
   ∀k,ya Λ k->zl sto k=none->(base+out.n<=k∨(k<base/\out.rd=false))->ya Λ' k
def yu (st:St):List Ar->List V
 |[]=>[]
 |x::r=>x.u st::yu st r
def qS:List (Nat×Nat)->List V
 |[]=>[]
 |(k,o)::r=> .ptr k o::qS r
def FnL (P:Program) (f:FuncId) (vs:List V) (base:Nat) (sto:List (Nat×z5)) (out:Out):Prop:=
 ∀s,(∀k,k<base->zl s k=zl sto k)->w4 P f vs base s out
def QQ (P:Program) (f:FuncId) (vs:List V) (base:Nat) (sto:List (Nat×z5)) (K:Out->Prop):Prop:=
 ∃out,(if out.rd then FnL P f vs base sto out else ∀s,w4 P f vs base s out)/\K out
def qP (P:Program) (f:FuncId) (vs:List V) (base:Nat) (sto:List (Nat×z5)) (K:Out->Prop):Prop:=
 ∃out,(if out.rd then w4 P f vs base sto out else ∀s,w4 P f vs base s out)/\K out
def zgM (P:Program) (gc:Bool) (f:FuncId) (vs:List V) (base:Nat) (sto:List (Nat×z5)) (K:Out->Prop):Prop:=
 ∃out:Out,(gc=true->(if out.rd then w4 P f vs base sto out else ∀s,w4 P f vs base s out))/\(out.ob=[]/\out.n=0)/\K {out with v:= .gd gc out.v}
def Q2 (P:Program) (gc:Bool) (base:Nat) (st:St) (K:Out->Prop):AOp->Prop
 | .call f args=>zgM P gc f (yu st args) base st.s.sto K
 |_=>False
def yg (st:St) (K:Out->Prop):NOp->Prop
 | .zcg ks kag x k v=>
  match x.u st,qx ks kag (k.u st) with
  | .mp q,some cs=>
   match zl st.s.sto q with
   |some (.map kag' es _)=>(kag'=kag/\yp ks es=true)/\K {v:= .top,ob:=[(q,.map kag (z3Q cs (v.u st) es) none)],rd:=true}
   |_=>False
  |_,_=>False
 | .zaL ks kag x k=>
  match x.u st,qx ks kag (k.u st) with
  | .mp q,some cs=>
   match zl st.s.sto q with
   |some (.map kag' es sx)=>(kag'=kag/\yp ks es=true)/\K {v:= .top,ob:=[(q,.map kag (QG cs es) (z4e (yd cs es) sx))],rd:=true}
   |_=>False
  |_,_=>False
 | .zdQ x=>
  match x.u st with
  | .mp q=>
   match zl st.s.sto q with
   |some (.map kag _ _)=>K {v:= .top,ob:=[(q,.map kag [] none)],rd:=true}
   |_=>False
  |_=>False
 | .zcv ks kag zv x k=>
  match x.u st,qx ks kag (k.u st) with
  | .mp q,some cs=>
   match zl st.s.sto q with
   |some (.map kag' es (some (c,bs)))=>
    match yd cs es with
    |some i=>
     match es[i]?,bs[i]? with
     |some e,some b=>(kag'=kag/\yp ks es=true)/\K {v:= .tup [e.2,.t (.int .i64 b)],ob:=[(q,.map kag es (some (c,bs)))],rd:=true}
     |_,_=>False
    |none=>(kag'=kag/\yp ks es=true)/\K {v:= .tup [zv,.t (.int .i64 c)],ob:=[(q,.map kag (es++[(cs,zv)]) (some (c+1,bs++[c])))],rd:=true}
   |_=>False
  |_,_=>False
 | .zcs x s v=>
  match x.u st,s.u st with
  | .mp q,.t (.int _ z)=>
   match zl st.s.sto q with
   |some (.map kag es (some (c,bs)))=>
    match bs.findIdx? (fun b:Nat=>decide (((b:Nat):Int)=z)) with
    |some i=>K {v:= .top,ob:=[(q,.map kag (es.modify i fun e=>(e.1,v.u st)) (some (c,bs)))],rd:=true}
    |none=>False
   |_=>False
  |_,_=>False
 |_=>False
def z1Y (st:St) (sz:Nat) (y:V):Option (List V×Nat):=
 match y.zF with
 |some (.lst ys)=>if y6 sz ys then some (ys.flatten.map V.t,ys.length) else none
 |_=>
  match y with
  | .slc k off len s=>
   match zl st.s.sto k with
   |some (.cells cs)=>if s=sz/\off+len*sz<=cs.length then some ((cs.drop off).take (len*sz),len) else none
   |_=>none
  | .gsl k r off len s=>
   match zl st.s.sto k with
   |some (.gro r' cs)=>if s=sz/\r=r'/\off+len*sz<=cs.length then some ((cs.drop off).take (len*sz),len) else none
   |_=>none
  |_=>none
def evX (P:Program) (base:Nat) (st:St) (K:Out->Prop):AOp->Prop
 | .st n x v=>
  match x.u st with
  | .ptr k o=>
   match zl st.s.sto k with
   |some (.cells cs)=>
    match (v.u st).parts with
    |some vs=>(decide (vs.length=n/\o+n<=cs.length)=true/\vs.all V.Zq=true)/\K {v:= .top,ob:=[(k,.cells (setAt cs o vs))],rd:=true}
    |none=>False
   |_=>False
  |_=>False
 | .box n x=>
  match (x.u st).parts with
  |some vs=>(decide (vs.length=n)=true/\vs.all V.Zq=true)/\K {v:= .ptr base 0,ob:=[(base,.cells vs)],n:=1}
  |none=>False
 | .alloc zs=>K {v:= .ptr base 0,ob:=[(base,.cells zs)],n:=1}
 | .bsl ow sz zs ps=>
  match ZP st sz zs ps with
  |some xs=>y6 sz xs=true/\(if ow then (if xs.isEmpty then K {v:= .zJ} else K {v:= .own base sz xs,ob:=[(base,.arr xs.length)],n:=1})∨K {v:= .t (.lst xs)} else K {v:= .t (.lst xs)})
  |none=>False
 | .app sz bytes x y=>
  match (y.u st).zF with
  |some (.lst ys)=>
   match x.u st with
   | .zJ=>y6 sz ys=true/\ys.length*bytes<=140737488355328/\ys.length<=9223372036854775807/\K {v:= .own base sz ys,ob:=[(base,.arr ys.length)],n:=1}
   | .own k s xs=>
    match zl st.s.sto k with
    |some (.arr n)=>s=sz/\n=xs.length/\y6 sz ys=true/\(xs.length+ys.length)*bytes<=140737488355328/\xs.length+ys.length<=9223372036854775807/\
      K {v:= .own k sz (xs++ys),ob:=[(k,.arr (xs.length+ys.length))],rd:=true}
    |_=>False
   |_=>False
  |_=>False
 | .z2v sz bytes z n=>
  match n.u st with
  | .t (.int _ m)=>(0<=m/\m*bytes<=281474976710656/\m<=9223372036854775807/\z.length=sz)/\
    K {v:= .slc base 0 m.toNat sz,ob:=[(base,.cells (List.replicate m.toNat z).flatten)],n:=1}
  |_=>False
 | .call f args=>QQ P f (yu st args) base st.s.sto K
 | .z1w x args=>
  match x.u st with
  | .t (.fn f)=>qP P f (yu st args) base st.s.sto K
  | .fn f caps=>qP P f (yu st args++qS caps) base st.s.sto K
  |_=>False
 | .z3r kag _=>K {v:= .mp base,ob:=[(base,.map kag [] (some (0,[])))],n:=1}
 | .qT x=>
  match x.u st with
  | .mp q=>
   match zl st.s.sto q with
   |some (.map _ _ (some (c,_)))=>K {v:= .ptr base 0,ob:=[(base,.iter q c [] c)],n:=1,rd:=true}
   |_=>False
  |_=>False
 | .z7O x=>
  match x.u st with
  | .t .QB=>K {v:= .t (.int .i64 0),rd:=true}
  | .mp q=>
   match zl st.s.sto q with
   |some (.map _ es _)=>K {v:= .t (.int .i64 es.length),rd:=true}
   |_=>False
  |_=>False
 | .nw op=>yg st K op
 |_=>False
def YN (st:St) (sz:Nat):List V->List (Nat×Ar)->Option (List V)
 |cs,[]=>some cs
 |cs,(i,x)::r=>
  match (x.u st).parts with
  |some ps=>if ps.length=sz/\i*sz+sz<=cs.length/\ps.all V.Zq=true then YN st sz (setAt cs (i*sz) ps) r else none
  |none=>none
inductive z1b (st:St) (base:Nat):AOp->Out->Prop
 |stG {n:Nat} {x v:Ar} {k ver o w:Nat} {cs vs:List V} (hx:x.u st= .gpt k ver o) (hk:zl st.s.sto k=some (.gro w cs)) (hw:ver=w) (hv:(v.u st).parts=some vs) (hn:vs.length=n) (ho:o+n<=cs.length) (hc:vs.all V.Zq=true):
   z1b st base (.st n x v) {v:= .top,ob:=[(k,.gro w (setAt cs o vs))],rd:=true}
 |zcH {sz bytes:Nat} {x y:Ar} {vs:List V} {m:Nat} (hx:x.u st= .zJ) (hy:z1Y st sz (y.u st)=some (vs,m)) (hc:vs.all V.Zq=true) (h1:m*bytes<=140737488355328) (h2:m<=9223372036854775807):
   z1b st base (.app sz bytes x y) {v:= .gsl base 1 0 m sz,ob:=[(base,.gro 1 vs)],n:=1,rd:=true}
 |zau {sz bytes:Nat} {x y:Ar} {k ver len w:Nat} {cs vs:List V} {m:Nat} (hx:x.u st= .gsl k ver 0 len sz) (hk:zl st.s.sto k=some (.gro w cs)) (hw:ver=w) (hl:cs.length=len*sz) (hy:z1Y st sz (y.u st)=some (vs,m)) (hc:vs.all V.Zq=true)
   (h1:(len+m)*bytes<=140737488355328) (h2:len+m<=9223372036854775807):
   z1b st base (.app sz bytes x y) {v:= .gsl k (w+1) 0 (len+m) sz,ob:=[(k,.gro (w+1) (cs++vs))],rd:=true}
 |zaH {ow:Bool} {sz:Nat} {zs:List (List T)} {ps:List (Nat×Ar)} {cs:List V} (h:YN st sz (zs.flatten.map V.t) ps=some cs):
   z1b st base (.bsl ow sz zs ps) {v:= .slc base 0 zs.length sz,ob:=[(base,.cells cs)],n:=1}
 |z80 {sz:Nat} {z:List V} {x:Ar} {k ver off len w:Nat} {cs:List V} (hx:x.u st= .gsl k ver off len sz) (hk:zl st.s.sto k=some (.gro w cs)) (hw:ver=w) (ho:off+len*sz<=cs.length):
   z1b st base (.nw (.zd8 sz z x)) {v:= .top,ob:=[(k,.gro w (setAt cs off (List.replicate len z).flatten))],rd:=true}
def evY (base:Nat) (st:St) (K:Out->Prop) (op:AOp):Prop:=∃out,z1b st base op out/\K out
def zd7 (P:Program) (gc:Bool) (base:Nat) (st:St) (K:Out->Prop) (op:AOp):Prop:=
 Q2 P gc base st K op∨((gc=true->evX P base st K op∨evY base st K op)/\(gc=false->K {v:= .gd false .top,rd:=Z8 st op}))
def evU (P:Program) (base:Nat) (st:St) (op:AOp) (K:Out->Prop):Prop:=
 match zk true st op with
 |some (v,ps)=>Z9 ps/\K {v:=v,rd:=Z8 st op}
 |none=>evX P base st K op∨evY base st K op
def z4s (want:Bool):V->Option Bool
 | .t (.bool b)=>some (cond want b (!b))
 | .gd c (.t (.bool b))=>some (c&&cond want b (!b))
 | .gd false .top=>some false
 |_=>none
def evO (P:Program) (base:Nat) (st:St) (ao:AO) (K:Out->Prop):Prop:=
 match ao.g with
 |none=>evU P base st ao.op K
 |some (s,want)=>
  match z4s want (look st.env s) with
  |none=>False
  |some gc=>
   match zk gc st ao.op with
   |some (v,ps)=>Z9 (ps.map fun p=>!gc||p)/\K {v:= .gd gc v,rd:=Z8 st ao.op}
   |none=>zd7 P gc base st K ao.op
def evR (P:Program) (base:Nat) (st:St):List AO->List (Bool×Bool)->(Nat->St->List (Bool×Bool)->Prop)->Prop
 |[],fl,K=>K base st fl
 |ao::r,fl,K=>evO P base st ao fun out=>evR P (base+out.n) (st.app ao.dst out) r (fl++[(out.rd,!out.ob.isEmpty||decide (0<out.n))]) K
def ZO (P:Program) (t:TypeId):Option Nat:=(P.info? t).map (·.size)
def Zd (P:Program) (t:TypeId):Bool:=
 match P.underlying t with
 |some (.struct _)|some (.array _ _)=>true
 |_=>false
def QZ:Value->Option V
 | .bool b=>some (.t (.bool b))
 | .int k n=>some (.t (.int k n))
 | .string s=>some (.t (.str s.data.toList))
 | .pointer none=>some (.t .z11)
 | .map none=>some (.t .QB)
 | .nilFunc=>some (.t .z3I)
 | .slice none 0 0=>some .zJ
 |_=>none
def opA:Operand->Option Ar
 | .tmp t=>some (.s t)
 | .const v=>(QZ v).map .c
 | .func f=>some (.c (.t (.fn f)))
 | .global _=>none
def z03:Option Operand->Option (Option Ar)
 |some y=>(opA y).map some
 |none=>some none
def zeroV (P:Program):Nat->TypeId->Option (List V)
 |0,_=>none
 |n+1,t=>
  match P.underlying t with
  |some .bool=>some [.t (.bool false)]
  |some (.int k)=>some [.t (.int k 0)]
  |some .string=>some [.t (.str [])]
  |some (.pointer _)=>some [.t .z11]
  |some (.map _ _)=>some [.t .QB]
  |some (.func _ _ _)=>some [.t .z3I]
  |some (.slice _)=>some [.zJ]
  |some (.struct fs)=>fs.toList.foldr (fun f acc=>match zeroV P n f.type,acc with|some a,some b=>some (a++b)|_,_=>none) (some [])
  |some (.array k e)=>(zeroV P n e).map fun z=>(List.replicate k z).flatten
  |_=>none
def z81:Value->V->Bool
 | .bool b,.t (.bool c)=>b==c
 | .int k n,.t (.int j m)=>k==j&&n==m
 | .string s,.t (.str l)=>s.data.toList==l
 | .pointer none,.t .z11=>true
 | .map none,.t .QB=>true
 | .nilFunc,.t .z3I=>true
 | .slice none 0 0,.zJ=>true
 |_,_=>false
def Wh:List Value->List V->Bool
 |[],[]=>true
 |v::vs,x::xs=>z81 v x&&Wh vs xs
 |_,_=>false
def y8 (P:Program) (t:TypeId):Option (List V):=
 match P.info? t,zeroV P 20 t with
 |some i,some zs=>
  match i.zero with
  |some z=>if Wh z.cells.toList zs&&zs.length==i.size then some zs else none
  |none=>none
 |_,_=>none
def zgL (ops:Array Oper) (t:Nat):Bool:=
 ops.any fun o=>
  match o.op with
  | .call {callee:= .builtin .append,args,..}=>match (args[1]?:Option Operand) with|some (.tmp u)=>u==t|_=>false
  |_=>false
def partsOf (place:Nat->Option (Nat×Nat)):List (Nat×Operand)->Option (List (Nat×Nat×Ar))
 |[]=>some []
 |(i,x)::r=>
  match place i,opA x,partsOf place r with
  |some (off,n),some a,some l=>some ((off,n,a)::l)
  |_,_,_=>none
def placesOf (P:Program) (fs:Array Field):Option (List (Nat×Nat)):=fs.toList.mapM (fun f=>(P.info? f.type).map fun i=>(f.offset,i.size))
def slotsOf:List (Nat×Operand)->Option (List (Nat×Ar))
 |[]=>some []
 |(i,x)::r=>
  match opA x,slotsOf r with
  |some a,some l=>some ((i,a)::l)
  |_,_=>none
def z1O (P:Program) (f:FuncId):Option (Option Bool):=
 match P.funcs[f]? with
 |some fn=>
  if fn.body.isNone/\fn.origin= "" then
   if fn.name= "internal/bytealg.CountString" then some (some true)
   else if fn.name= "internal/bytealg.IndexByteString" then some (some false)
   else if fn.name= "internal/bytealg.abigen_runtime_cmpstring" then some none else none
  else none
 |none=>none
def y4 (P:Program) (ops:Array Oper) (o:Oper):Option AOp:=
 match o.op with
 | .move (.tmp t)| .assign (.tmp t)=>some (.mv (.s t))
 | .move (.const v)| .assign (.const v)=>(QZ v).map .cst
 | .move (.func f)| .assign (.func f)=>some (.cst (.t (.fn f)))
 | .pick c a b=>do some (.pick (←opA c) (←opA a) (←opA b))
 | .unOp op _ x=>do some (.un op (←opA x))
 | .binOp op xt x y _=>
  match P.underlying xt with
  |some (.int _)|some .string=>do some (.bin op (←opA x) (←opA y))
  |some .bool=>
   match op with
   | .eql=>do some (.eqb false (←opA x) (←opA y))
   | .neq=>do some (.eqb true (←opA x) (←opA y))
   |_=>none
  |some (.pointer _)=>
   match op,y with
   | .eql,.const (.pointer none)=>do some (.eqp false (←opA x))
   | .neq,.const (.pointer none)=>do some (.eqp true (←opA x))
   |_,_=>none
  |some (.map _ _)=>
   match op,y with
   | .eql,.const (.map none)=>do some (.eqm false (←opA x))
   | .neq,.const (.map none)=>do some (.eqm true (←opA x))
   |_,_=>none
  |_=>none
 | .convert src dst x=>
  match P.underlying src,P.underlying dst with
  |some (.int _),some (.int k)=>do some (.conv k (←opA x))
  |some .string,some .string=>do some (.z93 (←opA x))
  |_,_=>none
 | .nilCheck x=>do some (.z4p (←opA x))
 | .fieldAddr s x f=>
  match P.underlying s with
  |some (.struct fs)=>do
   let fd ←fs[f]?
   let n ←ZO P fd.type
   if n=0 then none else some (.fa fd.offset (←opA x))
  |_=>none
 | .load t x=>do
  let n ←ZO P t
  match P.underlying t with
  |none=>none
  |some _=>
   if Zd P t then some (.ld true n (←opA x))
   else some (.ld false 1 (←opA x))
 | .store t x v=>do
  let n ←ZO P t
  some (.st n (←opA x) (←opA v))
 | .indexAddr t x ix=>
  match P.underlying t with
  |some (.slice e)=>do some (.ia (←ZO P e) (←opA x) (←opA ix))
  |some (.array n e)=>do some (.z9X n (←ZO P e) (←opA x) (←opA ix))
  |_=>none
 | .index t x ix=>
  match P.underlying t with
  |some .string=>do some (.ixs (←opA x) (←opA ix))
  |some (.array n e)=>
   match P.underlying e with
   |none=>none
   |some _=>do some (.ixa (Zd P e) n (←ZO P e) (←opA x) (←opA ix))
  |_=>none
 | .slice t x lo hi none=>
  match P.underlying t with
  |some .string=>do
   let l ←z03 lo
   let h ←z03 hi
   some (.sls (←opA x) l h)
  |some (.slice e)=>do
   let l ←z03 lo
   let h ←z03 hi
   some (.sll (←ZO P e) (←opA x) l h)
  |_=>none
 | .field t x f=>
  match P.underlying t with
  |some (.struct fs)=>do
   let fd ←fs[f]?
   let n ←ZO P fd.type
   match P.underlying fd.type with
   |none=>none
   |some _=>some (.fld (Zd P fd.type) fd.offset n (←opA x))
  |_=>none
 | .build t parts=>
  match P.underlying t with
  |some (.struct fs)=>do
   let pl ←placesOf P fs
   some (.build (←y8 P t) (←partsOf (pl.toArray[·]?) parts.toList))
  |some (.array _ e)=>do
   let sz ←ZO P e
   some (.build (←y8 P t) (←partsOf (fun i=>some (i*sz,sz)) parts.toList))
  |_=>none
 | .makeFunc (.func f) first caps=>do
  if first.isEmpty then some (.zet f (←caps.toList.mapM opA)) else none
 | .alloc t=>do some (.alloc (←y8 P t))
 | .box t x=>do some (.box (←ZO P t) (←opA x))
 | .buildSlice t n parts=>
  match P.underlying t with
  |some (.slice e)=>do
   let sz ←ZO P e
   let zs ←y8 P e
   let z ←zs.mapM V.zF
   if n*sz<=16777216 then some (.bsl (!(o.dst.any (zgL ops))) sz (List.replicate n z) (←slotsOf parts.toList)) else none
  |_=>none
 | .extract x ix=>do some (.ext (←opA x) ix)
 | .makeMap t none=>
  match P.underlying t with
  |some (.map k e)=>some (.z3r (Zd P k) (Zd P e))
  |_=>none
 | .makeSlice t (.tmp l) (.tmp c)=>
  match P.underlying t with
  |some (.slice e)=>do
   let inf ←P.info? e
   if l=c then some (.z2v inf.size inf.bytes (←y8 P e) (.s l)) else none
  |_=>none
 | .call {callee:= .builtin .len,args,argTypes}=>
  match argTypes[0]?,args[0]? with
  |some t,some x=>
   match P.underlying t with
   |some .string=>do some (.lens (←opA x))
   |some (.slice _)=>do some (.len (←opA x))
   |some (.map _ _)=>do some (.z7O (←opA x))
   |_=>none
  |_,_=>none
 | .call {callee:= .builtin .max,args,..}=>
  match args.toList with
  |[x,y]=>do some (.ze4 (←opA x) (←opA y))
  |_=>none
 | .call {callee:= .builtin .min,args,..}=>
  match args.toList with
  |[x,y]=>do some (.zew (←opA x) (←opA y))
  |_=>none
 | .call {callee:= .builtin .append,args,argTypes}=>
  match args.toList,argTypes.toList with
  |[x,y],[t,u]=>
   if t=u then
    match P.underlying t with
    |some (.slice e)=>do
     let inf ←P.info? e
     let z ←inf.zero
     if inf.size=0∨z.cells.size≠inf.size then none else some (.app inf.size inf.bytes (←opA x) (←opA y))
    |_=>none
   else none
  |_,_=>none
 | .call {callee:= .value (.func f),args,..}=>
  match z1O P f with
  |some _=>none
  |none=>do some (.call f (←args.toList.mapM opA))
 | .call {callee:= .value (.tmp t),args,..}=>do some (.z1w (.s t) (←args.toList.mapM opA))
 | .range t x=>
  match P.underlying t with
  |some (.map _ _)=>do some (.qT (←opA x))
  |_=>none
 |_=>none
def YC (P:Program):Nat->List Field->Option (List KSh)
 |_,[]=>some []
 |i,f::r=>
  if f.offset=i/\f.name≠ "_" then
   match P.underlying f.type,YC P (i+1) r with
   |some .bool,some l=>some (.bool::l)
   |some (.int k),some l=>some (.int k::l)
   |some .string,some l=>some (.str::l)
   |_,_=>none
  else none
def YL (P:Program) (t:TypeId):Option (List KSh×Bool):=
 match P.underlying t with
 |some .bool=>some ([.bool],false)
 |some (.int k)=>some ([.int k],false)
 |some .string=>some ([.str],false)
 |some (.struct fs)=>if P.stoodInHeld t=false/\P.eqGuardType P.depth t=false then (YC P 0 fs.toList).map (·,true) else none
 |_=>none
def Qi (P:Program) (t:TypeId):Option V:=
 match y8 P t,(P.info? t).bind (·.zero) with
 |some zs,some (.agg _)=>some (.agg zs)
 |some [z],some (.bool _)=>some z
 |some [z],some (.int _ _)=>some z
 |some [z],some (.string _)=>some z
 |some [z],some (.pointer _)=>some z
 |some [z],some (.slice _ _ _)=>some z
 |some [z],some (.map _)=>some z
 |_,_=>none
def z7c (P:Program) (o:Oper):Option NOp:=
 match o.op with
 | .lookup t x k ok=>
  match P.underlying t with
  |some (.map kt et)=>do
   let (ks,kag)←YL P kt
   some (.lookup ks kag (←Qi P et) ok (←opA x) (←opA k))
  |_=>none
 | .mapUpdate t x k v=>
  match P.underlying t with
  |some (.map kt _)=>do
   let (ks,kag)←YL P kt
   some (.zcg ks kag (←opA x) (←opA k) (←opA v))
  |_=>none
 | .mapEntry t x k=>
  match P.underlying t with
  |some (.map kt et)=>do
   let (ks,kag)←YL P kt
   some (.zcv ks kag (←Qi P et) (←opA x) (←opA k))
  |_=>none
 | .entryStore _ x s v=>do some (.zcs (←opA x) (←opA s) (←opA v))
 | .binOp op t x y _=>
  match P.underlying t with
  |some (.slice _)=>
   match op,y with
   | .eql,.const (.slice none 0 0)=>do some (.eqn false (←opA x))
   | .neq,.const (.slice none 0 0)=>do some (.eqn true (←opA x))
   |_,_=>none
  |some (.struct _)=>
   match op,YL P t with
   | .eql,some (ks,_)=>do some (.zaO false ks (←opA x) (←opA y))
   | .neq,some (ks,_)=>do some (.zaO true ks (←opA x) (←opA y))
   |_,_=>none
  |_=>none
 | .call {callee:= .builtin .delete,args,argTypes}=>
  match args.toList,argTypes[0]? with
  |[x,k],some t=>
   match P.underlying t with
   |some (.map kt _)=>do
    let (ks,kag)←YL P kt
    some (.zaL ks kag (←opA x) (←opA k))
   |_=>none
  |_,_=>none
 | .call {callee:= .builtin .clear,args,argTypes}=>
  match args.toList,argTypes[0]? with
  |[x],some t=>
   match P.underlying t with
   |some (.map _ _)=>do some (.zdQ (←opA x))
   |some (.slice e)=>
    match ZO P e,y8 P e,opA x with
    |some sz,some z,some x'=>if z.all V.Zq=true then some (.zd8 sz z x') else none
    |_,_,_=>none
   |_=>none
  |_,_=>none
 | .next x false=>do some (.nxt (←opA x))
 | .entry x=>do some (.z6r (←opA x))
 | .call {callee:= .value (.func f),args,..}=>
  match z1O P f,args.toList with
  |some (some cnt),[x,y]=>do some (.xtr cnt (←opA x) (←opA y))
  |some none,[x,y]=>do some (.xcm (←opA x) (←opA y))
  |_,_=>none
 | .convert src dst x=>
  match P.underlying src,P.underlying dst with
  |some (.slice e),some .string=>
   match P.underlying e with
   |some (.int .u8)=>do some (.zcu (←opA x))
   |_=>some .bad
  |_,_=>some .bad
 |_=>some .bad
def q7 (P:Program) (ops:Array Oper) (o:Oper):Option AOp:=
 match y4 P ops o with
 |some x=>some x
 |none=>(z7c P o).map .nw
def z3P (P:Program) (ops:Array Oper) (o:Oper):Option AO:=
 match q7 P ops o with
 |none=>none
 |some op=>
  match o.guard with
  |none=>some ⟨o.dst,none,op⟩
  |some (j,want)=>
   match (ops[j]?).bind (·.dst) with
   |some s=>some ⟨o.dst,some (s,want),op⟩
   |none=>none
def z1M (P:Program) (ops:Array Oper):List Oper->Option (List AO)
 |[]=>some []
 |o::r=>
  match z3P P ops o,z1M P ops r with
  |some a,some l=>some (a::l)
  |_,_=>none
inductive zV where
 |skip
 |region (draw:Bool) (ops:List AO) (after:List (List Nat)) (live:List Nat)
 |seq (a b:zV)
 |cond (c:Ar) (a b:zV)
 |block (id:Nat) (c:zV)
 |loop (c:zV)
 |exit (id:Nat)
 |ret
 |scope (c:zV)
 |lbl
def we (ops:Array Oper):List (List Nat):=
 ops.toList.map fun o=>(o.after.toList.filter (Region.binds .any)).map (·.on)
def Yv (P:Program):Code->Option zV
 | .skip=>some .skip
 | .region _ ops draw=>
  match z1M P ops ops.toList with
  |some l=>some (.region draw l (if draw then we ops else []) [])
  |none=>none
 | .seq a b=>match Yv P a,Yv P b with|some x,some y=>some (.seq x y)|_,_=>none
 | .cond c a b=>match opA c,Yv P a,Yv P b with|some z,some x,some y=>some (.cond z x y)|_,_,_=>none
 | .block id c=>(Yv P c).map (.block id)
 | .loop c=>(Yv P c).map .loop
 | .exit id=>some (.exit id)
 | .ret=>some .ret
 | .scope c=>(Yv P c).map .scope
 | .label _=>some .lbl
 |_=>none
def zV.bare:zV->zV
 | .region d o a _=> .region d o a []
 | .seq a b=> .seq a.bare b.bare
 | .cond c a b=> .cond c a.bare b.bare
 | .block id c=> .block id c.bare
 | .loop c=> .loop c.bare
 | .scope c=> .scope c.bare
 |c=>c
theorem zy.ZW {Λ:L} {v:Value} {x:T} (h:zy Λ v (.t x)):zR Λ.lab Λ.w v x:=by cases h;assumption
theorem zy.zF {Λ:L} {v:Value} {x:V} {t:T} (h:zy Λ v x) (hx:x.zF=some t):zR Λ.lab Λ.w v t:=by
 cases h<;>simp [V.zF] at hx
 ·subst hx;assumption
 ·subst hx;exact .nil
 ·subst hx;assumption
 ·subst hx;assumption
theorem zR.Yh {l:Nat->Lab} {w:World} {v:Value} {b:Bool} (h:zR l w v (.bool b)):v= .bool b:=by cases h;rfl
theorem zR.yk {l:Nat->Lab} {w:World} {v:Value} {k:IntKind} {n:Int} (h:zR l w v (.int k n)):v= .int k n:=by cases h;rfl
theorem zR.wH {l:Nat->Lab} {w:World} {v:Value} {s:List UInt8} (h:zR l w v (.str s)):v= .string ⟨⟨s⟩⟩:=by cases h;rfl
theorem zy.z51 {Λ:L} {v:Value} {x:V} (h:QZ v=some x):zy Λ v x:=by
 unfold QZ at h
 split at h<;>simp at h<;>subst h
 ·exact .t (.bool _)
 ·exact .t (.int _ _)
 ·exact .t (.str _)
 ·exact .t .z11
 ·exact .t .QB
 ·exact .t .z3I
 ·exact .zJ
theorem zy.zap {Λ:L} {v:Value} {x:V} (h:z81 v x=true):zy Λ v x:=by
 unfold z81 at h
 split at h<;>simp at h
 ·subst h;exact .t (.bool _)
 ·obtain ⟨rfl,rfl⟩:=h;exact .t (.int _ _)
 ·subst h;exact .t (.str _)
 ·exact .t .z11
 ·exact .t .QB
 ·exact .t .z3I
 ·exact .zJ
theorem z2J {Λ:L}:∀{vs:List Value} {xs:List V},Wh vs xs=true->vs.length=xs.length/\∀(j:Nat) (v:Value) (x:V),vs[j]?=some v->xs[j]?=some x->zy Λ v x
 |[],[],_=>⟨rfl,by simp⟩
 |v::vs,x::xs,h=>by
  simp only [Wh,w0a] at h;obtain ⟨h1,h2⟩:=z2J (Λ:=Λ) h.2
  refine ⟨by simp [h1],fun j u y hu hy=>?_⟩
  cases j with
  |zero=>simp at hu hy;subst hu;subst hy;exact .zap h.1
  |succ j=>exact h2 j u y (by simpa using hu) (by simpa using hy)
 |[],_::_,h=>by simp [Wh] at h
 |_::_,[],h=>by simp [Wh] at h
theorem Rel.opd {C:Ctx} {Λ:L} {st:St} {a:Act} (h:Rel C Λ st a) {y:Operand} {x:Ar} (hx:opA y=some x):zy Λ (a.eval y) (x.v st):=by
 unfold opA at hx;split at hx
 ·simp at hx;subst hx;exact h.env _
 ·simp only [w05] at hx;obtain ⟨v,hv,rfl⟩:=hx;exact .z51 hv
 ·simp at hx;subst hx;exact .t (.fn _)
 ·simp at hx
theorem zy.ug {Λ:L} {v:Value} {x:V} (h:zy Λ v x):zy Λ v x.ug:=by
 cases h with
 |gd h _=>
  rename_i c _ _
  cases c with
  |true=>exact h rfl
  |false=>exact .top
 |t h=>exact .t h
 |zJ=>exact .zJ
 |own a b c d e=>exact .own a b c d e
 |slc a b c=>exact .slc a b c
 |agg a b=>exact .agg a b
 |tup a b=>exact .tup a b
 |ptr a b=>exact .ptr a b
 |mp a b=>exact .mp a b
 |fn a b=>exact .fn a b
 |top=>exact .top
 |ub a b=>exact .ub a b
 |fpt a b=>exact .fpt a b
 |gpt a b c d=>exact .gpt a b c d
 |gsl a b c d=>exact .gsl a b c d
 |fow a b c d e=>exact .fow a b c d e
theorem Rel.opu {C:Ctx} {Λ:L} {st:St} {a:Act} (h:Rel C Λ st a) {y:Operand} {x:Ar} (hx:opA y=some x):zy Λ (a.eval y) (x.u st):=(h.opd hx).ug
theorem zc4 {Λ:L} {gc:Bool} {u:Value} {x v:V} {p:List Bool} (hx:zy Λ u x) (hr:x.un gc=(v,p)) (hp:∀q∈p,q) (hg:gc=true):zy Λ u v:=by
 unfold V.un at hr;split at hr
 ·simp only [w04] at hr;obtain ⟨rfl,rfl⟩:=hr;have:=hp _ (List.mem_singleton.2 rfl);simp [hg] at this
  cases hx with
  |gd h _=>exact h this
 ·simp only [w04] at hr;obtain ⟨rfl,rfl⟩:=hr;exact hx
theorem zm {C:Ctx} {Λ:L} {st:St} {a:Act} (h:Rel C Λ st a) {y:Operand} {x:Ar} (hx:opA y=some x) {gc:Bool} {v:V} {p:List Bool}
  (hr:rd gc st x=(v,p)) (hp:∀q∈p,q) (hg:gc=true):zy Λ (a.eval y) v:=zc4 (h.opd hx) hr hp hg
def zL (P:Program) (o:Oper) (gc:Bool) (st:St) (x:V):Prop:=
 ∀(C:Ctx) (Λ:L) (a:Act),C.P=P->gc=true->Rel C Λ st a->∃v,(execOp a.eval o).run P Λ.w= .ok (.value v) Λ.w/\zy Λ v x
section
variable {P:Program} {o:Oper} {gc:Bool} {st:St}
theorem zeL {x:V} {v:Value} (ho:o.op= .move (.const v)∨o.op= .assign (.const v)) (hx:∀Λ,zy Λ v x):zL P o gc st x:=by
 intro C Λ a _ _ _;refine ⟨v,?_,hx _⟩
 rcases ho with ho|ho<;>simp [execOp,ho,Act.eval]
theorem zez {y:Operand} {x:Ar} {v:V} {p:List Bool} (ho:o.op= .move y∨o.op= .assign y) (hy:opA y=some x) (hr:rd gc st x=(v,p)) (hp:∀q∈p,q):zL P o gc st v:=by
 intro C Λ a _ hg h;have hv:=zm h hy hr hp hg;refine ⟨a.eval y,?_,hv⟩
 rcases ho with ho|ho<;>simp [execOp,ho]
theorem zf2 {c x y:Operand} {c' x' y':Ar} {cb xa xb:Bool} {p1 p2 p3:List Bool} (ho:o.op= .pick c x y) (hc:opA c=some c') (hx:opA x=some x') (hy:opA y=some y')
  (h1:rd gc st c'=(.t (.bool cb),p1)) (h2:rd (gc&&cb) st x'=(.t (.bool xa),p2)) (h3:rd (gc&&!cb) st y'=(.t (.bool xb),p3)) (hp:∀q∈p1++(p2++p3),q):
  zL P o gc st (.t (.bool (bif cb then xa else xb))):=by
 intro C Λ a _ hg h;have hc1:=zm h hc h1 (fun q hq=>hp q (by simp [hq])) hg;have ec:=hc1.ZW.Yh
 cases cb with
 |true=>
  have hx1:=zm h hx h2 (fun q hq=>hp q (by simp [hq])) (by simp [hg])
  refine ⟨a.eval x,by simp [execOp,ho,ec,asBool],?_⟩
  exact .t hx1.ZW
 |false=>
  have hy1:=zm h hy h3 (fun q hq=>hp q (by simp [hq])) (by simp [hg])
  refine ⟨a.eval y,by simp [execOp,ho,ec,asBool],?_⟩
  exact .t hy1.ZW
theorem zgK {t:TypeId} {x:Operand} {x':Ar} {b:Bool} {p:List Bool} (ho:o.op= .unOp .not t x) (hx:opA x=some x') (h1:rd gc st x'=(.t (.bool b),p)) (hp:∀q∈p,q):
  zL P o gc st (.t (.bool (!b))):=by
 intro C Λ a _ hg h;have hx1:=zm h hx h1 hp hg;have e:=hx1.ZW.Yh
 exact ⟨.bool (!b),by simp [execOp,ho,e,Op.unary],.t (.bool _)⟩
theorem zgn {t:TypeId} {x:Operand} {x':Ar} {k:IntKind} {n:Int} {p:List Bool} (ho:o.op= .unOp .neg t x) (hx:opA x=some x') (h1:rd gc st x'=(.t (.int k n),p)) (hp:∀q∈p,q):
  zL P o gc st (.t (.int k (k.wrap (0 - n)))):=by
 intro C Λ a _ hg h;have hx1:=zm h hx h1 hp hg;have e:=hx1.ZW.yk
 exact ⟨.int k (k.wrap (0 - n)),by simp [execOp,ho,e,Op.unary,Op.intArith],.t (.int _ _)⟩
theorem toList_mk (s:List UInt8):ByteArray.toList ⟨⟨s⟩⟩=s:=ByteArray.toList_mk s
theorem zaG (a b:List UInt8):(⟨⟨a⟩⟩++⟨⟨b⟩⟩:ByteArray)=⟨⟨a++b⟩⟩:=by
 apply ByteArray.ext;simp [ByteArray.data_append]
theorem zg4 {op:BinOp} {t ty:TypeId} {x y:Operand} {x' y':Ar} {a b r:T} {p1 p2 p3:List Bool} (ho:o.op= .binOp op t x y ty) (hx:opA x=some x') (hy:opA y=some y')
  (h1:rd gc st x'=(.t a,p1)) (h2:rd gc st y'=(.t b,p2)) (hb:z0i op a b=some (r,p3)) (hp:∀q∈p1++(p2++p3),q):zL P o gc st (.t r):=by
 intro C Λ ac _ hg h;have hx1:=zm h hx h1 (fun q hq=>hp q (by simp [hq])) hg;have hy1:=zm h hy h2 (fun q hq=>hp q (by simp [hq])) hg;have hp3:∀q∈p3,q:=fun q hq=>hp q (by simp [hq])
 cases a with
 |int k m=>
  cases b with
  |int k' n=>
   have e1:=hx1.ZW.yk;have e2:=hy1.ZW.yk;simp only [z0i] at hb;split at hb
   ·rename_i hk;subst hk
    cases op<;>simp at hb<;>obtain ⟨rfl,rfl⟩:=hb
    case quo=>
     have hn:n≠0:=zDT (hp3 _ (by simp))
     exact ⟨_,by simp [execOp,ho,e1,e2,eqGuard,binOp,Op.intDiv,hn],.t (.int _ _)⟩
    case rem=>
     have hn:n≠0:=zDT (hp3 _ (by simp))
     exact ⟨_,by simp [execOp,ho,e1,e2,eqGuard,binOp,Op.intDiv,hn],.t (.int _ _)⟩
    case add=>exact ⟨_,by simp [execOp,ho,e1,e2,eqGuard,binOp,Op.intArith],.t (.int _ _)⟩
    case sub=>exact ⟨_,by simp [execOp,ho,e1,e2,eqGuard,binOp,Op.intArith],.t (.int _ _)⟩
    case mul=>exact ⟨_,by simp [execOp,ho,e1,e2,eqGuard,binOp,Op.intArith],.t (.int _ _)⟩
    case and=>exact ⟨_,by simp [execOp,ho,e1,e2,eqGuard,binOp,Op.intBits,zgB],.t (.int _ _)⟩
    case or=>exact ⟨_,by simp [execOp,ho,e1,e2,eqGuard,binOp,Op.intBits,orI],.t (.int _ _)⟩
    all_goals exact ⟨_,by simp [execOp,ho,e1,e2,eqGuard,binOp,Op.intCmp],.t (.bool _)⟩
   ·simp at hb
  |_=>simp [z0i] at hb
 |str m=>
  cases b with
  |str n=>
   have e1:=hx1.ZW.wH;have e2:=hy1.ZW.wH;simp only [z0i] at hb
   cases op<;>simp at hb<;>obtain ⟨rfl,rfl⟩:=hb
   ·have hn:m.length+n.length<=9223372036854775807:=zDT (hp3 _ (by simp))
    have hn':¬ (IntKind.i64.max<((m.length+n.length:Nat):Int)):=by
     show ¬ ((9223372036854775807:Int)<_);omega
    have hs:((⟨⟨m⟩⟩:ByteArray).size+(⟨⟨n⟩⟩:ByteArray).size)=m.length+n.length:=rfl;refine ⟨.string ⟨⟨m++n⟩⟩,?_,.t (.str _)⟩;simp only [execOp,ho,e1,e2,eqGuard,binOp,Op.stringOp,hs,zaG];simp;omega
   all_goals exact ⟨_,by simp [execOp,ho,e1,e2,eqGuard,binOp,Op.stringOp],.t (.bool _)⟩
  |_=>simp [z0i] at hb
 |_=>simp [z0i] at hb
end
theorem Y4 (b o n:Nat):(⟨b,o,none⟩:Addr).add n=⟨b,o+n,none⟩:=by
 unfold Addr.add;split
 ·rename_i h;subst h;rfl
 ·rfl
section
variable {P:Program} {o:Oper} {gc:Bool} {st:St}
theorem run_equal_bool {t:TypeId} (hu:P.underlying t=some .bool) (a b:Bool) (w:World):(Op.equal t (.bool a) (.bool b)).run P w= .ok (a==b) w:=by
 have:∀d,(Op.equalIn (d+1) t (.bool a) (.bool b)).run P w= .ok (a==b) w:=fun d=>by simp [Op.equalIn,run_underlying hu]
 exact this 9999
theorem zeN {neg:Bool} {t ty:TypeId} {x y:Operand} {x' y':Ar} {a b:Bool} {p1 p2:List Bool} (hu:P.underlying t=some .bool)
  (ho:o.op= .binOp (if neg then .neq else .eql) t x y ty) (hx:opA x=some x') (hy:opA y=some y')
  (h1:rd gc st x'=(.t (.bool a),p1)) (h2:rd gc st y'=(.t (.bool b),p2)) (hp:∀q∈p1++p2,q):zL P o gc st (.t (.bool (if neg then !(a==b) else a==b))):=by
 intro C Λ ac _ hg h;have hx1:=zm h hx h1 (fun q hq=>hp q (by simp [hq])) hg;have hy1:=zm h hy h2 (fun q hq=>hp q (by simp [hq])) hg;have e1:=hx1.ZW.Yh;have e2:=hy1.ZW.Yh;refine ⟨_,?_,.t (.bool _)⟩
 cases neg<;>simp [execOp,ho,e1,e2,eqGuard,binOp,run_equal_bool hu]
theorem zfA {src dst:TypeId} {x:Operand} {x':Ar} {k k1 k2:IntKind} {n:Int} {p:List Bool} (hs:P.underlying src=some (.int k1)) (hd:P.underlying dst=some (.int k))
  (ho:o.op= .convert src dst x) (hx:opA x=some x') (h1:rd gc st x'=(.t (.int k2 n),p)) (hp:∀q∈p,q):zL P o gc st (.t (.int k (k.wrap n))):=by
 intro C Λ ac _ hg h;have hx1:=zm h hx h1 hp hg;have e1:=hx1.ZW.yk
 exact ⟨_,by simp [execOp,ho,e1,convert,run_underlying hs,run_underlying hd,Conv.intToInt],.t (.int _ _)⟩
theorem ze6 {src dst:TypeId} {x:Operand} {x':Ar} {v:V} {p:List Bool} (hs:P.underlying src=some .string) (hd:P.underlying dst=some .string)
  (ho:o.op= .convert src dst x) (hx:opA x=some x') (h1:rd gc st x'=(v,p)) (hp:∀q∈p,q) (hv:∃s,v= .t (.str s)):zL P o gc st v:=by
 intro C Λ ac _ hg h;have hx1:=zm h hx h1 hp hg;obtain ⟨s,rfl⟩:=hv;have e1:=hx1.ZW.wH
 exact ⟨.string ⟨⟨s⟩⟩,by simp [execOp,ho,e1,convert,run_underlying hs,run_underlying hd],.t (.str _)⟩
theorem z2b {x:Operand} {x':Ar} {v:V} {p:List Bool} (ho:o.op= .nilCheck x) (hx:opA x=some x') (h1:rd gc st x'=(v,p)) (hp:∀q∈p,q)
  (hv:(∃k n,v= .ptr k n)∨(∃c,v= .t (.ptr c))∨(∃f,v= .t (.fn f))∨∃f c,v= .fn f c):zL P o gc st v:=by
 intro C Λ ac _ hg h;have hx1:=zm h hx h1 hp hg
 rcases hv with ⟨k,n,rfl⟩|⟨c,rfl⟩|⟨f,rfl⟩|⟨f,c,rfl⟩
 ·generalize hv:ac.eval x=v at hx1
  cases hx1 with
  |ptr hk h'=>exact ⟨_,by simp [execOp,ho,hv],.ptr hk h'⟩
 ·generalize hv:ac.eval x=v at hx1
  cases hx1 with
  |t h'=>cases h' with|ptr _ b o vf a1 a2 a3=>exact ⟨_,by simp [execOp,ho,hv],.t (.ptr _ b o vf a1 a2 a3)⟩
 ·generalize hv:ac.eval x=v at hx1
  cases hx1 with
  |t h'=>cases h';exact ⟨_,by simp [execOp,ho,hv],.t (.fn _)⟩
 ·generalize hv:ac.eval x=v at hx1
  cases hx1 with
  |fn hs h'=>exact ⟨_,by simp [execOp,ho,hv],.fn hs h'⟩
theorem z9J {x:Operand} {x':Ar} {k i n:Nat} {p:List Bool} (ho:o.op= .nilCheck x) (hx:opA x=some x') (h1:rd gc st x'=(.fpt k i n,p)) (hp:∀q∈p,q):zL P o gc st (.fpt k i n):=by
 intro C Λ ac _ hg h;have hx1:=zm h hx h1 hp hg;generalize hv:ac.eval x=v at hx1
 cases hx1 with
 |fpt hk h'=>exact ⟨_,by simp [execOp,ho,hv],.fpt hk h'⟩
theorem zR.z7u {l:Nat->Lab} {w:World} {b o n:Nat} {cs:List T} (h:zR l w (.pointer (some ⟨b,o,none⟩)) (.ptr cs)):zR l w (.pointer (some ⟨b,o+n,none⟩)) (.ptr (cs.drop n)):=by
 cases h with
 |ptr _ _ _ vf a1 a2 a3=>
  refine .ptr _ b (o+n) (fun j=>vf (n+j)) (fun j x hj=>?_) (fun j x hj=>?_) (fun j x hj=>?_)<;>rw [w0z] at hj
  ·rw [w1e];exact a1 _ x hj
  ·rw [w1e];exact a2 _ x hj
  ·exact a3 _ x hj
theorem zR.zbo {l:Nat->Lab} {w:World} {b o:Nat} {cs:List T} (h:zR l w (.pointer (some ⟨b,o,none⟩)) (.ptr cs)) (j:Nat) (x:T) (hj:cs[j]?=some x):∃v,w.cell? ⟨b,o+j,none⟩=some v/\zR l w v x:=by
 cases h with
 |ptr _ _ _ vf a1 a2 a3=>exact ⟨vf j,a2 j x hj,a3 j x hj⟩
theorem zR.z23 {l:Nat->Lab} {w:World} {v:Value} {cs:List T} (h:zR l w v (.ptr cs)):∃b o,v= .pointer (some ⟨b,o,none⟩):=by
 cases h;exact ⟨_,_,rfl⟩
theorem Wf {s:TypeId} {fs:Array Field} {f:Nat} {fd:Field} {n:Nat} (hu:P.underlying s=some (.struct fs)) (hf:fs[f]?=some fd) (hn:ZO P fd.type=some n) (h0:n≠0)
  (b off:Nat) (w:World):(Instr.fieldAt s (.pointer (some ⟨b,off,none⟩)) f).run P w= .ok (.pointer (some ⟨b,off+fd.offset,none⟩)) w:=by
 unfold ZO at hn
 cases hi:P.info? fd.type with
 |none=>rw [hi] at hn;simp at hn
 |some i=>
  rw [hi] at hn;simp at hn;subst hn;simp [Instr.fieldAt,run_underlying hu,hf,Instr.sureAddr,fieldPlace,sizeOf,typeInfo,hi,h0,Y4]
theorem zg6 {s:TypeId} {x:Operand} {f:Nat} {fs:Array Field} {fd:Field} {n:Nat} {x':Ar} {v r:V} {p:List Bool} (hu:P.underlying s=some (.struct fs)) (hf:fs[f]?=some fd)
  (hn:ZO P fd.type=some n) (h0:n≠0) (ho:o.op= .fieldAddr s x f) (hx:opA x=some x') (h1:rd gc st x'=(v,p)) (hp:∀q∈p,q)
  (hv:(∃k m,v= .ptr k m/\r= .ptr k (m+fd.offset))∨(∃c,v= .t (.ptr c)/\r= .t (.ptr (c.drop fd.offset)))):zL P o gc st r:=by
 intro C Λ ac _ hg h;have hx1:=zm h hx h1 hp hg
 rcases hv with ⟨k,m,rfl,rfl⟩|⟨c,rfl,rfl⟩
 ·generalize hv:ac.eval x=v at hx1
  cases hx1 with
  |ptr hk h'=>exact ⟨_,by simp [execOp,ho,hv,Wf hu hf hn h0],.ptr hk h'⟩
 ·have hr:=hx1.ZW;obtain ⟨b,o',hv⟩:=hr.z23;rw [hv] at hr
  exact ⟨_,by simp [execOp,ho,hv,Wf hu hf hn h0],.t hr.z7u⟩
theorem zeT {s:TypeId} {x:Operand} {f:Nat} {fs:Array Field} {fd:Field} {n:Nat} {x':Ar} {k i m:Nat} {p:List Bool} (hu:P.underlying s=some (.struct fs)) (hf:fs[f]?=some fd)
  (hn:ZO P fd.type=some n) (h0:n≠0) (ho:o.op= .fieldAddr s x f) (hx:opA x=some x') (h1:rd gc st x'=(.fpt k i m,p)) (hp:∀q∈p,q):zL P o gc st (.fpt k i (m+fd.offset)):=by
 intro C Λ ac _ hg h;have hx1:=zm h hx h1 hp hg;generalize hv:ac.eval x=v at hx1
 cases hx1 with
 |fpt hk h'=>exact ⟨_,by simp [execOp,ho,hv,Wf hu hf hn h0],.fpt hk h'⟩
theorem Yy {t:TypeId} {d:TypeDesc} (hu:P.underlying t=some d) (ha:Zd P t=false) {b off:Nat} {w:World} {v:Value} (hc:w.cell? ⟨b,off,none⟩=some v):
  (Instr.loadAt t (.pointer (some ⟨b,off,none⟩))).run P w= .ok v w:=by
 have hagg:(isAgg t).run P w= .ok false w:=by
  unfold isAgg;rw [Sem.run_bind,run_underlying hu w];unfold Zd at ha;rw [hu] at ha
  cases d<;>simp_all
 simp [Instr.loadAt,Instr.sureAddr,loadVar,hagg,hc]
theorem YH {t:TypeId} {n:Nat} (hn:ZO P t=some n) (ha:Zd P t=true) {b off:Nat} {w:World} {vs:List Value} (hl:vs.length=n)
  (hc:∀(j:Nat) (v:Value),vs[j]?=some v->w.cell? ⟨b,off+j,none⟩=some v):
  (Instr.loadAt t (.pointer (some ⟨b,off,none⟩))).run P w= .ok (.agg vs.toArray) w:=by
 have hagg:(isAgg t).run P w= .ok true w:=by
  unfold isAgg;unfold Zd at ha
  cases hu:P.underlying t with
  |none=>rw [hu] at ha;simp at ha
  |some d=>
   rw [hu] at ha;rw [Sem.run_bind,run_underlying hu w]
   cases d<;>simp_all
 unfold ZO at hn
 cases hi:P.info? t with
 |none=>rw [hi] at hn;simp at hn
 |some i=>
  rw [hi] at hn;simp at hn;subst hn
  have hlc:(loadCells ⟨b,off,none⟩ i.size).run P w= .ok vs.toArray w:=by
   rw [←hl]
   exact run_loadCells_list (P:=P) w ⟨b,off,none⟩ vs (fun j v hv=>by rw [Y4];exact hc j v hv)
  simp [Instr.loadAt,Instr.sureAddr,loadVar,hagg,sizeOf,typeInfo,hi,hlc]
theorem z1Q {Q:Nat->Value->Prop}:∀(n:Nat),(∀j,j<n->∃v,Q j v)->∃vs:List Value,vs.length=n/\∀(j:Nat) (v:Value),vs[j]?=some v->Q j v
 |0,_=>⟨[],rfl,by simp⟩
 |n+1,h=>by
  obtain ⟨vs,hl,hv⟩:=z1Q n (fun j hj=>h j (by omega));obtain ⟨v,hq⟩:=h n (by omega)
  refine ⟨vs++[v],by simp [hl],fun j u hu=>?_⟩
  by_cases hj:j<vs.length
  ·rw [w0h hj] at hu;exact hv j u hu
  ·rw [w0i (by omega)] at hu;by_cases e:j=n
   ·subst e;rw [hl] at hu;simp at hu;subst hu;exact hq
   ·rw [w12 (by simp;omega)] at hu;cases hu
theorem zeg {t:TypeId} {d:TypeDesc} {x:Operand} {x':Ar} {cs:List T} {c:T} {p:List Bool} (hu:P.underlying t=some d) (ha:Zd P t=false)
  (ho:o.op= .load t x) (hx:opA x=some x') (h1:rd gc st x'=(.t (.ptr cs),p)) (hp:∀q∈p,q) (hc:cs[0]?=some c):zL P o gc st (.t c):=by
 intro C Λ ac _ hg h;have hr:=(zm h hx h1 hp hg).ZW;obtain ⟨b,o',hv⟩:=hr.z23;rw [hv] at hr;obtain ⟨u,hu1,hu2⟩:=hr.zbo 0 c hc
 exact ⟨u,by simp [execOp,ho,hv,Yy hu ha (by simpa using hu1)],.t hu2⟩
theorem zcq {t:TypeId} {n:Nat} {x:Operand} {x':Ar} {cs:List T} {p:List Bool} (hn:ZO P t=some n) (ha:Zd P t=true)
  (ho:o.op= .load t x) (hx:opA x=some x') (h1:rd gc st x'=(.t (.ptr cs),p)) (hp:∀q∈p,q) (hl:n<=cs.length):zL P o gc st (.agg ((cs.take n).map V.t)):=by
 intro C Λ ac _ hg h;have hr:=(zm h hx h1 hp hg).ZW;obtain ⟨b,off,hv⟩:=hr.z23;rw [hv] at hr
 obtain ⟨vs,hvl,hvs⟩:=z1Q (Q:=fun j v=>Λ.w.cell? ⟨b,off+j,none⟩=some v/\∀c,cs[j]?=some c->zR Λ.lab Λ.w v c) n (fun j hj=>by
  obtain ⟨u,hu1,hu2⟩:=hr.zbo j cs[j] (by simp [w06 hj hl])
  exact ⟨u,hu1,fun c hc=>by simp [w06 hj hl] at hc;subst hc;exact hu2⟩)
 refine ⟨.agg vs.toArray,by simp [execOp,ho,hv,YH hn ha hvl (fun j v hj=>(hvs j v hj).1)],.agg (by simp [hvl];omega) fun j u c h2 h3=>?_⟩
 rw [w0f,w05] at h3;obtain ⟨c',h4,rfl⟩:=h3;rw [w0p] at h4;split at h4
 ·exact .t ((hvs j u (by simpa using h2)).2 c' h4)
 ·cases h4
theorem Z7.qB {Λ:L} {s:S} (h:Z7 Λ s) {k:Nat} {cs:List V} (hk:zl s.sto k=some (.cells cs)) {b:Nat} (hb:Λ.lab b= .obj k):
  ∃(arr:Array Value) (e:TypeId),Λ.w.heap[b]?=some (.cells arr e (0,0))/\arr.size=cs.length/\∀(j:Nat) (v:Value) (c:V),arr[j]?=some v->cs[j]?=some c->zy Λ v c:=by
 obtain ⟨b',arr,e,h1,h2,h3,h4⟩:=(h.sto k _ hk).2;obtain rfl:=h.inj b b' k hb h1;exact ⟨arr,e,h2,h3,h4⟩
theorem zc6 {t:TypeId} {d:TypeDesc} {x:Operand} {x':Ar} {k off:Nat} {cs:List V} {c:V} {p:List Bool} (hu:P.underlying t=some d) (ha:Zd P t=false)
  (ho:o.op= .load t x) (hx:opA x=some x') (h1:rd gc st x'=(.ptr k off,p)) (hp:∀q∈p,q) (hk:zl st.s.sto k=some (.cells cs)) (hc:cs[off]?=some c):zL P o gc st c:=by
 intro C Λ ac _ hg h;have hx1:=zm h hx h1 hp hg;generalize hv:ac.eval x=v at hx1
 cases hx1 with
 |@ptr b _ _ _ h'=>
  obtain ⟨arr,e,h2,h3,h4⟩:=h.s.qB hk h';have hlt:off<cs.length:=(w02.1 hc).1
  have hcell:Λ.w.cell? ⟨b,off,none⟩=some (arr[off]'(by omega)):=by rw [cell_of_row Λ.w b off arr e _ h2];simp [h3,hlt]
  exact ⟨arr[off]'(by omega),by simp [execOp,ho,hv,Yy hu ha hcell],h4 off _ c (by simp) hc⟩
theorem zy.zf4 {Λ:L} {vs:List Value} {cs:List V} (h:∀(j:Nat) (v:Value) (c:V),vs[j]?=some v->cs[j]?=some c->zy Λ v c) (hl:vs.length=cs.length) (off n:Nat):
  zy Λ (.agg ((vs.drop off).take n).toArray) (.agg ((cs.drop off).take n)):=by
 refine .agg (by simp [hl]) fun j u c h5 h6=>?_
 have h5':((vs.drop off).take n)[j]?=some u:=by simpa using h5
 rw [w0p] at h5' h6;split at h6
 ·rename_i hj;rw [w0c hj] at h5';rw [w0z] at h5' h6;exact h _ u c h5' h6
 ·cases h6
theorem za5 {t:TypeId} {n:Nat} {x:Operand} {x':Ar} {k off:Nat} {cs:List V} {p:List Bool} (hn:ZO P t=some n) (ha:Zd P t=true)
  (ho:o.op= .load t x) (hx:opA x=some x') (h1:rd gc st x'=(.ptr k off,p)) (hp:∀q∈p,q) (hk:zl st.s.sto k=some (.cells cs)) (hl:off+n<=cs.length):
  zL P o gc st (.agg ((cs.drop off).take n)):=by
 intro C Λ ac _ hg h;have hx1:=zm h hx h1 hp hg;generalize hv:ac.eval x=v at hx1
 cases hx1 with
 |@ptr b _ _ _ h'=>
  obtain ⟨arr,e,h2,h3,h4⟩:=h.s.qB hk h'
  have hvl:((arr.toList.drop off).take n).length=n:=by simp;omega
  have hcell:∀(j:Nat) (v:Value),((arr.toList.drop off).take n)[j]?=some v->Λ.w.cell? ⟨b,off+j,none⟩=some v:=by
   intro j v hj;rw [w0p] at hj;split at hj
   ·rw [w0z] at hj;rw [cell_of_row Λ.w b _ arr e _ h2];simpa using hj
   ·cases hj
  exact ⟨.agg ((arr.toList.drop off).take n).toArray,by simp [execOp,ho,hv,YH hn ha hvl hcell],zy.zf4 (fun j v c e1 e2=>h4 j v c (by simpa using e1) e2) (by simpa using h3) off n⟩
theorem Z7.zbT {Λ:L} {s:S} (h:Z7 Λ s) {k i:Nat} {os:List (List V)} {cs:List V} (hk:zl s.sto k=some (.wo os)) (hi:os[i]?=some cs) {b:Nat} (hb:Λ.lab b= .fob k i):
  ∃(arr:Array Value) (e:TypeId),Λ.w.heap[b]?=some (.cells arr e (0,0))/\arr.size=cs.length/\∀(j:Nat) (v:Value) (c:V),arr[j]?=some v->cs[j]?=some c->zy Λ v c:=by
 obtain ⟨_,h0⟩:=(h.sto k _ hk).2;obtain ⟨b',arr,e,h1,h2,h3,h4⟩:=h0 i cs hi;obtain rfl:=h.wF b b' k i hb h1;exact ⟨arr,e,h2,h3,h4⟩
theorem qz.uniq {Λ:L} {s:S} (h:Z7 Λ s) {k b b':Nat} (h1:qz Λ.lab k b) (h2:qz Λ.lab k b'):b=b':=by
 obtain ⟨i,a1,a2⟩:=h1;obtain ⟨j,b1,b2⟩:=h2;have e1:=a2 b' j b1;have e2:=b2 b i a1
 have:i=j:=by omega
 subst this;exact h.wF b b' k i a1 b1
theorem Z7.QP {Λ:L} {s:S} (h:Z7 Λ s) {k w:Nat} {cs:List V} (hk:zl s.sto k=some (.gro w cs)) {b:Nat} (hb:qz Λ.lab k b):
  ∃(arr:Array Value) (e:TypeId),Λ.w.heap[b]?=some (.cells arr e (0,0))/\cs.length<=arr.size/\∀(j:Nat) (v:Value) (c:V),arr[j]?=some v->cs[j]?=some c->zy Λ v c:=by
 obtain ⟨_,⟨_,h2⟩|⟨b',arr,e,h1,h2,h3,h4⟩⟩:=(h.sto k _ hk).2
 ·obtain ⟨i,a1,_⟩:=hb;exact absurd a1 (h2 b i)
 ·obtain rfl:=qz.uniq h hb h1;exact ⟨arr,e,h2,h3,h4⟩
theorem zaA {x:Operand} {x':Ar} {k ver n w:Nat} {cs:List V} {p:List Bool} (ho:o.op= .nilCheck x) (hx:opA x=some x') (h1:rd gc st x'=(.gpt k ver n,p)) (hp:∀q∈p,q) (hk:zl st.s.sto k=some (.gro w cs)) (hw:ver=w):zL P o gc st (.gpt k ver n):=by
 intro C Λ ac _ hg h;have hx1:=zm h hx h1 hp hg;generalize hv:ac.eval x=v at hx1
 cases hx1 with
 |gpt g0 g1 g2 g3=>
  obtain ⟨b,rfl,g4⟩:=g3 (hw.trans (h.s.sto k _ hk).2.1.symm)
  exact ⟨_,by simp [execOp,ho,hv],.gpt ⟨_,rfl⟩ g1 g2 (fun _=>⟨b,rfl,g4⟩)⟩
theorem zeZ {s:TypeId} {x:Operand} {f:Nat} {fs:Array Field} {fd:Field} {n:Nat} {x':Ar} {k ver m w:Nat} {cs:List V} {p:List Bool} (hu:P.underlying s=some (.struct fs)) (hf:fs[f]?=some fd)
  (hn:ZO P fd.type=some n) (h0:n≠0) (ho:o.op= .fieldAddr s x f) (hx:opA x=some x') (h1:rd gc st x'=(.gpt k ver m,p)) (hp:∀q∈p,q) (hk:zl st.s.sto k=some (.gro w cs)) (hw:ver=w):zL P o gc st (.gpt k ver (m+fd.offset)):=by
 intro C Λ ac _ hg h;have hx1:=zm h hx h1 hp hg;generalize hv:ac.eval x=v at hx1
 cases hx1 with
 |gpt g0 g1 g2 g3=>
  obtain ⟨b,rfl,g4⟩:=g3 (hw.trans (h.s.sto k _ hk).2.1.symm)
  exact ⟨_,by simp [execOp,ho,hv,Wf hu hf hn h0],.gpt ⟨_,rfl⟩ g1 g2 (fun _=>⟨b,rfl,g4⟩)⟩
theorem zbI {t:TypeId} {d:TypeDesc} {b off:Nat} {Λ:L} {cs:List V} {c:V} {arr:Array Value} {e:TypeId} (hu:P.underlying t=some d) (ha:Zd P t=false) (h2:Λ.w.heap[b]?=some (.cells arr e (0,0))) (h3:cs.length<=arr.size)
  (h4:∀(j:Nat) (v:Value) (c:V),arr[j]?=some v->cs[j]?=some c->zy Λ v c) (hc:cs[off]?=some c):∃v,(Instr.loadAt t (.pointer (some ⟨b,off,none⟩))).run P Λ.w= .ok v Λ.w/\zy Λ v c:=by
 have hlt:off<cs.length:=(w02.1 hc).1
 have hcell:Λ.w.cell? ⟨b,off,none⟩=some (arr[off]'(by omega)):=by rw [cell_of_row Λ.w b off arr e _ h2];first |(simp;done)|(simp;omega)
 exact ⟨arr[off]'(by omega),Yy hu ha hcell,h4 off _ c (by simp) hc⟩
theorem zce {t:TypeId} {n b off:Nat} {Λ:L} {cs:List V} {arr:Array Value} {e:TypeId} (hn:ZO P t=some n) (ha:Zd P t=true) (h2:Λ.w.heap[b]?=some (.cells arr e (0,0))) (h3:cs.length<=arr.size)
  (h4:∀(j:Nat) (v:Value) (c:V),arr[j]?=some v->cs[j]?=some c->zy Λ v c) (hl:off+n<=cs.length):∃v,(Instr.loadAt t (.pointer (some ⟨b,off,none⟩))).run P Λ.w= .ok v Λ.w/\zy Λ v (.agg ((cs.drop off).take n)):=by
 have hvl:((arr.toList.drop off).take n).length=n:=by simp;omega
 have hcell:∀(j:Nat) (v:Value),((arr.toList.drop off).take n)[j]?=some v->Λ.w.cell? ⟨b,off+j,none⟩=some v:=by
  intro j v hj;rw [w0p] at hj;split at hj
  ·rw [w0z] at hj;rw [cell_of_row Λ.w b _ arr e _ h2];simpa using hj
  ·cases hj
 refine ⟨.agg ((arr.toList.drop off).take n).toArray,YH hn ha hvl hcell,.agg (by simp;omega) fun j u c h5 h6=>?_⟩
 have h5':((arr.toList.drop off).take n)[j]?=some u:=by simpa using h5
 rw [w0p] at h5' h6;split at h6
 ·rename_i hj;rw [w0c hj] at h5';rw [w0z] at h5' h6;exact h4 _ u c (by simpa using h5') h6
 ·cases h6
theorem zg3 {t:TypeId} {d:TypeDesc} {x:Operand} {x':Ar} {k i off:Nat} {os:List (List V)} {cs:List V} {c:V} {p:List Bool} (hu:P.underlying t=some d) (ha:Zd P t=false)
  (ho:o.op= .load t x) (hx:opA x=some x') (h1:rd gc st x'=(.fpt k i off,p)) (hp:∀q∈p,q) (hk:zl st.s.sto k=some (.wo os)) (hi:os[i]?=some cs) (hc:cs[off]?=some c):zL P o gc st c:=by
 intro C Λ ac _ hg h;have hx1:=zm h hx h1 hp hg;generalize hv:ac.eval x=v at hx1
 cases hx1 with
 |@fpt b _ _ _ _ h'=>
  obtain ⟨arr,e,h2,h3,h4⟩:=h.s.zbT hk hi h';obtain ⟨u,e1,e2⟩:=zbI (P:=P) hu ha h2 (by omega) h4 hc
  exact ⟨u,by simp [execOp,ho,hv,e1],e2⟩
theorem ze2 {t:TypeId} {n:Nat} {x:Operand} {x':Ar} {k i off:Nat} {os:List (List V)} {cs:List V} {p:List Bool} (hn:ZO P t=some n) (ha:Zd P t=true)
  (ho:o.op= .load t x) (hx:opA x=some x') (h1:rd gc st x'=(.fpt k i off,p)) (hp:∀q∈p,q) (hk:zl st.s.sto k=some (.wo os)) (hi:os[i]?=some cs) (hl:off+n<=cs.length):
  zL P o gc st (.agg ((cs.drop off).take n)):=by
 intro C Λ ac _ hg h;have hx1:=zm h hx h1 hp hg;generalize hv:ac.eval x=v at hx1
 cases hx1 with
 |@fpt b _ _ _ _ h'=>
  obtain ⟨arr,e,h2,h3,h4⟩:=h.s.zbT hk hi h';obtain ⟨u,e1,e2⟩:=zce (P:=P) hn ha h2 (by omega) h4 hl
  exact ⟨u,by simp [execOp,ho,hv,e1],e2⟩
theorem zfn {t:TypeId} {d:TypeDesc} {x:Operand} {x':Ar} {k ver off w:Nat} {cs:List V} {c:V} {p:List Bool} (hu:P.underlying t=some d) (ha:Zd P t=false)
  (ho:o.op= .load t x) (hx:opA x=some x') (h1:rd gc st x'=(.gpt k ver off,p)) (hp:∀q∈p,q) (hk:zl st.s.sto k=some (.gro w cs)) (hw:ver=w) (hc:cs[off]?=some c):zL P o gc st c:=by
 intro C Λ ac _ hg h;have hx1:=zm h hx h1 hp hg;generalize hv:ac.eval x=v at hx1
 cases hx1 with
 |gpt _ _ _ g3=>
  obtain ⟨b,rfl,g4⟩:=g3 (hw.trans (h.s.sto k _ hk).2.1.symm);obtain ⟨arr,e,h2,h3,h4⟩:=h.s.QP hk g4;obtain ⟨u,e1,e2⟩:=zbI (P:=P) hu ha h2 h3 h4 hc
  exact ⟨u,by simp [execOp,ho,hv,e1],e2⟩
theorem zdZ {t:TypeId} {n:Nat} {x:Operand} {x':Ar} {k ver off w:Nat} {cs:List V} {p:List Bool} (hn:ZO P t=some n) (ha:Zd P t=true)
  (ho:o.op= .load t x) (hx:opA x=some x') (h1:rd gc st x'=(.gpt k ver off,p)) (hp:∀q∈p,q) (hk:zl st.s.sto k=some (.gro w cs)) (hw:ver=w) (hl:off+n<=cs.length):
  zL P o gc st (.agg ((cs.drop off).take n)):=by
 intro C Λ ac _ hg h;have hx1:=zm h hx h1 hp hg;generalize hv:ac.eval x=v at hx1
 cases hx1 with
 |gpt _ _ _ g3=>
  obtain ⟨b,rfl,g4⟩:=g3 (hw.trans (h.s.sto k _ hk).2.1.symm);obtain ⟨arr,e,h2,h3,h4⟩:=h.s.QP hk g4;obtain ⟨u,e1,e2⟩:=zce (P:=P) hn ha h2 h3 h4 hl
  exact ⟨u,by simp [execOp,ho,hv,e1],e2⟩
end
section
variable {P:Program} {o:Oper} {gc:Bool} {st:St}
theorem yP {t:TypeId} {n:Nat} (h:ZO P t=some n) (w:World):(sizeOf t).run P w= .ok n w:=by
 unfold ZO at h
 cases hi:P.info? t with
 |none=>rw [hi] at h;simp at h
 |some i=>rw [hi] at h;simp at h;subst h;simp [sizeOf,typeInfo,hi]
theorem run_indexAt_slice {t e:TypeId} {sz:Nat} (hu:P.underlying t=some (.slice e)) (hs:ZO P e=some sz) {b off len cap:Nat} {k:IntKind} {n:Int} (h0:0<=n) (h1:n<len) (w:World):
  (Instr.indexAt t (.slice (some ⟨b,off,none⟩) len cap) (.int k n)).run P w= .ok (.pointer (some ⟨b,off+n.toNat*sz,none⟩)) w:=by
 simp [Instr.indexAt,asIntOf,run_underlying hu,yP hs,h0,h1,Y4]
theorem run_indexAt_array {t e:TypeId} {m sz:Nat} (hu:P.underlying t=some (.array m e)) (hs:ZO P e=some sz) {b off:Nat} {k:IntKind} {n:Int} (h0:0<=n) (h1:n<m) (w:World):
  (Instr.indexAt t (.pointer (some ⟨b,off,none⟩)) (.int k n)).run P w= .ok (.pointer (some ⟨b,off+n.toNat*sz,none⟩)) w:=by
 simp [Instr.indexAt,asIntOf,run_underlying hu,yP hs,Instr.sureAddr,h0,h1,Y4]
theorem lt_of_getElem? {xs:List (List T)} {n:Int} {c:List T} (h0:0<=n) (h:xs[n.toNat]?=some c):n<xs.length:=by
 have:=(w02.1 h).1;omega
theorem zh1 {t e:TypeId} {sz:Nat} {x i:Operand} {x' i':Ar} {v:V} {k:IntKind} {n:Int} {xs:List (List T)} {c:List T} {p1 p2:List Bool}
  (hu:P.underlying t=some (.slice e)) (hs:ZO P e=some sz) (ho:o.op= .indexAddr t x i) (hx:opA x=some x') (hi:opA i=some i')
  (h1:rd gc st x'=(v,p1)) (h2:rd gc st i'=(.t (.int k n),p2)) (hv:v.zF=some (.lst xs)) (hc:xs[n.toNat]?=some c) (hsz:c.length=sz/\sz≠0)
  (hp:∀q∈p1++(p2++[decide (0<=n)]),q):zL P o gc st (.t (.ptr c)):=by
 intro C Λ ac _ hg h;have hx1:=zm h hx h1 (fun q hq=>hp q (by simp [hq])) hg;have hi1:=zm h hi h2 (fun q hq=>hp q (by simp [hq])) hg;have h0:0<=n:=zDT (hp _ (by simp));have e2:=hi1.ZW.yk;have hr:=hx1.zF hv;generalize hv':ac.eval x=u at hr;have hlt:=lt_of_getElem? h0 hc
 cases hr with
 |lst a cap sz' _ b off vf _ hsz' ha hr' hc' hrep=>
  obtain ⟨hcl,hz⟩:=hsz;have e3:c.length=sz':=hsz' _ _ hc
  have esz:sz'=sz:=by omega
  subst esz
  have hlc:0<c.length:=by omega
  have h0c:c[0]?=some c[0]:=by simp [hlc]
  have ea:=ha n.toNat 0 c _ hc h0c;subst ea
  refine ⟨_,by simp only [execOp,ho,hv',e2];simp [run_indexAt_slice hu hs h0 hlt],.t (.ptr c b _ (vf n.toNat) (fun j y hj=>hr' n.toNat j c y hc hj) (fun j y hj=>hc' n.toNat j c y hc hj) (fun j y hj=>hrep n.toNat j c y hc hj))⟩
theorem zc2 {t e:TypeId} {sz:Nat} {x i:Operand} {x' i':Ar} {k:IntKind} {n:Int} {q off len:Nat} {p1 p2:List Bool}
  (hu:P.underlying t=some (.slice e)) (hs:ZO P e=some sz) (ho:o.op= .indexAddr t x i) (hx:opA x=some x') (hi:opA i=some i')
  (h1:rd gc st x'=(.slc q off len sz,p1)) (h2:rd gc st i'=(.t (.int k n),p2)) (hp:∀q∈p1++(p2++[decide (0<=n),decide (n<(len:Int))]),q):zL P o gc st (.ptr q (off+n.toNat*sz)):=by
 intro C Λ ac _ hg h;have hx1:=zm h hx h1 (fun q hq=>hp q (by simp [hq])) hg;have hi1:=zm h hi h2 (fun q hq=>hp q (by simp [hq])) hg;have h0:0<=n:=zDT (hp _ (by simp));have hlt:n<len:=zDT (hp _ (by simp));have e2:=hi1.ZW.yk;generalize hv':ac.eval x=u at hx1
 cases hx1 with
 |slc hk _ h'=>exact ⟨_,by simp only [execOp,ho,hv',e2];simp [run_indexAt_slice hu hs h0 hlt],.ptr hk h'⟩
theorem zfp {t e:TypeId} {sz:Nat} {x i:Operand} {x' i':Ar} {k:IntKind} {n:Int} {q ver off len w:Nat} {cs:List V} {p1 p2:List Bool}
  (hu:P.underlying t=some (.slice e)) (hs:ZO P e=some sz) (ho:o.op= .indexAddr t x i) (hx:opA x=some x') (hi:opA i=some i')
  (h1:rd gc st x'=(.gsl q ver off len sz,p1)) (h2:rd gc st i'=(.t (.int k n),p2)) (hk:zl st.s.sto q=some (.gro w cs)) (hp:∀q∈p1++(p2++[decide (0<=n),decide (n<(len:Int)),decide (0<w),decide (ver=w)]),q):zL P o gc st (.gpt q ver (off+n.toNat*sz)):=by
 intro C Λ ac _ hg h;have hx1:=zm h hx h1 (fun q hq=>hp q (by simp [hq])) hg;have hi1:=zm h hi h2 (fun q hq=>hp q (by simp [hq])) hg;have h0:0<=n:=zDT (hp _ (by simp));have hlt:n<len:=zDT (hp _ (by simp));have hw:ver=w:=zDT (hp _ (by simp));have e2:=hi1.ZW.yk;generalize hv':ac.eval x=u at hx1
 cases hx1 with
 |gsl _ hk1 hn1 h'=>
  rcases h' (hw.trans (h.s.sto q _ hk).2.1.symm) with ⟨_,hl⟩|⟨b,cap,N,rfl,hc,hb,hN,he⟩
  ·omega
  ·exact ⟨_,by simp only [execOp,ho,hv',e2];simp [run_indexAt_slice hu hs h0 hlt],.gpt ⟨_,rfl⟩ hk1 ⟨Nat.pos_of_ne_zero (fun h0=>by have:=(hn1.1 h0).2;omega),hn1.2⟩ (fun _=>⟨b,rfl,hb⟩)⟩
theorem zct {t e:TypeId} {m sz:Nat} {x i:Operand} {x' i':Ar} {k:IntKind} {n:Int} {v r:V} {p1 p2:List Bool}
  (hu:P.underlying t=some (.array m e)) (hs:ZO P e=some sz) (ho:o.op= .indexAddr t x i) (hx:opA x=some x') (hi:opA i=some i')
  (h1:rd gc st x'=(v,p1)) (h2:rd gc st i'=(.t (.int k n),p2)) (hp:∀q∈p1++(p2++[decide (0<=n),decide (n<(m:Int))]),q)
  (hv:(∃a b,v= .ptr a b/\r= .ptr a (b+n.toNat*sz))∨∃c,v= .t (.ptr c)/\r= .t (.ptr (c.drop (n.toNat*sz)))):zL P o gc st r:=by
 intro C Λ ac _ hg h;have hx1:=zm h hx h1 (fun q hq=>hp q (by simp [hq])) hg;have hi1:=zm h hi h2 (fun q hq=>hp q (by simp [hq])) hg;have h0:0<=n:=zDT (hp _ (by simp));have hlt:n<m:=zDT (hp _ (by simp));have e2:=hi1.ZW.yk
 rcases hv with ⟨a,b,rfl,rfl⟩|⟨c,rfl,rfl⟩
 ·generalize hv':ac.eval x=u at hx1
  cases hx1 with
  |ptr hk h'=>exact ⟨_,by simp only [execOp,ho,hv',e2];simp [run_indexAt_array hu hs h0 hlt],.ptr hk h'⟩
 ·have hr:=hx1.ZW;obtain ⟨b,o',hv'⟩:=hr.z23;rw [hv'] at hr
  exact ⟨_,by simp only [execOp,ho,hv',e2];simp [run_indexAt_array hu hs h0 hlt],.t hr.z7u⟩
theorem zgg {t:TypeId} {x i:Operand} {x' i':Ar} {k:IntKind} {n:Int} {s:List UInt8} {b:UInt8} {p1 p2:List Bool}
  (hu:P.underlying t=some .string) (ho:o.op= .index t x i) (hx:opA x=some x') (hi:opA i=some i')
  (h1:rd gc st x'=(.t (.str s),p1)) (h2:rd gc st i'=(.t (.int k n),p2)) (hb:s[n.toNat]?=some b) (hp:∀q∈p1++(p2++[decide (0<=n)]),q):zL P o gc st (.t (.int .u8 b.toNat)):=by
 intro C Λ ac _ hg h;have hx1:=zm h hx h1 (fun q hq=>hp q (by simp [hq])) hg;have hi1:=zm h hi h2 (fun q hq=>hp q (by simp [hq])) hg;have h0:0<=n:=zDT (hp _ (by simp));have e1:=hx1.ZW.wH;have e2:=hi1.ZW.yk
 have e3:(⟨⟨s⟩⟩:ByteArray)[n.toNat]?=some b:=by
  have hlt:=(w02.1 hb).1;rw [getElem?_pos (⟨⟨s⟩⟩:ByteArray) n.toNat (by exact hlt)];obtain ⟨_,rfl⟩:=w02.1 hb;rfl
 refine ⟨.int .u8 b.toNat,?_,.t (.int _ _)⟩;simp only [execOp,ho,e1,e2];simp [Instr.index,asIntOf,run_underlying hu,h0,e3]
theorem z2G {t:TypeId} {d:TypeDesc} (hu:P.underlying t=some d) (ha:Zd P t=false) {vs:Array Value} {off:Nat} {v:Value} (hv:vs[off]?=some v) (w:World):(part t vs off).run P w= .ok v w:=by
 have hagg:(isAgg t).run P w= .ok false w:=by
  unfold isAgg;rw [Sem.run_bind,run_underlying hu w];unfold Zd at ha;rw [hu] at ha
  cases d<;>simp_all
 simp [part,hagg,hv]
theorem z7x {t:TypeId} {n:Nat} (hn:ZO P t=some n) (ha:Zd P t=true) {vs:Array Value} {off:Nat} (w:World):(part t vs off).run P w= .ok (.agg (vs.extract off (off+n))) w:=by
 have hagg:(isAgg t).run P w= .ok true w:=by
  unfold isAgg;unfold Zd at ha
  cases hu:P.underlying t with
  |none=>rw [hu] at ha;simp at ha
  |some d=>
   rw [hu] at ha;rw [Sem.run_bind,run_underlying hu w]
   cases d<;>simp_all
 simp [part,hagg,yP hn]
theorem zy.sub {Λ:L} {vs:Array Value} {cs:List V} (hs:vs.size=cs.length) (h:∀(j:Nat) (v:Value) (c:V),vs[j]?=some v->cs[j]?=some c->zy Λ v c) {off n:Nat} (_:off+n<=cs.length):
  zy Λ (.agg (vs.extract off (off+n))) (.agg ((cs.drop off).take n)):=by
 have:=zy.zf4 (Λ:=Λ) (vs:=vs.toList) (cs:=cs) (fun j v c e1 e2=>h j v c (by simpa using e1) e2) (by simpa using hs) off n
 have e:((vs.toList.drop off).take n).toArray=vs.extract off (off+n):=by
  apply w24;simp [Nat.add_sub_cancel_left]
 rwa [e] at this
theorem zgG {t:TypeId} {fs:Array Field} {f:Nat} {fd:Field} {d:TypeDesc} {x:Operand} {x':Ar} {cs:List V} {c:V} {p:List Bool} (hu:P.underlying t=some (.struct fs)) (hf:fs[f]?=some fd)
  (hd:P.underlying fd.type=some d) (ha:Zd P fd.type=false)
  (ho:o.op= .field t x f) (hx:opA x=some x') (h1:rd gc st x'=(.agg cs,p)) (hp:∀q∈p,q) (hc:cs[fd.offset]?=some c):zL P o gc st c:=by
 intro C Λ ac _ hg h;have hx1:=zm h hx h1 hp hg;generalize hv':ac.eval x=u at hx1
 cases hx1 with
 |@agg vs _ hs h'=>
  have hlt:=(w02.1 hc).1
  have hg':vs[fd.offset]?=some (vs[fd.offset]'(by omega)):=by simp
  refine ⟨_,?_,(h' _ _ c hg' hc)⟩;simp only [execOp,ho,hv'];simp [Instr.field,run_underlying hu,hf,asAgg,z2G hd ha hg']
theorem zfW {t:TypeId} {fs:Array Field} {f:Nat} {fd:Field} {n:Nat} {x:Operand} {x':Ar} {cs:List V} {p:List Bool} (hu:P.underlying t=some (.struct fs)) (hf:fs[f]?=some fd)
  (hn:ZO P fd.type=some n) (ha:Zd P fd.type=true)
  (ho:o.op= .field t x f) (hx:opA x=some x') (h1:rd gc st x'=(.agg cs,p)) (hp:∀q∈p,q) (hl:fd.offset+n<=cs.length):zL P o gc st (.agg (((cs.drop fd.offset).take n))):=by
 intro C Λ ac _ hg h;have hx1:=zm h hx h1 hp hg;generalize hv':ac.eval x=u at hx1
 cases hx1 with
 |@agg vs _ hs h'=>
  refine ⟨_,?_,zy.sub hs h' hl⟩;simp only [execOp,ho,hv'];simp [Instr.field,run_underlying hu,hf,asAgg,z7x hn ha]
theorem zgT {t e:TypeId} {m sz:Nat} {d:TypeDesc} {x i:Operand} {x' i':Ar} {k:IntKind} {n:Int} {cs:List V} {c:V} {p1 p2:List Bool}
  (hu:P.underlying t=some (.array m e)) (hs:ZO P e=some sz) (hd:P.underlying e=some d) (ha:Zd P e=false) (ho:o.op= .index t x i) (hx:opA x=some x') (hi:opA i=some i')
  (h1:rd gc st x'=(.agg cs,p1)) (h2:rd gc st i'=(.t (.int k n),p2)) (hc:cs[n.toNat*sz]?=some c) (hp:∀q∈p1++(p2++[decide (0<=n),decide (n<(m:Int))]),q):zL P o gc st c:=by
 intro C Λ ac _ hg h;have hx1:=zm h hx h1 (fun q hq=>hp q (by simp [hq])) hg;have hi1:=zm h hi h2 (fun q hq=>hp q (by simp [hq])) hg;have h0:0<=n:=zDT (hp _ (by simp));have hlt:n<m:=zDT (hp _ (by simp));have e2:=hi1.ZW.yk;generalize hv':ac.eval x=u at hx1
 cases hx1 with
 |@agg vs _ hs' h'=>
  have hlt':=(w02.1 hc).1
  have hg':vs[n.toNat*sz]?=some (vs[n.toNat*sz]'(by omega)):=by simp
  refine ⟨_,?_,(h' _ _ c hg' hc)⟩;simp only [execOp,ho,hv',e2];simp [Instr.index,asIntOf,run_underlying hu,h0,hlt,yP hs,z2G hd ha hg']
theorem zf9 {t e:TypeId} {m sz:Nat} {x i:Operand} {x' i':Ar} {k:IntKind} {n:Int} {cs:List V} {p1 p2:List Bool}
  (hu:P.underlying t=some (.array m e)) (hs:ZO P e=some sz) (ha:Zd P e=true) (ho:o.op= .index t x i) (hx:opA x=some x') (hi:opA i=some i')
  (h1:rd gc st x'=(.agg cs,p1)) (h2:rd gc st i'=(.t (.int k n),p2)) (hl:n.toNat*sz+sz<=cs.length) (hp:∀q∈p1++(p2++[decide (0<=n),decide (n<(m:Int))]),q):
  zL P o gc st (.agg (((cs.drop (n.toNat*sz)).take sz))):=by
 intro C Λ ac _ hg h;have hx1:=zm h hx h1 (fun q hq=>hp q (by simp [hq])) hg;have hi1:=zm h hi h2 (fun q hq=>hp q (by simp [hq])) hg;have h0:0<=n:=zDT (hp _ (by simp));have hlt:n<m:=zDT (hp _ (by simp));have e2:=hi1.ZW.yk;generalize hv':ac.eval x=u at hx1
 cases hx1 with
 |@agg vs _ hs' h'=>
  refine ⟨_,?_,zy.sub hs' h' hl⟩;simp only [execOp,ho,hv',e2];simp [Instr.index,asIntOf,run_underlying hu,h0,hlt,yP hs,z7x hs ha]
theorem z4Q {t:TypeId} {x:Operand} {x':Ar} {args:Array Operand} {ats:Array TypeId} {d:TypeDesc} {v:V} {n:Nat} {p:List Bool} (ha:args[0]?=some x) (hat:ats[0]?=some t) (hu:P.underlying t=some d)
  (hd:d= .string∨∃e,d= .slice e) (ho:o.op= .call {callee:= .builtin .len,args:=args,argTypes:=ats}) (hx:opA x=some x') (h1:rd gc st x'=(v,p)) (hp:∀q∈p,q)
  (hv:(d= .string/\∃s,v= .t (.str s)/\n=s.length)∨((∃e,d= .slice e)/\((∃xs,v.zF=some (.lst xs)/\n=xs.length)∨∃a b c,v= .slc a b n c))):zL P o gc st (.t (.int .i64 n)):=by
 intro C Λ ac _ hg h;have hx1:=zm h hx h1 hp hg
 have hax:(args.map ac.eval)[0]?=some (ac.eval x):=by simp [ha]
 refine ⟨.int .i64 n,?_,.t (.int _ _)⟩
 rcases hv with ⟨rfl,s,rfl,rfl⟩|⟨⟨e,rfl⟩,⟨xs,hc,rfl⟩|⟨a,b,c,rfl⟩⟩
 ·have e1:=hx1.ZW.wH;rw [e1] at hax;simp only [execOp,ho,resolve,Sem.run_bind,Sem.run_pure,Result.andThen_ok,invoke,builtin];simp [Builtin.len_,hat,hax,run_underlying hu,goInt];rfl
 ·have hr:=hx1.zF hc;generalize hv':ac.eval x=u at hr hax
  cases hr with
  |lst a cap sz _ b off vf _ h1 h2 h3 h4 h5=>
   simp only [execOp,ho,resolve,Sem.run_bind,Sem.run_pure,Result.andThen_ok,invoke,builtin];simp [Builtin.len_,hat,hax,run_underlying hu,goInt]
 ·generalize hv':ac.eval x=u at hx1 hax
  cases hx1 with
  |slc hk _ h'=>
   simp only [execOp,ho,resolve,Sem.run_bind,Sem.run_pure,Result.andThen_ok,invoke,builtin];simp [Builtin.len_,hat,hax,run_underlying hu,goInt]
theorem zdp {t:TypeId} {x:Operand} {x':Ar} {args:Array Operand} {ats:Array TypeId} {e:TypeId} {k ver off n sz w:Nat} {cs:List V} {p:List Bool} (ha:args[0]?=some x) (hat:ats[0]?=some t) (hu:P.underlying t=some (.slice e))
  (ho:o.op= .call {callee:= .builtin .len,args:=args,argTypes:=ats}) (hx:opA x=some x') (h1:rd gc st x'=(.gsl k ver off n sz,p)) (hp:∀q∈p,q) (hk:zl st.s.sto k=some (.gro w cs)) (hw:ver=w):zL P o gc st (.t (.int .i64 n)):=by
 intro C Λ ac _ hg h;have hx1:=zm h hx h1 hp hg
 have hax:(args.map ac.eval)[0]?=some (ac.eval x):=by simp [ha]
 refine ⟨.int .i64 n,?_,.t (.int _ _)⟩;generalize hv':ac.eval x=u at hx1 hax
 cases hx1 with
 |gsl _ hk1 hn1 h'=>
  rcases h' (hw.trans (h.s.sto k _ hk).2.1.symm) with ⟨⟨a,rfl⟩,hl⟩|⟨b,cap,N,rfl,hc,hb,hN,he⟩
  ·subst hl;simp only [execOp,ho,resolve,Sem.run_bind,Sem.run_pure,Result.andThen_ok,invoke,builtin];simp [Builtin.len_,hat,hax,run_underlying hu,goInt]
  ·simp only [execOp,ho,resolve,Sem.run_bind,Sem.run_pure,Result.andThen_ok,invoke,builtin];simp [Builtin.len_,hat,hax,run_underlying hu,goInt]
end
section
variable {P:Program} {o:Oper} {gc:Bool} {st:St}
theorem extract_mk (s:List UInt8) (l h:Nat):(⟨⟨s⟩⟩:ByteArray).extract l h=⟨⟨(s.take h).drop l⟩⟩:=by
 apply ByteArray.ext;apply w24;rw [Lib.extract_data];simp [List.drop_take]
theorem Qq {k:IntKind} {n:Int} {y:Nat} (h0:0<=n) (h1:n<=y) (c:BoundsCode) (w:World):(Instr.sliceBound (.int k n) y c).run P w= .ok n.toNat w:=by
 simp [Instr.sliceBound,asIntOf,h0,h1]
theorem Ys {C:Ctx} {Λ:L} {ac:Act} (h:Rel C Λ st ac) {y:Option Operand} {x:Option Ar} (hy:z03 y=some x) {d n:Int} {p:List Bool} (hb:bnd x gc st d=some (n,p))
  (hp:∀q∈p,q) (hg:gc=true):(y=none/\n=d)∨∃z k,y=some z/\ac.eval z= .int k n:=by
 cases y with
 |none=>
  simp [z03] at hy;subst hy;simp [bnd] at hb;exact .inl ⟨rfl,hb.1.symm⟩
 |some z=>
  simp only [z03,w05] at hy;obtain ⟨a,ha,rfl⟩:=hy;simp only [bnd] at hb;split at hb
  ·rename_i m q hr;simp at hb;obtain ⟨rfl,rfl⟩:=hb;have hv:=zm h ha hr hp hg;exact .inr ⟨z,_,rfl,hv.ZW.yk⟩
  ·simp at hb
theorem yO {b:Bool} {len cap:Nat} {lo hi:Option Value} {l h:Int} (hlo:lo=none/\l=0∨∃k,lo=some (.int k l)) (hhi:hi=none/\h=len∨∃k,hi=some (.int k h))
  (h0:0<=l) (h1:l<=h) (h2:h<=cap) (w:World):(Instr.sliceBounds b len cap lo hi none).run P w= .ok (l.toNat,h.toNat,cap) w:=by
 rcases hhi with ⟨rfl,rfl⟩|⟨k,rfl⟩
 ·rcases hlo with ⟨rfl,rfl⟩|⟨k',rfl⟩
  ·simp [Instr.sliceBounds]
  ·simp [Instr.sliceBounds,Qq h0 h1]
 ·have hh:0<=h:=by omega
  rcases hlo with ⟨rfl,rfl⟩|⟨k',rfl⟩
  ·simp [Instr.sliceBounds,Qq hh h2]
  ·simp [Instr.sliceBounds,Qq hh h2,Qq (y:=h.toNat) h0 (by omega)]
theorem zgS {t:TypeId} {x:Operand} {lo hi:Option Operand} {x':Ar} {lo' hi':Option Ar} {s:List UInt8} {l h:Int} {p p1 p2:List Bool} (hu:P.underlying t=some .string)
  (ho:o.op= .slice t x lo hi none) (hx:opA x=some x') (hl:z03 lo=some lo') (hh:z03 hi=some hi') (h1:rd gc st x'=(.t (.str s),p))
  (h2:bnd lo' gc st 0=some (l,p1)) (h3:bnd hi' gc st s.length=some (h,p2)) (hp:∀q∈p++(p1++(p2++[decide (0<=l),decide (l<=h),decide (h<=(s.length:Int))])),q):
  zL P o gc st (.t (.str ((s.take h.toNat).drop l.toNat))):=by
 intro C Λ ac _ hg hr;have hx1:=zm hr hx h1 (fun q hq=>hp q (by simp [hq])) hg;have e1:=hx1.ZW.wH;have b1:=Ys hr hl h2 (fun q hq=>hp q (by simp [hq])) hg;have b2:=Ys hr hh h3 (fun q hq=>hp q (by simp [hq])) hg;have g0:0<=l:=zDT (hp _ (by simp));have g1:l<=h:=zDT (hp _ (by simp));have g2:h<=s.length:=zDT (hp _ (by simp));refine ⟨.string ⟨⟨(s.take h.toNat).drop l.toNat⟩⟩,?_,.t (.str _)⟩
 have hb:=yO (P:=P) (b:=false) (len:=s.length) (cap:=s.length) (lo:=lo.map ac.eval) (hi:=hi.map ac.eval) (l:=l) (h:=h)
  (by rcases b1 with ⟨rfl,rfl⟩|⟨z,k,rfl,e⟩<;>simp [*]) (by rcases b2 with ⟨rfl,rfl⟩|⟨z,k,rfl,e⟩<;>simp [*]) g0 g1 g2 Λ.w
 have hs:(⟨⟨s⟩⟩:ByteArray).size=s.length:=rfl;simp only [execOp,ho,e1,w2h];simp [Instr.sliceAt,Instr.slice,run_underlying hu,hs,hb,extract_mk]
theorem Wy {sz:Nat} {xs:List (List T)} (h:y6 sz xs=true) (i:Nat) (c:List T) (hc:xs[i]?=some c):c.length=sz:=by
 unfold y6 at h;rw [w0m] at h;simpa using h c (zMG hc)
theorem zR.sub {lb:Nat->Lab} {w:World} {a:Option Addr} {n cap sz l h:Nat} {xs:List (List T)} (hr:zR lb w (.slice a n cap) (.lst xs)) (hsz:∀(i:Nat) (c:List T),xs[i]?=some c->c.length=sz)
  (h1:l<=h) (h2:h<=xs.length):zR lb w (.slice (if cap=l then a else a.map (·.add (l*sz))) (h - l) (cap - l)) (.lst ((xs.take h).drop l)):=by
 cases hr with
 |lst _ _ sz' _ b off vf hcap hsz' ha hr' hc' hrep=>
  have hlen:((xs.take h).drop l).length=h - l:=by simp;omega
  have hget:∀(i:Nat) (c:List T),((xs.take h).drop l)[i]?=some c->xs[l+i]?=some c/\l+i<h:=by
   intro i c hi;rw [w0z,w0p] at hi;split at hi
   ·exact ⟨hi,by assumption⟩
   ·cases hi
  have key:zR lb w (.slice (if cap=l then a else a.map (·.add (l*sz))) ((xs.take h).drop l).length (cap - l)) (.lst ((xs.take h).drop l)):=by
   refine .lst _ _ sz' _ b (off+l*sz') (fun i j=>vf (l+i) j) (by rw [hlen];omega) (fun i c hi=>hsz' _ c (hget i c hi).1) ?_ ?_ ?_ ?_
   ·intro i j c x hi hj;have:=(hget i c hi);have ea:=ha _ j c x this.1 hj;subst ea
    have:cap≠l:=by omega
    have e1:=hsz _ c (hget i c hi).1;have e2:=hsz' _ c (hget i c hi).1
    have:sz=sz':=by omega
    subst this;simp [*,Y4]
   ·intro i j c x hi hj;have:=hr' _ j c x (hget i c hi).1 hj
    rwa [w1d,←w1e] at this
   ·intro i j c x hi hj;have:=hc' _ j c x (hget i c hi).1 hj
    rwa [w1d,←w1e] at this
   ·intro i j c x hi hj;exact hrep _ j c x (hget i c hi).1 hj
  rwa [hlen] at key
theorem zgR {t e:TypeId} {sz:Nat} {x:Operand} {lo hi:Option Operand} {x':Ar} {lo' hi':Option Ar} {v:V} {xs:List (List T)} {l h:Int} {p p1 p2:List Bool} (hu:P.underlying t=some (.slice e)) (hs:ZO P e=some sz)
  (ho:o.op= .slice t x lo hi none) (hx:opA x=some x') (hl:z03 lo=some lo') (hh:z03 hi=some hi') (h1:rd gc st x'=(v,p)) (hv:v.zF=some (.lst xs))
  (h2:bnd lo' gc st 0=some (l,p1)) (h3:bnd hi' gc st xs.length=some (h,p2)) (hp:∀q∈p++(p1++(p2++[decide (0<=l),decide (l<=h),decide (h<=(xs.length:Int)),y6 sz xs])),q):
  zL P o gc st (.t (.lst ((xs.take h.toNat).drop l.toNat))):=by
 intro C Λ ac _ hg hr;have hx1:=zm hr hx h1 (fun q hq=>hp q (by simp [hq])) hg;have b1:=Ys hr hl h2 (fun q hq=>hp q (by simp [hq])) hg;have b2:=Ys hr hh h3 (fun q hq=>hp q (by simp [hq])) hg;have g0:0<=l:=zDT (hp _ (by simp));have g1:l<=h:=zDT (hp _ (by simp));have g2:h<=xs.length:=zDT (hp _ (by simp));have hsz:=Wy (hp (y6 sz xs) (by simp));have hrx:=hx1.zF hv;generalize hv':ac.eval x=u at hrx;have hrx':=hrx
 cases hrx with
 |lst a cap sz' _ b off vf hcap _ _ _ _ _=>
  have hb:=yO (P:=P) (b:=true) (len:=xs.length) (cap:=cap) (lo:=lo.map ac.eval) (hi:=hi.map ac.eval) (l:=l) (h:=h)
   (by rcases b1 with ⟨rfl,rfl⟩|⟨z,k,rfl,e⟩<;>simp [*]) (by rcases b2 with ⟨rfl,rfl⟩|⟨z,k,rfl,e⟩<;>simp [*]) g0 g1 (by omega) Λ.w
  refine ⟨_,?_,.t (hrx'.sub hsz (l:=l.toNat) (h:=h.toNat) (by omega) (by omega))⟩;simp only [execOp,ho,hv',w2h];simp [Instr.sliceAt,Instr.slice,run_underlying hu,hb,yP hs]
theorem zgy {t e:TypeId} {sz:Nat} {x:Operand} {lo hi:Option Operand} {x':Ar} {lo' hi':Option Ar} {q off len s:Nat} {l h:Int} {p p1 p2:List Bool} (hu:P.underlying t=some (.slice e)) (hs:ZO P e=some sz)
  (ho:o.op= .slice t x lo hi none) (hx:opA x=some x') (hl:z03 lo=some lo') (hh:z03 hi=some hi') (h1:rd gc st x'=(.slc q off len s,p))
  (h2:bnd lo' gc st 0=some (l,p1)) (h3:bnd hi' gc st len=some (h,p2)) (hp:∀b∈p++(p1++(p2++[decide (l=0),decide (0<=h),decide (h<=(len:Int)),s==sz])),b):
  zL P o gc st (.slc q off h.toNat s):=by
 intro C Λ ac _ hg hr;have hx1:=zm hr hx h1 (fun b hb=>hp b (by simp [hb])) hg;have b1:=Ys hr hl h2 (fun b hb=>hp b (by simp [hb])) hg;have b2:=Ys hr hh h3 (fun b hb=>hp b (by simp [hb])) hg;have g0:l=0:=zDT (hp _ (by simp));have g1:0<=h:=zDT (hp _ (by simp));have g2:h<=len:=zDT (hp _ (by simp));subst g0;generalize hv':ac.eval x=u at hx1
 cases hx1 with
 |@slc b _ _ _ cap _ hk hc h'=>
  have hb:=yO (P:=P) (b:=true) (len:=len) (cap:=cap) (lo:=lo.map ac.eval) (hi:=hi.map ac.eval) (l:=0) (h:=h)
   (by rcases b1 with ⟨rfl,h0⟩|⟨z,k,rfl,e⟩<;>simp [*]) (by rcases b2 with ⟨rfl,rfl⟩|⟨z,k,rfl,e⟩<;>simp [*]) (by omega) g1 (by omega) Λ.w
  have hcap:h.toNat<=cap:=by omega
  refine ⟨_,?_,.slc hk hcap h'⟩;simp only [execOp,ho,hv',w2h];simp [Instr.sliceAt,Instr.slice,run_underlying hu,hb,yP hs];intro _;simp [Addr.add]
theorem zg8 {t e:TypeId} {sz:Nat} {x:Operand} {lo hi:Option Operand} {x':Ar} {lo' hi':Option Ar} {q ver off len s w:Nat} {cs:List V} {l h:Int} {p p1 p2:List Bool} (hu:P.underlying t=some (.slice e)) (hs:ZO P e=some sz)
  (ho:o.op= .slice t x lo hi none) (hx:opA x=some x') (hl:z03 lo=some lo') (hh:z03 hi=some hi') (h1:rd gc st x'=(.gsl q ver off len s,p))
  (h2:bnd lo' gc st 0=some (l,p1)) (h3:bnd hi' gc st len=some (h,p2)) (hp:∀b∈p++(p1++(p2++[decide (0<=l),decide (l<=h),decide (h<=(len:Int)),s==sz,decide (ver=w)])),b) (hk:zl st.s.sto q=some (.gro w cs)):
  zL P o gc st (.gsl q ver (off+l.toNat*s) (h.toNat - l.toNat) s):=by
 intro C Λ ac _ hg hr;have hx1:=zm hr hx h1 (fun b hb=>hp b (by simp [hb])) hg;have b1:=Ys hr hl h2 (fun b hb=>hp b (by simp [hb])) hg;have b2:=Ys hr hh h3 (fun b hb=>hp b (by simp [hb])) hg;have g0:0<=l:=zDT (hp _ (by simp));have g1:l<=h:=zDT (hp _ (by simp));have g2:h<=len:=zDT (hp _ (by simp));have hw:ver=w:=zDT (hp _ (by simp));have hse:(s==sz)=true:=hp _ (by simp)
 have hse':s=sz:=by simpa using hse
 subst hse';generalize hv':ac.eval x=u at hx1
 cases hx1 with
 |gsl _ hk1 hn1 h'=>
  rcases h' (hw.trans (hr.s.sto q _ hk).2.1.symm) with ⟨⟨a,rfl⟩,hl0⟩|⟨b,cap,N,rfl,hc,hb,hN,he⟩
  ·subst hl0
   have hl':l=0:=by omega
   have hh':h=0:=by omega
   subst hl' hh'
   have hb:=yO (P:=P) (b:=true) (len:=0) (cap:=0) (lo:=lo.map ac.eval) (hi:=hi.map ac.eval) (l:=0) (h:=0)
    (b1.elim (fun ⟨e0,e1⟩=> .inl ⟨by rw [e0];rfl,e1⟩) (fun ⟨z,k,e0,e1⟩=> .inr ⟨k,by rw [e0];simp [e1]⟩)) (b2.elim (fun ⟨e0,e1⟩=> .inl ⟨by rw [e0];rfl,e1⟩) (fun ⟨z,k,e0,e1⟩=> .inr ⟨k,by rw [e0];simp [e1]⟩)) (by omega) (by omega) (by omega) Λ.w
   refine ⟨.slice a 0 0,?_,.gsl ⟨_,_,_,rfl⟩ hk1 ⟨fun _=>⟨⟨_,rfl⟩,by simp⟩,hn1.2⟩ (fun _=> .inl ⟨⟨_,rfl⟩,by simp⟩)⟩
   simp only [execOp,ho,hv',w2h];simp [Instr.sliceAt,Instr.slice,run_underlying hu,hb,yP hs]
  ·have hb1:=yO (P:=P) (b:=true) (len:=len) (cap:=cap) (lo:=lo.map ac.eval) (hi:=hi.map ac.eval) (l:=l) (h:=h)
    (b1.elim (fun ⟨e0,e1⟩=> .inl ⟨by rw [e0];rfl,e1⟩) (fun ⟨z,k,e0,e1⟩=> .inr ⟨k,by rw [e0];simp [e1]⟩)) (b2.elim (fun ⟨e0,e1⟩=> .inl ⟨by rw [e0];rfl,e1⟩) (fun ⟨z,k,e0,e1⟩=> .inr ⟨k,by rw [e0];simp [e1]⟩)) g0 g1 (by omega) Λ.w
   by_cases hcl:cap=l.toNat
   ·
    refine ⟨.slice (some ⟨b,off,none⟩) 0 0,?_,.gsl ⟨_,_,_,rfl⟩ hk1 ⟨fun _=>⟨⟨_,rfl⟩,by omega⟩,hn1.2⟩ (fun _=> .inl ⟨⟨_,rfl⟩,by omega⟩)⟩
    simp only [execOp,ho,hv',w2h];rw [hcl] at hb1 hc;simp [Instr.sliceAt,Instr.slice,run_underlying hu,hb1,yP hs,hcl];omega
   ·refine ⟨.slice (some ⟨b,off+l.toNat*s,none⟩) (h.toNat - l.toNat) (cap - l.toNat),?_,.gsl ⟨_,_,_,rfl⟩ hk1 ⟨fun h0=>by obtain ⟨⟨a',e'⟩,_⟩:=hn1.1 h0;simp at e';omega,hn1.2⟩ (fun _=> .inr ⟨b,cap - l.toNat,N,rfl,by omega,hb,hN,?_⟩)⟩
    ·simp only [execOp,ho,hv',w2h];simp [Instr.sliceAt,Instr.slice,run_underlying hu,hb1,yP hs,Addr.add,hcl]
    ·have:l.toNat<=cap:=by omega
     rw [←he,w1e,←w1d];congr 2;omega
theorem zeM {b:Bool} {x y:Operand} {x' y':Ar} {args:Array Operand} {ats:Array TypeId} {k:IntKind} {m n:Int} {p1 p2:List Bool} (ha:args.toList=[x,y])
  (ho:o.op= .call {callee:= .builtin (if b then .max else .min),args:=args,argTypes:=ats}) (hx:opA x=some x') (hy:opA y=some y')
  (h1:rd gc st x'=(.t (.int k m),p1)) (h2:rd gc st y'=(.t (.int k n),p2)) (hp:∀q∈p1++p2,q):
  zL P o gc st (.t (.int k (if b then (if n>m then n else m) else (if n<m then n else m)))):=by
 intro C Λ ac _ hg h;have hx1:=zm h hx h1 (fun q hq=>hp q (by simp [hq])) hg;have hy1:=zm h hy h2 (fun q hq=>hp q (by simp [hq])) hg;have e1:=hx1.ZW.yk;have e2:=hy1.ZW.yk
 have hm:args.toList.map ac.eval=[.int k m,.int k n]:=by simp [ha,e1,e2]
 refine ⟨_,?_,.t (.int _ _)⟩;cases b
 ·simp only [execOp,ho,resolve,Sem.run_bind,Sem.run_pure,Result.andThen_ok,invoke,builtin,w0k,w0r];simp [Builtin.min_,Builtin.min2,hm]
 ·simp only [execOp,ho,resolve,Sem.run_bind,Sem.run_pure,Result.andThen_ok,invoke,builtin,w0v];simp [Builtin.max_,Builtin.max2,hm]
end
section
variable {P:Program} {o:Oper} {gc:Bool} {st:St}
def YI (Λ:L) (arr:Array Value) (cs:List V):Prop:=
 arr.size=cs.length/\∀(j:Nat) (v:Value) (c:V),arr[j]?=some v->cs[j]?=some c->zy Λ v c
theorem YI.set {Λ:L} {arr:Array Value} {cs:List V} (h:YI Λ arr cs) {i:Nat} {v:Value} {c:V} (hv:zy Λ v c):YI Λ (arr.setIfInBounds i v) (cs.set i c):=by
 refine ⟨by simp [h.1],fun j u x hu hx=>?_⟩
 rw [Array.getElem?_setIfInBounds] at hu;rw [w1i] at hx;by_cases e:i=j
 ·subst e;by_cases hlt:i<arr.size
  ·have hlt':i<cs.length:=by rw [←h.1];exact hlt
   simp [hlt] at hu;simp [hlt'] at hx;subst hu;subst hx;exact hv
  ·simp [hlt] at hu
 ·simp only [e,w0r] at hu hx;exact h.2 j u x hu hx
theorem YI.foldl {Λ:L} (off:Nat):∀(vs:List Value) (us:List V) (s:Nat) (arr:Array Value) (cs:List V),vs.length=us.length->
  (∀(j:Nat) (v:Value) (c:V),vs[j]?=some v->us[j]?=some c->zy Λ v c)->YI Λ arr cs->
  YI Λ ((vs.zipIdx s).foldl (fun cs (c,j)=>cs.setIfInBounds (off+j) c) arr) (setAt cs (off+s) us)
 |[],[],s,arr,cs,_,_,h=>by simpa [setAt] using h
 |v::vs,u::us,s,arr,cs,hl,hv,h=>by
  simp only [List.zipIdx_cons,w1t,setAt];rw [w1e];exact YI.foldl off vs us (s+1) _ _ (by simpa using hl) (fun j a b h1 h2=>hv (j+1) a b (by simpa using h1) (by simpa using h2)) (h.set (hv 0 v u Z Z))
 |[],_::_,_,_,_,hl,_,_=>by simp at hl
 |_::_,[],_,_,_,hl,_,_=>by simp at hl
theorem wE:∀(us:List V) (cs:List V) (off:Nat),(setAt cs off us).length=cs.length
 |[],_,_=>rfl
 |u::us,cs,off=>by simp [setAt,wE us]
theorem zy.parts {Λ:L} {v:Value} {x:V} {ps:List V} (h:zy Λ v x) (hp:x.parts=some ps):YI Λ v.cells ps:=by
 have one:∀{v:Value} {y:V},v.cells=#[v]->zy Λ v y->YI Λ v.cells [y]:=by
  intro v y hv hy;rw [hv];refine ⟨rfl,fun j u c hu hc=>?_⟩
  cases j with
  |zero=>simp at hu hc;subst hu;subst hc;exact hy
  |succ j=>simp at hc
 cases h with
 |t h=>simp [V.parts] at hp;subst hp;refine one ?_ (.t h);cases h<;>rfl
 |zJ=>simp [V.parts] at hp;subst hp;exact one Z .zJ
 |own h a b c d=>simp [V.parts] at hp;subst hp;refine one ?_ (.own h a b c d);cases h<;>rfl
 |slc a c h=>simp [V.parts] at hp;subst hp;exact one Z (.slc a c h)
 |agg hs h=>simp [V.parts] at hp;subst hp;exact ⟨by simpa [Value.cells] using hs,h⟩
 |tup _ _=>simp [V.parts] at hp
 |ptr a h=>simp [V.parts] at hp;subst hp;exact one Z (.ptr a h)
 |mp a h=>simp [V.parts] at hp;subst hp;exact one Z (.mp a h)
 |fn hs h=>simp [V.parts] at hp;subst hp;exact one Z (.fn hs h)
 |gd _ _=>simp [V.parts] at hp
 |top=>simp [V.parts] at hp
 |ub _ _=>simp [V.parts] at hp
 |fpt a h=>simp [V.parts] at hp;subst hp;exact one Z (.fpt a h)
 |gpt hv a b h=>simp [V.parts] at hp;subst hp;refine one ?_ (.gpt hv a b h);obtain ⟨_,rfl⟩:=hv;rfl
 |gsl hv a b h=>simp [V.parts] at hp;subst hp;refine one ?_ (.gsl hv a b h);obtain ⟨_,_,_,rfl⟩:=hv;rfl
 |fow h a b c d=>simp [V.parts] at hp;subst hp;refine one ?_ (.fow h a b c d);cases h<;>rfl
theorem z04 {C:Ctx} {Λ:L} {ac:Act} (h:Rel C Λ st ac) (hg:gc=true) (place:Nat->Option (Nat×Nat)):∀(parts:List (Nat×Operand)) (ps:List (Nat×Nat×Ar)) (arr:Array Value) (cs cs':List V) (p:List Bool),
  partsOf place parts=some ps->YI Λ arr cs->z0C st gc cs ps=some (cs',p)->(∀q∈p,q)->
  ∃arr',Instr.fill place arr (parts.map fun (i,x)=>(i,ac.eval x))=some arr'/\YI Λ arr' cs'
 |[],ps,arr,cs,cs',p,hps,hr,hf,_=>by
  simp [partsOf] at hps;subst hps;simp [z0C] at hf;obtain ⟨rfl,rfl⟩:=hf;exact ⟨arr,rfl,hr⟩
 |(i,x)::parts,ps,arr,cs,cs',p,hps,hr,hf,hp=>by
  simp only [partsOf] at hps;split at hps
  ·rename_i off n a l h1 h2 h3;simp at hps;subst hps;simp only [z0C] at hf;generalize hrd:rd gc st a=va at hf;obtain ⟨v,p1⟩:=va;simp only at hf;split at hf
   ·simp at hf
   ·rename_i us hus;split at hf
    ·rename_i hle;split at hf
     ·rename_i c q hrest;simp at hf;obtain ⟨rfl,rfl⟩:=hf;have hv:=zm h h2 hrd (fun q hq=>hp q (by simp [hq])) hg;have hc:=hv.parts hus;have hfold:=YI.foldl off (ac.eval x).cells.toList us 0 arr cs (by simpa using hc.1) (fun j a b e1 e2=>hc.2 j a b (by simpa using e1) e2) hr;obtain ⟨arr',h4,h5⟩:=z04 h hg place parts l _ _ _ _ h3 hfold hrest (fun q hq=>hp q (by simp [hq]));refine ⟨arr',?_,h5⟩
      have hsz:(ac.eval x).cells.size=n:=by rw [hc.1];exact hle.1
      have hsz2:arr.size=cs.length:=hr.1;simp only [w0o,Instr.fill,h1,hsz]
      have:¬ (off+n>arr.size):=by omega
      simp only [ne_eq,not_true_eq_false,decide_false,this,Bool.or_self,w0k,w0r];rw [←h4];congr 1;rw [←Array.foldl_toList,Array.toList_zipIdx]
     ·simp at hf
    ·simp at hf
  ·simp at hps
theorem yF {t:TypeId} {zs:List V} (h:y8 P t=some zs):∃i z,P.info? t=some i/\i.zero=some z/\zs.length=i.size/\Wh z.cells.toList zs=true:=by
 unfold y8 at h;split at h
 ·rename_i i zs' hi _;split at h
  ·rename_i z hz;split at h
   ·rename_i hc;simp at h;subst h;simp at hc;exact ⟨i,z,hi,hz,hc.2,hc.1⟩
   ·simp at h
  ·simp at h
 ·simp at h
theorem yD {Λ:L} {z:Value} {zs:List V} (h:Wh z.cells.toList zs=true):YI Λ z.cells zs:=by
 obtain ⟨h1,h2⟩:=z2J (Λ:=Λ) h
 exact ⟨by simpa using h1,fun j v c hv hc=>h2 j v c (by simpa using hv) hc⟩
theorem z9C {t:TypeId} {parts:Array (Nat×Operand)} {zs cs:List V} {ps:List (Nat×Nat×Ar)} {p:List Bool} (ho:o.op= .build t parts) (hz:y8 P t=some zs)
  (hps:(∃fs pl,P.underlying t=some (.struct fs)/\placesOf P fs=some pl/\partsOf (pl.toArray[·]?) parts.toList=some ps)∨
   (∃m e sz,P.underlying t=some (.array m e)/\ZO P e=some sz/\partsOf (fun i=>some (i*sz,sz)) parts.toList=some ps))
  (hf:z0C st gc zs ps=some (cs,p)) (hp:∀q∈p,q):zL P o gc st (.agg cs):=by
 intro C Λ ac _ hg h;obtain ⟨i,z,hi,hz1,hlen,hok⟩:=yF hz;have hrc:=yD (Λ:=Λ) hok
 have fin:∀arr',P.built t (parts.map fun (i,x)=>(i,ac.eval x)).toList=some arr'->YI Λ arr' cs->∃v,(execOp ac.eval o).run P Λ.w= .ok (.value v) Λ.w/\zy Λ v (.agg cs):=by
  intro arr' h1 h2;refine ⟨.agg arr',?_,.agg h2.1 fun j v c e1 e2=>h2.2 j v c e1 e2⟩;simp only [execOp,ho,Sem.run_bind,run_build Λ.w t _ arr' h1];rfl
 rcases hps with ⟨fs,pl,hu,hpl,hpo⟩|⟨m,e,sz,hu,hs,hpo⟩
 ·obtain ⟨arr',h1,h2⟩:=z04 h hg _ _ _ _ _ _ _ hpo hrc hf hp;refine fin arr' ?_ h2;unfold placesOf at hpl;simp only [Program.built,hi,hu,hz1,hpl,Array.toList_map];exact h1
 ·obtain ⟨arr',h1,h2⟩:=z04 h hg _ _ _ _ _ _ _ hpo hrc hf hp;refine fin arr' ?_ h2;unfold ZO at hs
  cases hie:P.info? e with
  |none=>rw [hie] at hs;simp at hs
  |some ie=>
   rw [hie] at hs;simp at hs;subst hs;simp only [Program.built,hi,hu,hz1,hie,Array.toList_map];exact h1
theorem zff {f:FuncId} {first caps:Array Operand} {caps':List Ar} {cs:List (Nat×Nat)} (ho:o.op= .makeFunc (.func f) first caps) (hfirst:first.isEmpty=true) (hc:caps.toList.mapM opA=some caps')
  (hcs:qh st caps'=some cs):zL P o gc st (.fn f cs):=by
 intro C Λ ac _ hg h
 have key:∀(xs:List Operand) (ys:List Ar) (cs:List (Nat×Nat)),xs.mapM opA=some ys->qh st ys=some cs->
   (xs.map ac.eval).length=cs.length/\∀(j:Nat) (v:Value) (c:Nat×Nat),(xs.map ac.eval)[j]?=some v->cs[j]?=some c->∃b,v= .pointer (some ⟨b,c.2,none⟩)/\Λ.lab b= .obj c.1/\c.1<Λ.nxt:=by
  intro xs
  induction xs with
  |nil=>intro ys cs h1 h2;simp at h1;subst h1;simp [qh] at h2;subst h2;simp
  |cons x xs ih=>
   intro ys cs h1 h2;simp only [List.mapM_cons,w03,Option.pure_def,w01] at h1;obtain ⟨y,hy,ys',hys,h1⟩:=h1;simp at h1;subst h1;simp only [qh] at h2;split at h2
   ·rename_i k off cs' hv hcs';simp at h2;subst h2;obtain ⟨i1,i2⟩:=ih ys' cs' hys hcs'
    refine ⟨by simpa using i1,fun j v c hj hc=>?_⟩
    cases j with
    |zero=>
     simp at hj hc;subst hj;subst hc;have hr:=h.opd hy;rw [hv] at hr;generalize ac.eval x=u at hr
     cases hr with
     |@ptr b _ _ hk hb=>exact ⟨b,rfl,hb,hk⟩
    |succ j=>exact i2 j v c (by simpa using hj) (by simpa using hc)
   ·simp at h2
 obtain ⟨k1,k2⟩:=key _ _ _ hc hcs
 have he:first=#[]:=by simpa using hfirst
 subst he
 refine ⟨.func (.func f) #[] (caps.map ac.eval),by simp [execOp,ho,Instr.makeFunc],.fn (by simpa using k1) fun j v c hj hc=>k2 j v c (by simpa using hj) hc⟩
theorem ZH {t:TypeId} (x y:Value) (w:World) (b:Bool)
  (h:∀n,(Op.equalIn (n+1) t x y).run P w= .ok b w):(Op.equal t x y).run P w= .ok b w:=h 9999
theorem zdh {neg:Bool} {t ty:TypeId} {x:Operand} {x':Ar} {k i off:Nat} {e:TypeId} {p:List Bool} (hu:P.underlying t=some (.pointer e))
  (ho:o.op= .binOp (if neg then .neq else .eql) t x (.const (.pointer none)) ty) (hx:opA x=some x') (h1:rd gc st x'=(.fpt k i off,p)) (hp:∀q∈p,q):zL P o gc st (.t (.bool neg)):=by
 intro C Λ ac _ hg h;have hx1:=zm h hx h1 hp hg;generalize hv':ac.eval x=u at hx1;have hc:∀v,ac.eval (.const v)=v:=fun _=>rfl;refine ⟨.bool neg,?_,.t (.bool _)⟩
 cases hx1 with
 |@fpt bl _ _ _ hk' h'=>
  have hq:(Op.equal t (.pointer (some ⟨bl,off,none⟩)) (.pointer none)).run P Λ.w= .ok false Λ.w:=ZH _ _ Λ.w false (fun n=>by simp [Op.equalIn,run_underlying hu])
  cases neg<;>simp [execOp,ho,hv',hc,eqGuard,binOp,hq]
theorem zdk {neg:Bool} {t ty:TypeId} {x:Operand} {x':Ar} {k ver off w:Nat} {cs:List V} {e:TypeId} {p:List Bool} (hu:P.underlying t=some (.pointer e))
  (ho:o.op= .binOp (if neg then .neq else .eql) t x (.const (.pointer none)) ty) (hx:opA x=some x') (h1:rd gc st x'=(.gpt k ver off,p)) (hp:∀q∈p,q) (hk:zl st.s.sto k=some (.gro w cs)) (hw:ver=w):zL P o gc st (.t (.bool neg)):=by
 intro C Λ ac _ hg h;have hx1:=zm h hx h1 hp hg;generalize hv':ac.eval x=u at hx1;have hc:∀v,ac.eval (.const v)=v:=fun _=>rfl;refine ⟨.bool neg,?_,.t (.bool _)⟩
 cases hx1 with
 |gpt _ hk' _ h'=>
  obtain ⟨bl,rfl,_⟩:=h' (hw.trans (h.s.sto k _ hk).2.1.symm)
  have hq:(Op.equal t (.pointer (some ⟨bl,off,none⟩)) (.pointer none)).run P Λ.w= .ok false Λ.w:=ZH _ _ Λ.w false (fun n=>by simp [Op.equalIn,run_underlying hu])
  cases neg<;>simp [execOp,ho,hv',hc,eqGuard,binOp,hq]
theorem z6y {neg:Bool} {t ty:TypeId} {x y:Operand} {x':Ar} {v:V} {b:Bool} {p:List Bool} (hu:(∃e,P.underlying t=some (.pointer e))/\y= .const (.pointer none)∨(∃k e,P.underlying t=some (.map k e))/\y= .const (.map none))
  (ho:o.op= .binOp (if neg then .neq else .eql) t x y ty) (hx:opA x=some x') (h1:rd gc st x'=(v,p)) (hp:∀q∈p,q)
  (hv:(y= .const (.pointer none)/\((v= .t .z11/\b=!neg)∨((∃k o,v= .ptr k o)/\b=neg)∨((∃c,v= .t (.ptr c))/\b=neg)))∨(y= .const (.map none)/\((v= .t .QB/\b=!neg)∨((∃k,v= .mp k)/\b=neg)))):
  zL P o gc st (.t (.bool b)):=by
 intro C Λ ac _ hg h;have hx1:=zm h hx h1 hp hg;generalize hv':ac.eval x=u at hx1;have hc:∀v,ac.eval (.const v)=v:=fun _=>rfl;refine ⟨.bool b,?_,.t (.bool _)⟩
 rcases hv with ⟨hy,hv⟩|⟨hy,hv⟩
 ·rcases hu with ⟨⟨e,hu⟩,_⟩|⟨_,hy'⟩
  ·subst hy
   rcases hv with ⟨rfl,hb⟩|⟨⟨k,off,rfl⟩,hb⟩|⟨⟨c,rfl⟩,hb⟩
   ·cases hx1 with
    |t h'=>
     cases h'
     have hq:(Op.equal t (.pointer none) (.pointer none)).run P Λ.w= .ok true Λ.w:=ZH _ _ Λ.w true (fun n=>by simp [Op.equalIn,run_underlying hu])
     cases neg<;>simp [execOp,ho,hv',hc,eqGuard,binOp,hq,hb]
   ·cases hx1 with
    |@ptr bl _ _ hk' h'=>
     have hq:(Op.equal t (.pointer (some ⟨bl,off,none⟩)) (.pointer none)).run P Λ.w= .ok false Λ.w:=ZH _ _ Λ.w false (fun n=>by simp [Op.equalIn,run_underlying hu])
     cases neg<;>simp [execOp,ho,hv',hc,eqGuard,binOp,hq,hb]
   ·cases hx1 with
    |t h'=>
     cases h' with
     |ptr _ bl off vf a1 a2 a3=>
     have hq:(Op.equal t (.pointer (some ⟨bl,off,none⟩)) (.pointer none)).run P Λ.w= .ok false Λ.w:=ZH _ _ Λ.w false (fun n=>by simp [Op.equalIn,run_underlying hu])
     cases neg<;>simp [execOp,ho,hv',hc,eqGuard,binOp,hq,hb]
  ·rw [hy] at hy';simp at hy'
 ·rcases hu with ⟨_,hy'⟩|⟨⟨k,e,hu⟩,_⟩
  ·rw [hy] at hy';simp at hy'
  ·subst hy
   rcases hv with ⟨rfl,hb⟩|⟨⟨k,rfl⟩,hb⟩
   ·cases hx1 with
    |t h'=>
     cases h'
     have hq:(Op.equal t (.map none) (.map none)).run P Λ.w= .ok true Λ.w:=ZH _ _ Λ.w true (fun n=>by simp [Op.equalIn,run_underlying hu])
     cases neg<;>simp [execOp,ho,hv',hc,eqGuard,binOp,hq,hb]
   ·cases hx1 with
    |@mp bl _ hk' h'=>
     have hq:(Op.equal t (.map (some bl)) (.map none)).run P Λ.w= .ok false Λ.w:=ZH _ _ Λ.w false (fun n=>by simp [Op.equalIn,run_underlying hu])
     cases neg<;>simp [execOp,ho,hv',hc,eqGuard,binOp,hq,hb]
theorem ze1 {c x y:Operand} {c' x':Ar} {cb xa:Bool} {p1 p2:List Bool} (ho:o.op= .pick c x y) (hc:opA c=some c') (hx:opA x=some x')
  (h1:rd gc st c'=(.t (.bool cb),p1)) (h2:rd (gc&&cb) st x'=(.t (.bool xa),p2)) (hp:∀q∈p1++(p2++[cb]),q):zL P o gc st (.t (.bool xa)):=by
 intro C Λ a _ hg h;have hc1:=zm h hc h1 (fun q hq=>hp q (by simp [hq])) hg;have ec:=hc1.ZW.Yh;have hcb:cb=true:=hp cb (by simp);subst hcb;have hx1:=zm h hx h2 (fun q hq=>hp q (by simp [hq])) (by simp [hg])
 exact ⟨a.eval x,by simp [execOp,ho,ec,asBool],.t hx1.ZW⟩
theorem zdy {c x y:Operand} {c' y':Ar} {cb xb:Bool} {p1 p3:List Bool} (ho:o.op= .pick c x y) (hc:opA c=some c') (hy:opA y=some y')
  (h1:rd gc st c'=(.t (.bool cb),p1)) (h3:rd (gc&&!cb) st y'=(.t (.bool xb),p3)) (hp:∀q∈p1++(p3++[!cb]),q):zL P o gc st (.t (.bool xb)):=by
 intro C Λ a _ hg h;have hc1:=zm h hc h1 (fun q hq=>hp q (by simp [hq])) hg;have ec:=hc1.ZW.Yh;have hcb:(!cb)=true:=hp (!cb) (by simp)
 have hcb':cb=false:=by simpa using hcb
 subst hcb';have hy1:=zm h hy h3 (fun q hq=>hp q (by simp [hq])) (by simp [hg])
 exact ⟨a.eval y,by simp [execOp,ho,ec,asBool],.t hy1.ZW⟩
end
section
variable {P:Program} {ops:Array Oper} {o:Oper} {gc:Bool} {st:St}
theorem zga {x:Operand} {ix:Nat} {x':Ar} {vs:List V} {v:V} {p:List Bool} (ho:o.op= .extract x ix) (hx:opA x=some x') (h1:rd gc st x'=(.tup vs,p)) (hp:∀q∈p,q) (hv:vs[ix]?=some v):zL P o gc st v:=by
 intro C Λ ac _ hg h;have hx1:=zm h hx h1 hp hg;generalize hv':ac.eval x=u at hx1
 cases hx1 with
 |@tup us _ hs h'=>
  have hlt:=(w02.1 hv).1
  have hg':us[ix]?=some (us[ix]'(by omega)):=by simp
  refine ⟨_,?_,h' _ _ v hg' hv⟩;simp only [execOp,ho,hv'];simp [Instr.extract,hg']
theorem z6q {aop:AOp} {v:V} {ps:List Bool} (hres:y4 P ops o=some aop) (he:zk gc st aop=some (v,ps)) (hp:∀q∈ps,q):zL P o gc st v:=by
 unfold y4 at hres;split at hres
 ·rename_i t hop;simp at hres;subst hres;simp only [zk,w00] at he;exact zez (x:= .s t) (p:=ps) (.inl hop) Z he hp
 ·rename_i t hop;simp at hres;subst hres;simp only [zk,w00] at he;exact zez (x:= .s t) (p:=ps) (.inr hop) Z he hp
 ·rename_i c hop;simp only [w05] at hres;obtain ⟨x,hx,rfl⟩:=hres;simp [zk] at he;obtain ⟨rfl,rfl⟩:=he;exact zeL (.inl hop) (fun _=> .z51 hx)
 ·rename_i c hop;simp only [w05] at hres;obtain ⟨x,hx,rfl⟩:=hres;simp [zk] at he;obtain ⟨rfl,rfl⟩:=he;exact zeL (.inr hop) (fun _=> .z51 hx)
 ·rename_i f hop;simp at hres;subst hres;simp [zk] at he;obtain ⟨rfl,rfl⟩:=he;exact zez (v:= .t (.fn f)) (x:= .c (.t (.fn f))) (p:=[]) (.inl hop) Z Z (by simp)
 ·rename_i f hop;simp at hres;subst hres;simp [zk] at he;obtain ⟨rfl,rfl⟩:=he;exact zez (v:= .t (.fn f)) (x:= .c (.t (.fn f))) (p:=[]) (.inr hop) Z Z (by simp)
 ·
  rename_i c a b hop;simp only [w03,w01,w00] at hres;obtain ⟨c',hc,a',ha,b',hb,rfl⟩:=hres;simp only [zk] at he;split at he
  ·rename_i cb p1 hc1;split at he
   ·rename_i h2 h3;simp only [w00,w04] at he;obtain ⟨rfl,rfl⟩:=he;exact zf2 hop hc ha hb hc1 h2 h3 hp
   ·rename_i h2 h3;simp only [w00,w04] at he;obtain ⟨rfl,rfl⟩:=he;exact ze1 hop hc ha hc1 h2 hp
   ·rename_i h2 h3;simp only [w00,w04] at he;obtain ⟨rfl,rfl⟩:=he;exact zdy hop hc hb hc1 h3 hp
   ·simp at he
  ·simp at he
 ·
  rename_i op ty x hop;simp only [w03,w01,w00] at hres;obtain ⟨x',hx,rfl⟩:=hres
  cases op with
  |not=>
   simp only [zk] at he;split at he
   ·rename_i h1;simp only [w00,w04] at he;obtain ⟨rfl,rfl⟩:=he;exact zgK hop hx h1 hp
   ·simp at he
  |neg=>
   simp only [zk] at he;split at he
   ·rename_i h1;simp only [w00,w04] at he;obtain ⟨rfl,rfl⟩:=he;exact zgn hop hx h1 hp
   ·simp at he
  |_=>simp [zk] at he
 ·
  rename_i op xt x y ty hop
  have hbin:∀aop,((opA x).bind fun a=>(opA y).bind fun b=>some (AOp.bin op a b))=some aop->zk gc st aop=some (v,ps)->zL P o gc st v:=by
   intro aop h1 h2;simp only [w01,w00] at h1;obtain ⟨x',hx,y',hy,rfl⟩:=h1;simp only [zk] at h2;split at h2
   ·rename_i a p1 b p2 e1 e2;simp only [w05] at h2;obtain ⟨⟨r,p3⟩,hb,h2⟩:=h2;simp at h2;obtain ⟨rfl,rfl⟩:=h2;exact zg4 hop hx hy e1 e2 hb hp
   ·simp at h2
  split at hres
  ·exact hbin _ hres he
  ·exact hbin _ hres he
  ·rename_i hu;split at hres
   ·simp only [w03,w01,w00] at hres;obtain ⟨x',hx,y',hy,rfl⟩:=hres;simp only [zk] at he;split at he
    ·rename_i e1 e2;simp only [w00,w04] at he;obtain ⟨rfl,rfl⟩:=he;exact zeN (neg:=false) hu hop hx hy e1 e2 hp
    ·simp at he
   ·simp only [w03,w01,w00] at hres;obtain ⟨x',hx,y',hy,rfl⟩:=hres;simp only [zk] at he;split at he
    ·rename_i e1 e2;simp only [w00,w04] at he;obtain ⟨rfl,rfl⟩:=he;have:=zeN (neg:=true) hu hop hx hy e1 e2 hp;simpa using this
    ·simp at he
   ·simp at hres
  ·rename_i e hu
   have key:∀neg,o.op= .binOp (if neg then .neq else .eql) xt x (.const (.pointer none)) ty->∀x',opA x=some x'->zk gc st (.eqp neg x')=some (v,ps)->zL P o gc st v:=by
    intro neg hop x' hx he;simp only [zk] at he;split at he
    ·simp only [w00,w04] at he;obtain ⟨rfl,rfl⟩:=he;exact z6y (neg:=neg) (.inl ⟨⟨_,hu⟩,rfl⟩) hop hx (by assumption) hp (.inl ⟨rfl,.inl ⟨rfl,rfl⟩⟩)
    ·simp only [w00,w04] at he;obtain ⟨rfl,rfl⟩:=he;exact z6y (neg:=neg) (.inl ⟨⟨_,hu⟩,rfl⟩) hop hx (by assumption) hp (.inl ⟨rfl,.inr (.inl ⟨⟨_,_,rfl⟩,rfl⟩)⟩)
    ·simp only [w00,w04] at he;obtain ⟨rfl,rfl⟩:=he;exact z6y (neg:=neg) (.inl ⟨⟨_,hu⟩,rfl⟩) hop hx (by assumption) hp (.inl ⟨rfl,.inr (.inr ⟨⟨_,rfl⟩,rfl⟩)⟩)
    ·simp only [w00,w04] at he;obtain ⟨rfl,rfl⟩:=he;exact zdh (neg:=neg) hu hop hx (by assumption) hp
    ·rename_i h1;split at he
     ·rename_i hk;simp only [w00,w04] at he;obtain ⟨rfl,rfl⟩:=he;exact zdk (neg:=neg) hu hop hx h1 (fun q hq=>hp q (by simp [hq])) hk (zDT (hp _ (by simp)))
     ·simp at he
    ·simp at he
   split at hres
   ·simp only [w03,w01,w00] at hres;obtain ⟨x',hx,rfl⟩:=hres;exact key false hop x' hx he
   ·simp only [w03,w01,w00] at hres;obtain ⟨x',hx,rfl⟩:=hres;exact key true hop x' hx he
   ·simp at hres
  ·rename_i k e hu
   have key:∀neg,o.op= .binOp (if neg then .neq else .eql) xt x (.const (.map none)) ty->∀x',opA x=some x'->zk gc st (.eqm neg x')=some (v,ps)->zL P o gc st v:=by
    intro neg hop x' hx he;simp only [zk] at he;split at he
    ·simp only [w00,w04] at he;obtain ⟨rfl,rfl⟩:=he;exact z6y (neg:=neg) (.inr ⟨⟨_,_,hu⟩,rfl⟩) hop hx (by assumption) hp (.inr ⟨rfl,.inl ⟨rfl,rfl⟩⟩)
    ·simp only [w00,w04] at he;obtain ⟨rfl,rfl⟩:=he;exact z6y (neg:=neg) (.inr ⟨⟨_,_,hu⟩,rfl⟩) hop hx (by assumption) hp (.inr ⟨rfl,.inr ⟨⟨_,rfl⟩,rfl⟩⟩)
    ·simp at he
   split at hres
   ·simp only [w03,w01,w00] at hres;obtain ⟨x',hx,rfl⟩:=hres;exact key false hop x' hx he
   ·simp only [w03,w01,w00] at hres;obtain ⟨x',hx,rfl⟩:=hres;exact key true hop x' hx he
   ·simp at hres
  ·simp at hres
 ·
  rename_i src dst x hop;split at hres
  ·rename_i k1 k hs hd;simp only [w03,w01,w00] at hres;obtain ⟨x',hx,rfl⟩:=hres;simp only [zk] at he;split at he
   ·rename_i h1;simp only [w00,w04] at he;obtain ⟨rfl,rfl⟩:=he;exact zfA hs hd hop hx h1 hp
   ·simp at he
  ·rename_i hs hd;simp only [w03,w01,w00] at hres;obtain ⟨x',hx,rfl⟩:=hres;simp only [zk] at he;split at he
   ·rename_i h1;simp only [w00,w04] at he;obtain ⟨rfl,rfl⟩:=he;exact ze6 hs hd hop hx h1 hp ⟨_,rfl⟩
   ·simp at he
  ·simp at hres
 ·
  rename_i x hop;simp only [w03,w01,w00] at hres;obtain ⟨x',hx,rfl⟩:=hres;simp only [zk] at he;split at he
  ·rename_i h1;simp only [w00,w04] at he;obtain ⟨rfl,rfl⟩:=he;exact z2b hop hx h1 hp (.inl ⟨_,_,rfl⟩)
  ·rename_i h1;simp only [w00,w04] at he;obtain ⟨rfl,rfl⟩:=he;exact z2b hop hx h1 hp (.inr (.inl ⟨_,rfl⟩))
  ·rename_i h1;simp only [w00,w04] at he;obtain ⟨rfl,rfl⟩:=he;exact z2b hop hx h1 hp (.inr (.inr (.inl ⟨_,rfl⟩)))
  ·rename_i h1;simp only [w00,w04] at he;obtain ⟨rfl,rfl⟩:=he;exact z2b hop hx h1 hp (.inr (.inr (.inr ⟨_,_,rfl⟩)))
  ·rename_i h1;simp only [w00,w04] at he;obtain ⟨rfl,rfl⟩:=he;exact z9J hop hx h1 hp
  ·rename_i h1;split at he
   ·rename_i hk;simp only [w00,w04] at he;obtain ⟨rfl,rfl⟩:=he;exact zaA hop hx h1 (fun q hq=>hp q (by simp [hq])) hk (zDT (hp _ (by simp)))
   ·simp at he
  ·simp at he
 ·
  rename_i s x f hop;split at hres
  ·rename_i fs hu;simp only [w03,w01] at hres;obtain ⟨fd,hf,n,hn,hres⟩:=hres;split at hres
   ·simp at hres
   ·rename_i h0;simp only [w01,w00] at hres;obtain ⟨x',hx,rfl⟩:=hres;simp only [zk] at he;split at he
    ·rename_i h1;simp only [w00,w04] at he;obtain ⟨rfl,rfl⟩:=he;exact zg6 hu hf hn h0 hop hx h1 hp (.inl ⟨_,_,rfl,rfl⟩)
    ·rename_i h1;simp only [w00,w04] at he;obtain ⟨rfl,rfl⟩:=he;exact zg6 hu hf hn h0 hop hx h1 hp (.inr ⟨_,rfl,rfl⟩)
    ·rename_i h1;simp only [w00,w04] at he;obtain ⟨rfl,rfl⟩:=he;exact zeT hu hf hn h0 hop hx h1 hp
    ·rename_i h1;split at he
     ·rename_i hk;simp only [w00,w04] at he;obtain ⟨rfl,rfl⟩:=he;exact zeZ hu hf hn h0 hop hx h1 (fun q hq=>hp q (by simp [hq])) hk (zDT (hp _ (by simp)))
     ·simp at he
    ·simp at he
  ·simp at hres
 ·
  rename_i t x hop;simp only [w03,w01] at hres;obtain ⟨n,hn,hres⟩:=hres;split at hres
  ·simp at hres
  ·rename_i d hu;split at hres
   ·rename_i hag;simp only [w01,w00] at hres;obtain ⟨x',hx,rfl⟩:=hres;simp only [zk,w0v] at he;split at he
    ·rename_i h1;split at he
     ·rename_i hle;simp only [w00,w04] at he;obtain ⟨rfl,rfl⟩:=he;exact zcq hn hag hop hx h1 hp hle
     ·simp at he
    ·rename_i h1;split at he
     ·rename_i hk;split at he
      ·rename_i hle;simp only [w00,w04] at he;obtain ⟨rfl,rfl⟩:=he;exact za5 hn hag hop hx h1 hp hk hle
      ·simp at he
     ·simp at he
    ·rename_i h1;split at he
     ·rename_i hk;split at he
      ·rename_i hle;simp only [w00,w04] at he;obtain ⟨rfl,rfl⟩:=he;exact zdZ hn hag hop hx h1 (fun q hq=>hp q (by simp [hq])) hk (zDT (hp _ (by simp))) hle
      ·simp at he
     ·simp at he
    ·rename_i h1;split at he
     ·rename_i hk;split at he
      ·rename_i hi;split at he
       ·rename_i hle;simp only [w00,w04] at he;obtain ⟨rfl,rfl⟩:=he;exact ze2 hn hag hop hx h1 hp hk hi hle
       ·simp at he
      ·simp at he
     ·simp at he
    ·simp at he
   ·rename_i hag
    have hag':Zd P t=false:=by simpa using hag
    simp only [w01,w00] at hres;obtain ⟨x',hx,rfl⟩:=hres;simp only [zk,w0k,w0r] at he;split at he
    ·rename_i h1;split at he
     ·rename_i hc;simp only [w00,w04] at he;obtain ⟨rfl,rfl⟩:=he;exact zeg hu hag' hop hx h1 hp hc
     ·simp at he
    ·rename_i h1;split at he
     ·rename_i hk;split at he
      ·rename_i hc;simp only [w00,w04] at he;obtain ⟨rfl,rfl⟩:=he;exact zc6 hu hag' hop hx h1 hp hk hc
      ·simp at he
     ·simp at he
    ·rename_i h1;split at he
     ·rename_i hk;split at he
      ·rename_i hc;simp only [w00,w04] at he;obtain ⟨rfl,rfl⟩:=he;exact zfn hu hag' hop hx h1 (fun q hq=>hp q (by simp [hq])) hk (zDT (hp _ (by simp))) hc
      ·simp at he
     ·simp at he
    ·rename_i h1;split at he
     ·rename_i hk;split at he
      ·rename_i hi;split at he
       ·rename_i hc;simp only [w00,w04] at he;obtain ⟨rfl,rfl⟩:=he;exact zg3 hu hag' hop hx h1 hp hk hi hc
       ·simp at he
      ·simp at he
     ·simp at he
    ·simp at he
 ·
  simp only [w03,w01,w00] at hres;obtain ⟨_,_,_,_,_,_,rfl⟩:=hres;simp [zk] at he
 ·
  rename_i t x ix hop;split at hres
  ·rename_i e hu;simp only [w03,w01,w00] at hres;obtain ⟨sz,hs,x',hx,i',hi,rfl⟩:=hres;simp only [zk] at he;split at he
   ·rename_i w p1 k n p2 h1 h2;split at he
    ·split at he
     ·rename_i hsz;subst hsz;simp only [w00,w04] at he;obtain ⟨rfl,rfl⟩:=he;exact zc2 hu hs hop hx hi h1 h2 hp
     ·simp at he
    ·split at he
     ·rename_i hk;split at he
      ·rename_i hsz;subst hsz;simp only [w00,w04] at he;obtain ⟨rfl,rfl⟩:=he;exact zfp hu hs hop hx hi h1 h2 hk hp
      ·simp at he
     ·simp at he
    ·split at he
     ·rename_i hv;split at he
      ·rename_i hc;split at he
       ·rename_i hsz;simp only [w00,w04] at he;obtain ⟨rfl,rfl⟩:=he;exact zh1 hu hs hop hx hi h1 h2 hv hc hsz hp
       ·simp at he
      ·simp at he
     ·simp at he
   ·simp at he
  ·rename_i m e hu;simp only [w03,w01,w00] at hres;obtain ⟨sz,hs,x',hx,i',hi,rfl⟩:=hres;simp only [zk] at he;split at he
   ·rename_i h1 h2;simp only [w00,w04] at he;obtain ⟨rfl,rfl⟩:=he;exact zct hu hs hop hx hi h1 h2 hp (.inl ⟨_,_,rfl,rfl⟩)
   ·rename_i h1 h2;simp only [w00,w04] at he;obtain ⟨rfl,rfl⟩:=he;exact zct hu hs hop hx hi h1 h2 hp (.inr ⟨_,rfl,rfl⟩)
   ·simp at he
  ·simp at hres
 ·
  rename_i t x ix hop;split at hres
  ·rename_i hu;simp only [w03,w01,w00] at hres;obtain ⟨x',hx,i',hi,rfl⟩:=hres;simp only [zk] at he;split at he
   ·rename_i h1 h2;split at he
    ·rename_i hb;simp only [w00,w04] at he;obtain ⟨rfl,rfl⟩:=he;exact zgg hu hop hx hi h1 h2 hb hp
    ·simp at he
   ·simp at he
  ·rename_i m e hu;split at hres
   ·simp at hres
   ·rename_i d hd;simp only [w03,w01,w00] at hres;obtain ⟨sz,hs,x',hx,i',hi,rfl⟩:=hres;simp only [zk] at he;split at he
    ·rename_i h1 h2;split at he
     ·rename_i hag;split at he
      ·rename_i hle;simp only [w00,w04] at he;obtain ⟨rfl,rfl⟩:=he;exact zf9 hu hs hag hop hx hi h1 h2 hle hp
      ·simp at he
     ·rename_i hag;split at he
      ·rename_i hc;simp only [w00,w04] at he;obtain ⟨rfl,rfl⟩:=he;exact zgT hu hs hd (by simpa using hag) hop hx hi h1 h2 hc hp
      ·simp at he
    ·simp at he
  ·simp at hres
 ·
  rename_i t x lo hi hop;split at hres
  ·rename_i hu;simp only [w03,w01,w00] at hres;obtain ⟨l',hl,h',hh,x',hx,rfl⟩:=hres;simp only [zk] at he;split at he
   ·rename_i h1;split at he
    ·rename_i h2 h3;simp only [w00,w04] at he;obtain ⟨rfl,rfl⟩:=he;exact zgS hu hop hx hl hh h1 h2 h3 hp
    ·simp at he
   ·simp at he
  ·rename_i e hu;simp only [w03,w01,w00] at hres;obtain ⟨l',hl,h',hh,sz,hs,x',hx,rfl⟩:=hres;simp only [zk] at he;generalize hr:rd gc st x'=r at he;obtain ⟨v',p'⟩:=r;simp only at he;split at he
   ·rename_i h1;split at he
    ·rename_i h2 h3;simp only [w00,w04] at he;obtain ⟨rfl,rfl⟩:=he;exact zgR hu hs hop hx hl hh hr h1 h2 h3 hp
    ·simp at he
   ·split at he
    ·split at he
     ·rename_i h2 h3;simp only [w00,w04] at he;obtain ⟨rfl,rfl⟩:=he;exact zgy hu hs hop hx hl hh hr h2 h3 hp
     ·simp at he
    ·split at he
     ·rename_i hk h2 h3;simp only [w00,w04] at he;obtain ⟨rfl,rfl⟩:=he;exact zg8 hu hs hop hx hl hh hr h2 h3 hp hk
     ·simp at he
    ·simp at he
  ·simp at hres
 ·
  rename_i t x f hop;split at hres
  ·rename_i fs hu;simp only [w03,w01] at hres;obtain ⟨fd,hf,n,hn,hres⟩:=hres;split at hres
   ·simp at hres
   ·rename_i d hd;simp only [w01,w00] at hres;obtain ⟨x',hx,rfl⟩:=hres;simp only [zk] at he;split at he
    ·rename_i h1;split at he
     ·rename_i hag;split at he
      ·rename_i hle;simp only [w00,w04] at he;obtain ⟨rfl,rfl⟩:=he;exact zfW hu hf hn hag hop hx h1 hp hle
      ·simp at he
     ·rename_i hag;split at he
      ·rename_i hc;simp only [w00,w04] at he;obtain ⟨rfl,rfl⟩:=he;exact zgG hu hf hd (by simpa using hag) hop hx h1 hp hc
      ·simp at he
    ·simp at he
  ·simp at hres
 ·
  rename_i t parts hop;split at hres
  ·rename_i fs hu;simp only [w03,w01,w00] at hres;obtain ⟨pl,hpl,zs,hz,ps',hps,rfl⟩:=hres;simp only [zk] at he;split at he
   ·rename_i hf;simp only [w00,w04] at he;obtain ⟨rfl,rfl⟩:=he;exact z9C hop hz (.inl ⟨fs,pl,hu,hpl,hps⟩) hf hp
   ·simp at he
  ·rename_i m e hu;simp only [w03,w01,w00] at hres;obtain ⟨sz,hs,zs,hz,ps',hps,rfl⟩:=hres;simp only [zk] at he;split at he
   ·rename_i hf;simp only [w00,w04] at he;obtain ⟨rfl,rfl⟩:=he;exact z9C hop hz (.inr ⟨m,e,sz,hu,hs,hps⟩) hf hp
   ·simp at he
  ·simp at hres
 ·
  rename_i f first caps hop;split at hres
  ·rename_i hfirst;simp only [w03,w01,w00] at hres;obtain ⟨caps',hc,rfl⟩:=hres;simp only [zk] at he;split at he
   ·rename_i hcs;simp only [w00,w04] at he;obtain ⟨rfl,rfl⟩:=he;exact zff hop hfirst hc hcs
   ·simp at he
  ·simp at hres
 ·simp only [w03,w01,w00] at hres;obtain ⟨_,_,rfl⟩:=hres;simp [zk] at he
 ·simp only [w03,w01,w00] at hres;obtain ⟨_,_,_,_,rfl⟩:=hres;simp [zk] at he
 ·split at hres
  ·simp only [w03,w01] at hres;obtain ⟨_,_,_,_,_,_,hres⟩:=hres;split at hres
   ·simp only [w01,w00] at hres;obtain ⟨_,_,rfl⟩:=hres;simp [zk] at he
   ·simp at hres
  ·simp at hres
 ·
  rename_i x ix hop;simp only [w03,w01,w00] at hres;obtain ⟨x',hx,rfl⟩:=hres;simp only [zk] at he;split at he
  ·rename_i h1;split at he
   ·rename_i hv;simp only [w00,w04] at he;obtain ⟨rfl,rfl⟩:=he;exact zga hop hx h1 hp hv
   ·simp at he
  ·simp at he
 ·split at hres
  ·simp at hres;subst hres;simp [zk] at he
  ·simp at hres
 ·split at hres
  ·simp only [w03,w01] at hres;obtain ⟨_,_,hres⟩:=hres;split at hres
   ·simp only [w01,w00] at hres;obtain ⟨_,_,rfl⟩:=hres;simp [zk] at he
   ·simp at hres
  ·simp at hres
 ·
  rename_i args ats hop;split at hres
  ·rename_i t x hat ha;split at hres
   ·rename_i hu;simp only [w03,w01,w00] at hres;obtain ⟨x',hx,rfl⟩:=hres;simp only [zk] at he;split at he
    ·rename_i h1;simp only [w00,w04] at he;obtain ⟨rfl,rfl⟩:=he;exact z4Q ha hat hu (.inl Z) hop hx h1 hp (.inl ⟨rfl,_,rfl,rfl⟩)
    ·simp at he
   ·rename_i hu;simp only [w03,w01,w00] at hres;obtain ⟨x',hx,rfl⟩:=hres;simp only [zk] at he;split at he
    ·rename_i h1;simp only [w00,w04] at he;obtain ⟨rfl,rfl⟩:=he;exact z4Q ha hat hu (.inr ⟨_,rfl⟩) hop hx h1 hp (.inr ⟨⟨_,rfl⟩,.inl ⟨_,rfl,rfl⟩⟩)
    ·rename_i h1;simp only [w00,w04] at he;obtain ⟨rfl,rfl⟩:=he;exact z4Q ha hat hu (.inr ⟨_,rfl⟩) hop hx h1 hp (.inr ⟨⟨_,rfl⟩,.inl ⟨_,rfl,rfl⟩⟩)
    ·rename_i h1;simp only [w00,w04] at he;obtain ⟨rfl,rfl⟩:=he;exact z4Q (n:=0) ha hat hu (.inr ⟨_,rfl⟩) hop hx h1 hp (.inr ⟨⟨_,rfl⟩,.inl ⟨[],rfl,rfl⟩⟩)
    ·rename_i h1;simp only [w00,w04] at he;obtain ⟨rfl,rfl⟩:=he;exact z4Q ha hat hu (.inr ⟨_,rfl⟩) hop hx h1 hp (.inr ⟨⟨_,rfl⟩,.inr ⟨_,_,_,rfl⟩⟩)
    ·rename_i h1;split at he
     ·rename_i hk;simp only [w00,w04] at he;obtain ⟨rfl,rfl⟩:=he;exact zdp ha hat hu hop hx h1 (fun q hq=>hp q (by simp [hq])) hk (zDT (hp _ (by simp)))
     ·simp at he
    ·rename_i h1;simp only [w00,w04] at he;obtain ⟨rfl,rfl⟩:=he;exact z4Q ha hat hu (.inr ⟨_,rfl⟩) hop hx h1 hp (.inr ⟨⟨_,rfl⟩,.inl ⟨_,rfl,rfl⟩⟩)
    ·simp at he
   ·simp only [w03,w01,w00] at hres;obtain ⟨_,_,rfl⟩:=hres;simp [zk] at he
   ·simp at hres
  ·simp at hres
 ·
  rename_i args _ hop;split at hres
  ·rename_i x y ha;simp only [w03,w01,w00] at hres;obtain ⟨x',hx,y',hy,rfl⟩:=hres;simp only [zk] at he;split at he
   ·rename_i h1 h2;split at he
    ·rename_i hk;subst hk;simp only [w00,w04] at he;obtain ⟨rfl,rfl⟩:=he;exact zeM (b:=true) ha hop hx hy h1 h2 hp
    ·simp at he
   ·simp at he
  ·simp at hres
 ·
  rename_i args _ hop;split at hres
  ·rename_i x y ha;simp only [w03,w01,w00] at hres;obtain ⟨x',hx,y',hy,rfl⟩:=hres;simp only [zk] at he;split at he
   ·rename_i h1 h2;split at he
    ·rename_i hk;subst hk;simp only [w00,w04] at he;obtain ⟨rfl,rfl⟩:=he;have:=zeM (P:=P) (b:=false) ha hop hx hy h1 h2 hp;simpa using this
    ·simp at he
   ·simp at he
  ·simp at hres
 ·split at hres
  ·split at hres
   ·split at hres
    ·simp only [w03,w01] at hres;obtain ⟨_,_,_,_,hres⟩:=hres;split at hres
     ·simp at hres
     ·simp only [w01,w00] at hres;obtain ⟨_,_,_,_,rfl⟩:=hres;simp [zk] at he
    ·simp at hres
   ·simp at hres
  ·simp at hres
 ·split at hres
  ·cases hres
  ·simp only [w03,w01,w00] at hres;obtain ⟨_,_,rfl⟩:=hres;simp [zk] at he
 ·simp only [w03,w01,w00] at hres;obtain ⟨_,_,rfl⟩:=hres;simp [zk] at he
 ·split at hres
  ·simp only [w03,w01,w00] at hres;obtain ⟨_,_,rfl⟩:=hres;simp [zk] at he
  ·simp at hres
 ·simp at hres
end
def Zo (l:Nat->Lab) (b:Nat) (x:Lab):Nat->Lab:=fun b'=>if b'=b then x else l b'
def ZR (f:Nat->Nat) (k n:Nat):Nat->Nat:=fun k'=>if k'=k then n else f k'
theorem zG {l:Nat->Lab} {b:Nat} {x:Lab}:Zo l b x b=x:=by simp [Zo]
theorem zN {l:Nat->Lab} {b b':Nat} {x:Lab} (h:b'≠b):Zo l b x b'=l b':=by simp [Zo,h]
theorem z2M {f:Nat->Nat} {k n:Nat}:ZR f k n k=n:=by simp [ZR]
theorem WO {f:Nat->Nat} {k k' n:Nat} (h:k'≠k):ZR f k n k'=f k':=by simp [ZR,h]
structure Yx (w w':World) (o:Obj):Prop where
 os:w'.os=w.os
 tape:w'.tape=w.tape
 output:w'.output=w.output
 heap:w'.heap=w.heap.push o
theorem Yx.size {w w':World} {o:Obj} (g:Yx w w' o):w'.heap.size=w.heap.size+1:=by rw [g.heap];simp
theorem Yx.old {w w':World} {o:Obj} (g:Yx w w' o) {b:Nat} (h:b<w.heap.size):w'.heap[b]?=w.heap[b]?:=by
 rw [g.heap,Array.getElem?_push];simp;omega
theorem Yx.top {w w':World} {o:Obj} (g:Yx w w' o):w'.heap[w.heap.size]?=some o:=by rw [g.heap];simp
theorem Yx.alloc (w:World) (o:Obj):Yx w (w.alloc o) o:=⟨rfl,rfl,rfl,rfl⟩
theorem Yx.Qk (w:World) (o:Obj):Yx w (w.drew.alloc o) o:=⟨rfl,rfl,rfl,rfl⟩
structure Ze (Λ Λ':L):Prop where
 fob:∀b k i,Λ'.lab b= .fob k i↔Λ.lab b= .fob k i
 far:∀b k i n,Λ'.lab b= .far k i n↔Λ.lab b= .far k i n
 frf:Λ'.frf=Λ.frf
 hob:∀b k i,Λ.lab b= .fob k i->Λ'.w.heap[b]?=Λ.w.heap[b]?
 har:∀b k i n,b<Λ.w.heap.size->Λ.lab b= .far k i n->Λ'.w.heap[b]?=Λ.w.heap[b]?
theorem Ze.refl (Λ:L):Ze Λ Λ:=⟨fun _ _ _=>Iff.rfl,fun _ _ _ _=>Iff.rfl,rfl,fun _ _ _ _=>rfl,fun _ _ _ _ _ _=>rfl⟩
theorem Ze.trans {A B C:L} (h:Ze A B) (k:Ze B C) (hs:A.w.heap.size<=B.w.heap.size):Ze A C:=
 ⟨fun b j i=>(k.fob b j i).trans (h.fob b j i),fun b j i n=>(k.far b j i n).trans (h.far b j i n),k.frf.trans h.frf,fun b j i e=>(k.hob b j i ((h.fob b j i).2 e)).trans (h.hob b j i e),
  fun b j i n hb e=>(k.har b j i n (w06 hb hs) ((h.far b j i n).2 e)).trans (h.har b j i n hb e)⟩
theorem Kp.old {Λ Λ':L} (F:Ze Λ Λ') (os:Λ'.w.os=Λ.w.os) (tape:Λ'.w.tape=Λ.w.tape) (output:Λ'.w.output=Λ.w.output) (size:Λ.w.heap.size<=Λ'.w.heap.size)
  (fix:∀b,b<Λ.w.heap.size->∀fr,Λ.lab b= .fix fr->Λ'.lab b= .fix fr/\Λ'.w.heap[b]?=Λ.w.heap[b]?)
  (arr:∀b,b<Λ.w.heap.size->∀k fr,Λ.lab b= .arr k fr->∀o,o<fr->Rd Λ'.lab b o/\Λ'.w.cell? ⟨b,o,none⟩=Λ.w.cell? ⟨b,o,none⟩)
  (nxt:Λ.nxt<=Λ'.nxt) (obj:∀b k,k<Λ.nxt->Λ.lab b= .obj k->Λ'.lab b= .obj k)
  (own:∀b k n,k<Λ.nxt->b<Λ.w.heap.size->Λ.lab b= .arr k n->Λ'.fro k=Λ.fro k->Λ'.lab b= .arr k n/\Λ'.w.heap[b]?=Λ.w.heap[b]?)
  (fro:∀k,k<Λ.nxt->Λ.fro k<=Λ'.fro k):Kp Λ Λ':=
 ⟨⟨os,tape,output,size,fix,arr,fun b hb k i fr hl o ho=>⟨by simp [Rd,(F.far b k i fr).2 hl,ho],cell?_heap (F.har b k i fr hb hl)⟩⟩,nxt,obj,own,fro,
  fun b k i _ hl=>⟨(F.fob b k i).2 hl,fun N hN=>by unfold ZG at hN⊢;rw [F.hob b k i hl];exact hN⟩,
  fun b k i n _ hb hl _=>⟨(F.far b k i n).2 hl,F.har b k i n hb hl⟩,fun k i _=>by rw [F.frf];exact w07 _,fun b k i _ _ _ hl=>(F.fob b k i).1 hl⟩
def Lab.old:Lab->Bool
 | .fob _ _=>false
 | .far _ _ _=>false
 |_=>true
theorem Ze.relabel {Λ Λ':L} {b:Nat} {X:Lab} (hl:Λ'.lab=GB.Zo Λ.lab b X) (hX:X.old=true) (hb:(Λ.lab b).old=true) (hf:Λ'.frf=Λ.frf)
  (hh:∀c,c<Λ.w.heap.size->c≠b->Λ'.w.heap[c]?=Λ.w.heap[c]?) (hn:∀c,Λ.w.heap.size<=c->Λ.lab c= .fix none):Ze Λ Λ':=by
 have lt:∀{c:Nat},Λ.lab c≠ .fix none->c<Λ.w.heap.size:=fun {c} h=>by
  rcases w1b c Λ.w.heap.size with h'|h'
  ·exact h'
  ·exact absurd (hn c h') h
 refine ⟨fun c k i=>?_,fun c k i n=>?_,hf,fun c k i e=>?_,fun c k i n _ e=>?_⟩
 ·rw [hl];by_cases e:c=b
  ·subst e;rw [zG]
   exact ⟨fun h=>by rw [h] at hX;simp [Lab.old] at hX,fun h=>by rw [h] at hb;simp [Lab.old] at hb⟩
  ·rw [zN e]
 ·rw [hl];by_cases e:c=b
  ·subst e;rw [zG]
   exact ⟨fun h=>by rw [h] at hX;simp [Lab.old] at hX,fun h=>by rw [h] at hb;simp [Lab.old] at hb⟩
  ·rw [zN e]
 ·exact hh c (lt (by rw [e];simp)) (fun e'=>by subst e';rw [e] at hb;simp [Lab.old] at hb)
 ·exact hh c (lt (by rw [e];simp)) (fun e'=>by subst e';rw [e] at hb;simp [Lab.old] at hb)
theorem Ze.same {Λ Λ':L} {b:Nat} (hl:Λ'.lab=Λ.lab) (hb:(Λ.lab b).old=true) (hf:Λ'.frf=Λ.frf) (hh:∀c,c≠b->Λ'.w.heap[c]?=Λ.w.heap[c]?):Ze Λ Λ':=by
 refine ⟨fun c k i=>by rw [hl],fun c k i n=>by rw [hl],hf,fun c k i e=>hh c ?_,fun c k i n _ e=>hh c ?_⟩<;>(rintro rfl;rw [e] at hb;simp [Lab.old] at hb)
theorem Ze.new {Λ:L} {w':World} {o:Obj} (g:Yx Λ.w w' o) (hb:∀b,Λ.w.heap.size<=b->Λ.lab b= .fix none) (X:Lab) (hX:X.old=true):
  Ze Λ {Λ with lab:=Zo Λ.lab Λ.w.heap.size X,w:=w'}:=
 Ze.relabel rfl hX (by rw [hb _ (w07 _)];rfl) rfl (fun c hc _=>g.old hc) hb
theorem Kp.new {Λ:L} {w':World} {o:Obj} (g:Yx Λ.w w' o) (hb:∀b,Λ.w.heap.size<=b->Λ.lab b= .fix none) (X:Lab) (hX:X.old=true:=by rfl):
  Kp Λ {Λ with lab:=Zo Λ.lab Λ.w.heap.size X,w:=w'}:=by
 have hne:∀{b:Nat},b<Λ.w.heap.size->Zo Λ.lab Λ.w.heap.size X b=Λ.lab b:=fun h=>zN (by omega);refine Kp.old (Ze.new g hb X hX) g.os g.tape g.output (by rw [g.size];omega) (fun b h fr hl=>⟨by simp only [hne h];exact hl,g.old h⟩) (fun b h k fr hl o ho=>⟨?_,cell?_heap (g.old h)⟩) (w07 _) (fun b k _ hl=>?_) (fun b k n _ h hl _=>⟨by simp only [hne h];exact hl,g.old h⟩) (fun k _=>w07 _)
 ·simp only [Rd,hne h,hl];exact ho
 ·have:b<Λ.w.heap.size:=by
   rcases w1b b Λ.w.heap.size with h|h
   ·exact h
   ·rw [hb b h] at hl;simp at hl
  simp only [hne this];exact hl
theorem Ze.ZR {Λ:L} {k n:Nat}:Ze Λ {Λ with fro:=GB.ZR Λ.fro k n}:=⟨fun _ _ _=>Iff.rfl,fun _ _ _ _=>Iff.rfl,rfl,fun _ _ _ _=>rfl,fun _ _ _ _ _ _=>rfl⟩
theorem Kp.ZR {Λ:L} {k n:Nat} (hn:Λ.fro k<=n):Kp Λ {Λ with fro:=ZR Λ.fro k n}:=by
 refine ⟨Fr.refl _ _,w07 _,fun _ _ _ h=>h,fun b j m _ _ hl _=>⟨hl,rfl⟩,fun j _=>?_,fun _ _ _ _ h=>⟨h,fun _ h=>h⟩,fun _ _ _ _ _ _ h _=>⟨h,rfl⟩,fun _ _ _=>w07 _,fun _ _ _ _ _ _ h=>h⟩;by_cases e:j=k
 ·subst e;simp [GB.ZR,hn]
 ·simp [GB.ZR,e]
theorem Ze.left {Λ:L} {b k fr n:Nat} (hb:Λ.lab b= .arr k fr):Ze Λ {Λ with lab:=Zo Λ.lab b (.fix (some fr)),fro:=GB.ZR Λ.fro k n}:=by
 refine ⟨fun c j i=>?_,fun c j i m=>?_,rfl,fun _ _ _ _=>rfl,fun _ _ _ _ _ _=>rfl⟩
 ·by_cases e:c=b
  ·subst e;simp [zG,hb]
  ·simp only [zN e]
 ·by_cases e:c=b
  ·subst e;simp [zG,hb]
  ·simp only [zN e]
theorem Kp.left {Λ:L} {b k fr n:Nat} (hb:Λ.lab b= .arr k fr) (hn:Λ.fro k<n):
  Kp Λ {Λ with lab:=Zo Λ.lab b (.fix (some fr)),fro:=GB.ZR Λ.fro k n}:=by
 refine Kp.old (Ze.left hb) Z Z Z (w07 _) (fun c _ f hl=>⟨?_,rfl⟩) (fun c _ j f hl o ho=>⟨?_,rfl⟩) (w07 _) (fun c j _ hl=>?_) (fun c j m _ _ hl hf=>?_) (fun j _=>?_)
 ·have:c≠b:=by rintro rfl;rw [hb] at hl;simp at hl
  simp only [zN this];exact hl
 ·by_cases e:c=b
  ·subst e;rw [hb] at hl;simp at hl;obtain ⟨rfl,rfl⟩:=hl;simp [Rd,Zo,ho]
  ·simp only [Rd,zN e,hl];exact ho
 ·have:c≠b:=by rintro rfl;rw [hb] at hl;simp at hl
  simp only [zN this];exact hl
 ·by_cases e:j=k
  ·subst e;simp [GB.ZR] at hf;omega
  ·have:c≠b:=by rintro rfl;rw [hb] at hl;simp at hl;exact e hl.1.symm
   exact ⟨by simp only [zN this];exact hl,rfl⟩
 ·by_cases e:j=k
  ·subst e;simp [GB.ZR];omega
  ·simp [GB.ZR,e]
structure wC (w w':World) (b:Nat):Prop where
 os:w'.os=w.os
 tape:w'.tape=w.tape
 output:w'.output=w.output
 size:w'.heap.size=w.heap.size
 old:∀c,c≠b->w'.heap[c]?=w.heap[c]?
theorem wC.setRow (w:World) (b:Nat) (cs:Array Value):wC w (w.setRow b cs) b:=⟨rfl,rfl,rfl,by simp,fun c hc=>setRow_other w b c cs hc⟩
theorem Ze.wrote {Λ:L} {w':World} {b k:Nat} (g:wC Λ.w w' b) (hb:Λ.lab b= .obj k):Ze Λ {Λ with w:=w'}:=
 Ze.same (b:=b) rfl (by rw [hb];rfl) rfl fun c hc=>g.old c hc
theorem Kp.wrote {Λ:L} {w':World} {b k:Nat} (g:wC Λ.w w' b) (hb:Λ.lab b= .obj k):Kp Λ {Λ with w:=w'}:=by
 have hne:∀{c:Nat} {x:Lab},Λ.lab c=x->(∀j,x≠ .obj j)->c≠b:=fun h hx e=>hx k (by rw [←h,e,hb])
 exact Kp.old (Ze.wrote g hb) g.os g.tape g.output (by rw [g.size];exact w07 _) (fun c _ fr hl=>⟨hl,g.old c (hne hl (by simp))⟩) (fun c _ j fr hl o ho=>⟨by simp [Rd,hl,ho],cell?_heap (g.old c (hne hl (by simp)))⟩) (w07 _) (fun _ _ _ h=>h) (fun c j n _ _ hl _=>⟨hl,g.old c (hne hl (by simp))⟩) (fun _ _=>w07 _)
theorem Ze.grown {Λ:L} {w':World} {b k fr fr' n:Nat} (g:wC Λ.w w' b) (hb:Λ.lab b= .arr k fr):Ze Λ {Λ with lab:=Zo Λ.lab b (.arr k fr'),fro:=GB.ZR Λ.fro k n,w:=w'}:=by
 refine ⟨fun c j i=>?_,fun c j i m=>?_,rfl,fun c j i e=>g.old c ?_,fun c j i m _ e=>g.old c ?_⟩
 ·by_cases e:c=b
  ·subst e;simp [zG,hb]
  ·simp only [zN e]
 ·by_cases e:c=b
  ·subst e;simp [zG,hb]
  ·simp only [zN e]
 ·rintro rfl;rw [hb] at e;simp at e
 ·rintro rfl;rw [hb] at e;simp at e
theorem Kp.grown {Λ:L} {w':World} {b k fr fr' n:Nat} (g:wC Λ.w w' b) (hb:Λ.lab b= .arr k fr) (hfr:fr<=fr') (hc:∀o,o<fr->w'.cell? ⟨b,o,none⟩=Λ.w.cell? ⟨b,o,none⟩) (hn:Λ.fro k<n):
  Kp Λ {Λ with lab:=Zo Λ.lab b (.arr k fr'),fro:=GB.ZR Λ.fro k n,w:=w'}:=by
 refine Kp.old (Ze.grown g hb) g.os g.tape g.output (by rw [g.size];exact w07 _) (fun c _ f hl=>?_) (fun c _ j f hl o ho=>?_) (w07 _) (fun c j _ hl=>?_) (fun c j m _ _ hl hf=>?_) (fun j _=>?_)
 ·have:c≠b:=by rintro rfl;rw [hb] at hl;simp at hl
  exact ⟨by simp only [zN this];exact hl,g.old c this⟩
 ·by_cases e:c=b
  ·subst e;rw [hb] at hl;simp at hl;obtain ⟨rfl,rfl⟩:=hl
   exact ⟨by simp [Rd,Zo];omega,hc o ho⟩
  ·exact ⟨by simp only [Rd,zN e,hl];exact ho,cell?_heap (g.old c e)⟩
 ·have:c≠b:=by rintro rfl;rw [hb] at hl;simp at hl
  simp only [zN this];exact hl
 ·by_cases e:j=k
  ·subst e;simp [GB.ZR] at hf;omega
  ·have:c≠b:=by rintro rfl;rw [hb] at hl;simp at hl;exact e hl.1.symm
   exact ⟨by simp only [zN this];exact hl,g.old c this⟩
 ·by_cases e:j=k
  ·subst e;simp [GB.ZR];omega
  ·simp [GB.ZR,e]
theorem Z7.step {Λ Λ':L} {s s':S} (h:Z7 Λ s) (hk:Kp Λ Λ') (hx:Λ'.nxt=Λ.nxt)
  (hsto:∀k o,zl s'.sto k=some o->(zl s.sto k=some o/\(∀b,Λ.lab b= .obj k->Λ'.w.heap[b]?=Λ.w.heap[b]?)/\Λ'.fro k=Λ.fro k)∨(k<Λ.nxt/\WV Λ' k o))
  (hinj:∀b b' k,Λ'.lab b= .obj k->Λ'.lab b'= .obj k->b=b') (hnew:∀b,Λ'.w.heap.size<=b->Λ'.lab b= .fix none)
  (hbnd:∀b k,(Λ'.lab b= .obj k∨∃n,Λ'.lab b= .arr k n)->k<Λ.nxt) (hfrz:∀k,Λ.nxt<=k->Λ'.fro k=0) (F:Ze Λ Λ'):Z7 Λ' s':=by
 refine ⟨fun k o hko=>?_,hinj,hnew,fun b k hb=>by rw [hx];exact hbnd b k hb,fun k hk'=>hfrz k (by rw [←hx];exact hk'),fun b b' k i e1 e2=>h.wF b b' k i ((F.fob ..).1 e1) ((F.fob ..).1 e2),fun b k hb=>?_,fun k i hk'=>by rw [F.frf];exact h.z22 k i (by rw [←hx];exact hk')⟩
 rotate_left
 ·rw [hx];refine h.wh b k ?_
  rcases hb with ⟨i,hb⟩|⟨i,n,hb⟩
  ·exact .inl ⟨i,(F.fob ..).1 hb⟩
  ·exact .inr ⟨i,n,(F.far ..).1 hb⟩
 rcases hsto k o hko with ⟨h1,h2,h3⟩|⟨h1,h2⟩
 ·obtain ⟨a1,a2⟩:=h.sto k o h1
  exact ⟨by rw [hx];exact a1,a2.mono hk a1 h2 h3 (fun b i=>F.hob b k i) (fun b i=>(F.fob b k i).1) (fun i=>by rw [F.frf])⟩
 ·exact ⟨by rw [hx];exact h1,h2⟩
theorem ya.yq {Λ Λ':L} {k:Nat} (h:ya Λ k) (F:Ze Λ Λ') (ho:∀b,Λ'.lab b≠ .obj k) (ha:∀b n,Λ'.lab b≠ .arr k n) (hf:Λ'.fro k=0):ya Λ' k:=
 ⟨ho,ha,hf,fun b i e=>h.fob b i ((F.fob ..).1 e),fun b i n e=>h.far b i n ((F.far ..).1 e),fun i=>by rw [F.frf];exact h.frf i⟩
def Za (P:Program) (o:Oper) (base:Nat) (st:St) (out:Out):Prop:=
 ∀(C:Ctx) (Λ:L) (a:Act) (next:Act->World->Prop) (Q:Exit->Act->World->Prop),C.P=P->Rel C Λ st a->base+out.n<=Λ.nxt->(∀k,base<=k->k<base+out.n->k<Λ.nxt/\ya Λ k/\zl st.s.sto k=none)->
  (∀v Λ',Kp Λ Λ'->Λ'.nxt=Λ.nxt->Z7 Λ' (st.s.app out)->zy Λ' v out.v->(∀k,ya Λ k->zl st.s.sto k=none->(base+out.n<=k∨(k<base/\out.rd=false))->ya Λ' k)->next (a.put o.dst v) Λ'.w)->
  o.wp P a Λ.w next Q
section
variable {P:Program} {o:Oper} {base:Nat} {st:St}
theorem S.z5P {s:S} {v:V} {r:Bool}:s.app {v:=v,rd:=r}=s:=rfl
theorem Za.zfM {x:V} {r:Bool} (h:zL P o true st x):Za P o base st {v:=x,rd:=r}:=by
 intro C Λ a next Q hC hr _ _ hn;obtain ⟨v,h1,h2⟩:=h C Λ a hC rfl hr;unfold Oper.wp;rw [h1];exact hn v Λ (Kp.refl _) Z hr.s h2 (fun _ h _ _=>h)
theorem zy.Qd {Λ:L} {v:Value} {x:V} (h:zy Λ v x) (hx:x.Zq=true):v.oneCell'=true:=by
 cases h with
 |t h=>cases h<;>rfl
 |zJ=>rfl
 |own h _ _ _ _=>cases h;rfl
 |slc _ _ _=>rfl
 |agg _ _=>simp [V.Zq] at hx
 |tup _ _=>simp [V.Zq] at hx
 |ptr _ _=>rfl
 |mp _ _=>rfl
 |fn _ _=>rfl
 |gd _ _=>simp [V.Zq] at hx
 |top=>simp [V.Zq] at hx
 |ub _ _=>simp [V.Zq] at hx
 |fpt _ _=>rfl
 |gpt hv _ _ _=>obtain ⟨_,rfl⟩:=hv;rfl
 |gsl hv _ _ _=>obtain ⟨_,_,_,rfl⟩:=hv;rfl
 |fow h _ _ _ _=>cases h;rfl
theorem Qz:∀(us:List V) (cs:List V) (off j:Nat),off+us.length<=cs.length->(setAt cs off us)[j]?=if off<=j/\j<off+us.length then us[j - off]? else cs[j]?
 |[],cs,off,j,_=>by simp [setAt];omega
 |u::us,cs,off,j,h=>by
  simp only [setAt];rw [Qz us (cs.set off u) (off+1) j (by simp at h⊢;omega)];simp only [w0b] at h⊢;by_cases h1:off+1<=j/\j<off+1+us.length
  ·rw [w0c h1,w0c (by omega)]
   have:j - off=(j - (off+1))+1:=by omega
   rw [this];simp
  ·rw [w0d h1,w1i];by_cases h2:off=j
   ·subst h2;rw [w0c rfl,w0c (by omega),w0c (by omega)];simp
   ·rw [w0d h2,w0d (by omega)]
theorem zdN {t:TypeId} {x y:Operand} {x' y':Ar} {n k off:Nat} {cs vs:List V} (ho:o.op= .store t x y) (hn:ZO P t=some n) (hx:opA x=some x') (hy:opA y=some y')
  (hxv:x'.u st= .ptr k off) (hk:zl st.s.sto k=some (.cells cs)) (hvs:(y'.u st).parts=some vs) (hl:vs.length=n/\off+n<=cs.length) (hok:vs.all V.Zq=true):
  Za P o base st {v:= .top,ob:=[(k,.cells (setAt cs off vs))],rd:=true}:=by
 intro C Λ a next Q hC hr _ _ hnext;have hx1:=hr.opu hx;have hy1:=(hr.opu hy).parts hvs;rw [hxv] at hx1;generalize hv:a.eval x=v at hx1
 cases hx1 with
 |@ptr b _ _ hkn hb=>
  obtain ⟨arr,e,h2,h3,h4⟩:=hr.s.qB hk hb
  have hone:∀u∈(a.eval y).cells.toList,u.oneCell'=true:=by
   intro u hu;obtain ⟨j,hj⟩:=w0y.1 hu
   have hj':(a.eval y).cells[j]?=some u:=by simpa using hj
   have hlt:j<vs.length:=by rw [←hy1.1];exact (w1q.1 hj').1
   have:=hy1.2 j u vs[j] hj' (by simp [hlt]);exact this.Qd (by rw [w0m] at hok;exact hok _ (List.getElem_mem hlt))
  have hsz:(a.eval y).cells.size=n:=by rw [hy1.1];exact hl.1
  have hst:=run_storeCells_at P b off e (a.eval y).cells.toList 0 arr Λ.w h2 (by simp [hsz];omega) hone;simp only [w1s] at hst
  have hrun:(execOp a.eval o).run P Λ.w= .ok .skip (Λ.w.setRow b (arr.toList.take off++(a.eval y).cells.toList++arr.toList.drop (off+(a.eval y).cells.toList.length)).toArray):=by
   simp only [execOp,ho,hv];simp [Instr.storeAt,Instr.sureAddr,storeVar,yP hn,hsz,hst]
  unfold Oper.wp;rw [hrun]
  have hkp:Kp Λ {Λ with w:=Λ.w.setRow b (arr.toList.take off++(a.eval y).cells.toList++arr.toList.drop (off+(a.eval y).cells.toList.length)).toArray}:=Kp.wrote (wC.setRow _ _ _) hb
  have hF:Ze Λ {Λ with w:=Λ.w.setRow b (arr.toList.take off++(a.eval y).cells.toList++arr.toList.drop (off+(a.eval y).cells.toList.length)).toArray}:=Ze.wrote (wC.setRow _ _ _) hb
  refine hnext undef _ hkp Z ?_ .top (fun k h _ _=>h.yq hF h.obj h.arr h.fro);refine hr.s.step hkp Z (fun j ob hj=>?_) hr.s.inj (fun c hc=>hr.s.new c (by simpa using hc)) hr.s.bnd hr.s.frz hF;simp only [S.app,Zr] at hj;rw [Zf] at hj;split at hj
  ·rename_i e;subst e;simp at hj;subst hj;refine .inr ⟨hkn,b,_,e,hb,setRow_heap _ _ _ _ _ _ h2,?_,?_⟩
   ·simp [wE,hsz];omega
   ·intro j u c hu hc;rw [Qz _ _ _ _ (by omega)] at hc
    have hu':(arr.toList.take off++(a.eval y).cells.toList++arr.toList.drop (off+(a.eval y).cells.toList.length))[j]?=some u:=by simpa using hu
    have hln:(a.eval y).cells.toList.length=n:=by simpa using hsz
    have hlt:(arr.toList.take off).length=off:=by simp;omega
    split at hc
    ·rename_i hj;rw [w1w,w0i (by omega),hlt,w0h (by omega)] at hu';exact (hy1.2 _ u c (by simpa using hu') hc).mono hkp
    ·rename_i hj;refine (h4 j u c ?_ hc).mono hkp;by_cases hj1:j<off
     ·rw [w1w,w0h (by omega),w0p,w0c hj1] at hu';simpa using hu'
     ·rw [w0i (by simp;omega),w0z] at hu'
      have:off+(a.eval y).cells.toList.length+(j - (arr.toList.take off++(a.eval y).cells.toList).length)=j:=by simp;omega
      rw [this] at hu';simpa using hu'
  ·rename_i hne;refine .inl ⟨hj,fun c hc=>?_,rfl⟩
   have:c≠b:=by rintro rfl;rw [hb] at hc;simp at hc;exact hne hc
   exact setRow_other _ _ _ _ this
theorem Qt {Λ:L} {s:S} {w':World} {ob:Obj} {k:Nat} {ao:z5} (h:Z7 Λ s) (g:Yx Λ.w w' ob) (hk:k<Λ.nxt) (hf:ya Λ k) {Λ':L} (hΛ:Λ'={Λ with lab:=Zo Λ.lab Λ.w.heap.size (.obj k),w:=w'})
  (ho:WV Λ' k ao):
  Kp Λ Λ'/\Z7 Λ' {s with sto:=Yn s.sto k ao}/\∀j,ya Λ j->j≠k->ya Λ' j:=by
 subst hΛ;have hkp:=Kp.new g h.new (.obj k);have hF:=Ze.new g h.new (.obj k) rfl;refine ⟨hkp,h.step hkp Z (fun j ob' hj=>?_) (fun b b' j h1 h2=>?_) (fun b hb=>?_) (fun b j hb=>?_) h.frz hF,fun j hj hne=>hj.yq hF (fun b hb=>?_) (fun b n hb=>?_) hj.fro⟩
 ·simp only at hj;rw [Zf] at hj;split at hj
  ·rename_i e;subst e;simp at hj;subst hj;exact .inr ⟨hk,ho⟩
  ·refine .inl ⟨hj,fun b hb=>g.old ?_,rfl⟩
   rcases w1b b Λ.w.heap.size with h'|h'
   ·exact h'
   ·rw [h.new b h'] at hb;simp at hb
 ·by_cases e1:b=Λ.w.heap.size
  ·by_cases e2:b'=Λ.w.heap.size
   ·omega
   ·simp only [zN e2] at h2;subst e1;simp only [zG] at h1;simp at h1;subst h1;exact absurd h2 (hf.obj b')
  ·simp only [zN e1] at h1;by_cases e2:b'=Λ.w.heap.size
   ·subst e2;simp only [zG] at h2;simp at h2;subst h2;exact absurd h1 (hf.obj b)
   ·simp only [zN e2] at h2;exact h.inj b b' j h1 h2
 ·simp only at hb⊢;rw [g.size] at hb;rw [zN (by omega)];exact h.new b (by omega)
 ·by_cases e:b=Λ.w.heap.size
  ·subst e;simp only [zG] at hb;rcases hb with hb|⟨n,hb⟩<;>simp at hb;omega
  ·simp only [zN e] at hb;exact h.bnd b j hb
 ·by_cases e:b=Λ.w.heap.size
  ·subst e;simp only [zG] at hb;simp at hb;exact hne hb.symm
  ·simp only [zN e] at hb;exact hj.obj b hb
 ·by_cases e:b=Λ.w.heap.size
  ·subst e;simp only [zG] at hb;simp at hb
  ·simp only [zN e] at hb;exact hj.arr b n hb
theorem zgc {t:TypeId} {x:Operand} {x':Ar} {n:Nat} {vs:List V} (ho:o.op= .box t x) (hx:opA x=some x') (hvs:(x'.u st).parts=some vs):
  Za P o base st {v:= .ptr base 0,ob:=[(base,.cells vs)],n:=n+1}:=by
 intro C Λ a next Q hC hr hle hfree hnext;have hx1:=(hr.opu hx).parts hvs
 have hrun:(execOp a.eval o).run P Λ.w= .ok (.value (.pointer (some ⟨Λ.w.heap.size,0,none⟩))) (Λ.w.alloc (.cells (a.eval x).cells t)):=by
  simp only [execOp,ho];simp [Instr.box,newVar,newRow]
 unfold Oper.wp;rw [hrun];obtain ⟨hb1,hb2,hb3⟩:=hfree base (w07 _) (by simp);have g:=Yx.alloc Λ.w (.cells (a.eval x).cells t);have hkp:=Kp.new g hr.s.new (.obj base)
 obtain ⟨k1,k2,k3⟩:=Qt hr.s g hb1 hb2 rfl (ao:= .cells vs) ⟨Λ.w.heap.size,_,_,by simp [zG],g.top,hx1.1,fun j v c e1 e2=>(hx1.2 j v c e1 e2).mono hkp⟩
 exact hnext _ _ k1 Z k2 (.ptr hb1 (by simp [zG])) (fun k hk _ hlt=>k3 k hk (by simp at hlt;omega))
theorem zdi {t:TypeId} {zs:List V} (ho:o.op= .alloc t) (hz:y8 P t=some zs):Za P o base st {v:= .ptr base 0,ob:=[(base,.cells zs)],n:=1}:=by
 intro C Λ a next Q hC hr hle hfree hnext;obtain ⟨i,z,hi,hz1,hlen,hok⟩:=yF hz
 have hrun:(execOp a.eval o).run P Λ.w= .ok (.value (.pointer (some ⟨Λ.w.heap.size,0,none⟩))) (Λ.w.alloc (.cells z.cells t)):=by
  simp only [execOp,ho];simp [Instr.alloc,zeroValue,typeInfo,hi,hz1,newVar,newRow]
 unfold Oper.wp;rw [hrun];obtain ⟨hb1,hb2,hb3⟩:=hfree base (w07 _) (by simp);have g:=Yx.alloc Λ.w (.cells z.cells t);have hrc:=fun Λ':L=>yD (Λ:=Λ') hok
 obtain ⟨k1,k2,k3⟩:=Qt hr.s g hb1 hb2 rfl (ao:= .cells zs) ⟨Λ.w.heap.size,_,_,by simp [zG],g.top,(hrc Λ).1,fun j v c e1 e2=>(hrc _).2 j v c e1 e2⟩
 exact hnext _ _ k1 Z k2 (.ptr hb1 (by simp [zG])) (fun k hk _ hlt=>k3 k hk (by simp at hlt;omega))
end
end Go.GB
