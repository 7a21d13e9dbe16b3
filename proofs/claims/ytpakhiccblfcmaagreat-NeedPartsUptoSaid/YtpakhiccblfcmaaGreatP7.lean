/-
  YtpakhiccblfcmaaGreatP7: lemmas of this proof (part 7). No conditions.
-/
import Derived.Test.YtpakhiccblfcmaaGreatP6
import Derived.Test.YtpakhiccblfcmaaGreatP3
import Derived.Test.YtpakhiccblfcmaaGreatP5
import Derived.Test.YtpakhiccblfcmaaGreatP4
set_option linter.all false
set_option maxRecDepth 100000
set_option maxHeartbeats 16000000
namespace Go.GB.C29
open Go.GB Go.GB.C11 Go.GB.C18
variable {P:Program}
theorem _root_.Go.GB.LeX.z8m {m m' k sz:Nat} {xs ys:List (List T)} (e:xs=ys):LeX m m' (.own k sz xs) (.t (.lst ys)):=e▸LeX.Zg
abbrev W2:=Int×Int
abbrev Co:=Bool->Ref->Val->W2->Val×W2
def YH (rec:Val->W2->Val×W2):List Val->W2->List Val×W2
 |[],w=>([],w)
 |x::r,w=>if w.2=0 then ((rec x w).1::(YH rec r (rec x w).2).1,(YH rec r (rec x w).2).2) else ([],w)
theorem z2G {rec:Val->W2->Val×W2} {l:List Val} {w:W2} (h:w.2≠0):YH rec l w=([],w):=by
 cases l with
 |nil=>rfl
 |cons x r=>simp only [YH];rw [if_neg h]
def Yk (v:Val):List Val:=if v.kind=5 then v.items else [v]
def z5O (rec:Val->W2->Val×W2) (v:Val) (w:W2):Val×W2:=(.mk 5 0 [] (YH rec (Yk v) w).1 [],(YH rec (Yk v) w).2)
def CoC (P:Program) (ds:List Def) (F:Co) (l:Nat):Prop:=∀(lit:Bool) (t:Ref) (v:Val) (c er:Int),t.Ok->v.Ok->
 z7 P 145 [.ptr 0 0,t.v,v.v,.t (.int .i64 l)] ⟨[(0,.cells [.t (.lst (List.map Def.enc (ds))),.t (.int .i64 0),.t (.int .i64 0),.t (.str []),.t (.lst []),.t (.lst []),.t (.bool (lit)),.t (.int .i64 (c)),.t (.int .i64 (er))])],1⟩ {v:=(F lit t v (c,er)).1.v,ob:=[(0,.cells [.t (.lst (List.map Def.enc (ds))),.t (.int .i64 0),.t (.int .i64 0),.t (.str []),.t (.lst []),.t (.lst []),.t (.bool (lit)),.t (.int .i64 ((F lit t v (c,er)).2.1)),.t (.int .i64 ((F lit t v (c,er)).2.2))])],rd:=true}
theorem zdw (H:PrW P) (ds:List Def) (F:Co) (l:Nat) (hl:l<=100) (hrec:CoC P ds F (l+1)) (lit:Bool) (t:Ref) (ht:t.Ok) (v:Val) (hv:v.Ok) (c er:Int):
  z7 P 151 [.ptr 0 0,t.v,v.v,.t (.int .i64 l)] ⟨[(0,.cells [.t (.lst (List.map Def.enc (ds))),.t (.int .i64 0),.t (.int .i64 0),.t (.str []),.t (.lst []),.t (.lst []),.t (.bool (lit)),.t (.int .i64 (c)),.t (.int .i64 (er))])],1⟩ {v:=(z5O (F lit t) v (c,er)).1.v,ob:=[(0,.cells [.t (.lst (List.map Def.enc (ds))),.t (.int .i64 0),.t (.int .i64 0),.t (.str []),.t (.lst []),.t (.lst []),.t (.bool (lit)),.t (.int .i64 ((z5O (F lit t) v (c,er)).2.1)),.t (.int .i64 ((z5O (F lit t) v (c,er)).2.2))])],rd:=true}:=by
 have hil:=hv.il
 have hio:∀x,x∈Yk v->x.Ok:=by
  intro x hx;unfold Yk at hx;split at hx
  ·exact hv.it x hx
  ·simp at hx;subst hx;exact hv
 have hIl:(Yk v).length*80<=140737488355328:=by
  unfold Yk;split
  ·exact hil
  ·simp
 generalize hR:YH (F lit t) (Yk v) (c,er)=R
 have hV:z5O (F lit t) v (c,er)=(.mk 5 0 [] R.1 [],R.2):=by unfold z5O;rw [hR]
 rw [hV];refine z7.run H.i151 H.mixed Z Z ?_;refine fR Z ?_;obtain ⟨R1,R2,R3⟩:=R;refine Run.cond Z Z (fun h1=>?_) (fun h1=>?_)
 ·have e:Yk v=v.items:=by unfold Yk;rw [if_pos (by simpa using h1)]
  rw [e] at hR hio hIl;refine fR Z ?_
  refine zD v.items (fun i (B:List Val×W2)=>{env:=[(0,.ptr 0 0),(3,.t (.int .i64 l)),(5,.ptr 1 0),(8,.ptr 3 0),(9,.t (.lst (List.map Val.enc (v.items)))),(10,.ptr 5 0),(11,.t (.int .i64 i))],s:=⟨[(0,.cells [.t (.lst (List.map Def.enc (ds))),.t (.int .i64 0),.t (.int .i64 0),.t (.str []),.t (.lst []),.t (.lst []),.t (.bool (lit)),.t (.int .i64 (B.2.1)),.t (.int .i64 (B.2.2))]),(1,.cells [.t (.str t.name),.t (.lst (t.zr.map nE))]),(3,.cells [.t (.int .i64 0),.t (.int .i64 0),.t (.str []),.zI,.zI]),(5,.cells [.t (.int .i64 5),.t (.int .i64 0),.t (.str []),.own 6 5 (B.1.map Val.enc),.zI]),(6,.arr B.1.length)],7⟩}) (fun r i B=>B.1.length=i/\B.1++(YH (F lit t) r B.2).1=R1/\(YH (F lit t) r B.2).2=(R2,R3)) 6 (([],(c,er))) Z ⟨rfl,by rw [hR];rfl,by rw [hR]⟩ rfl rfl rfl ?_ ?_ (he:=(by repeat' (first |exact trivial|exact LeX.t|exact LeX.top|exact LeX.zF (zLB rfl) (zLB rfl)|exact LeX.Zg|exact LeX.Zh|exact LeX.same rfl|exact LeX.tEq (by simp[Val.zw,Val.cs])|exact LeX.ownEq (by simp[Val.zw,Val.cs]) (zLB rfl)|exact LeX.tEq (by congr 1<;>omega)|exact Or.inr ⟨zLB rfl,zLB rfl,rfl⟩|refine Or.inl ⟨zLB rfl,_,rfl,?_⟩|refine LeO.cells ?_|exact LeO.arr rfl|exact LeO.arr (by simp[Val.zw,Val.cs])|exact LeX.z8m (by simp [Val.zw,Val.cs])|exact LeO.mE (by first |rfl|simp[Val.zw,Val.cs]) (by first |exact Or.inl rfl|exact Or.inr rfl)|exact LeO.cE (by first |rfl|simp[Val.zw,Val.cs])|exact zo.cE (by first |rfl|simp[Val.zw,Val.cs])|refine LeO.map (by first |rfl|simp) ?_ (by first |exact Or.inl rfl|exact Or.inr rfl)|exact LeO.iter (by first |rfl|simp) (zLB rfl)|refine zo.cons ?_ ?_|exact zo.nil|refine And.intro ?_ ?_))) (hs:=(by repeat' (first |exact trivial|exact LeX.t|exact LeX.top|exact LeX.zF (zLB rfl) (zLB rfl)|exact LeX.Zg|exact LeX.Zh|exact LeX.same rfl|exact LeX.tEq (by simp[Val.zw,Val.cs])|exact LeX.ownEq (by simp[Val.zw,Val.cs]) (zLB rfl)|exact LeX.tEq (by congr 1<;>omega)|exact Or.inr ⟨zLB rfl,zLB rfl,rfl⟩|refine Or.inl ⟨zLB rfl,_,rfl,?_⟩|refine LeO.cells ?_|exact LeO.arr rfl|exact LeO.arr (by simp[Val.zw,Val.cs])|exact LeX.z8m (by simp [Val.zw,Val.cs])|exact LeO.mE (by first |rfl|simp[Val.zw,Val.cs]) (by first |exact Or.inl rfl|exact Or.inr rfl)|exact LeO.cE (by first |rfl|simp[Val.zw,Val.cs])|exact zo.cE (by first |rfl|simp[Val.zw,Val.cs])|refine LeO.map (by first |rfl|simp) ?_ (by first |exact Or.inl rfl|exact Or.inr rfl)|exact LeO.iter (by first |rfl|simp) (zLB rfl)|refine zo.cons ?_ ?_|exact zo.nil|refine And.intro ?_ ?_)))
  ·rintro ⟨B,w1,w2⟩ ⟨_,hB,hw⟩;simp only [YH,List.append_nil] at hB hw;obtain ⟨rfl,rfl⟩:=Prod.mk.inj hw;subst hB;refine fR Z ?_;refine lM Z Z Z ?_;refine fM Z ?_;refine Run.zj Z Z (by simp) ?_;refine fR Z ?_;refine Run.fin Z (z3.chg Z Z ?_ ?_)
   ·exact .agg (.cons (.t Z) (.cons (.t Z) (.cons (.t Z) (.cons (.own Z) (.cons (.nil Z) .nil)))))
   ·skip;exact leSA
  ·rintro i x r ⟨B,w1,w2⟩ k1 hi hd ⟨hBl,hB,hw⟩ ih;have hBl':B.length=i:=hBl;have hc:=hrec lit t x w1 w2 ht (hio x (zMG k1));by_cases hz:w2=0
   ·subst hz;simp only [YH,if_pos] at hB hw;generalize F lit t x (w1,0)=G at hc hB hw;refine fR Z ?_;refine lM Z Z Z ?_;refine fM Z ?_;refine Run.zm Z Z (by first |(simp;omega)|(have:=hi;simp at this;simp [this])) ?_;refine fR Z ?_;refine Mid.Zl (Val.zw x) Z Z Z k1 Z Z ?_;refine fM Z ?_;refine aL Z Z Z Z Z ?_
    refine Mid.ZI [0] (hc) Z Z Z Z (by simp [zR];simp [z6.bd,V.bds,V.bd]) (by repeat' (first |exact trivial|exact rfl|refine And.intro ?_ ?_|exact (congrArg some (z6.zK _ _ _ _ _ _)).symm|exact (congrArg some (z6.zL _ _ _)).symm|(refine (congrArg some (z6.zZ ?_ _ _)).symm;intro _;rfl))) Z Z (ob':=[(0,.cells [.t (.lst (List.map Def.enc (ds))),.t (.int .i64 0),.t (.int .i64 0),.t (.str []),.t (.lst []),.t (.lst []),.t (.bool (lit)),.t (.int .i64 (G.2.1)),.t (.int .i64 (G.2.2))])]) (rfl) Z Z ?_
    refine fM Z ?_;refine apM Val.enc B [G.1] Z (congrArg (fun c=>some (T.lst [c])) (Val.zw G.1).symm) Z Z Z ?_ (hl:=fun x=>(congrArg List.length (Val.zw x)).trans Z);refine fM Z ?_;refine aL Z Z Z Z Z ?_;refine fM Z ?_;exact zn 7 Z (ih (B++[G.1],G.2) ⟨by simp;omega,by rw [←hB];simp,hw⟩) rfl rfl rfl
   ·rw [z2G (by exact hz)] at hB hw;simp only [List.append_nil] at hB hw;obtain ⟨rfl,rfl⟩:=Prod.mk.inj hw;subst hB;refine fR Z ?_;refine lM Z Z Z ?_;refine fM Z ?_;refine Run.zj Z Z (by first |(simp;omega)|(have:=hi;simp at this;simp [this])) ?_;refine fR Z ?_;refine Run.fin Z (z3.chg Z Z ?_ ?_)
    ·exact .agg (.cons (.t Z) (.cons (.t Z) (.cons (.t Z) (.cons (.own Z) (.cons (.nil Z) .nil)))))
    ·skip;exact leSA
 ·have e:Yk v=[v]:=by unfold Yk;rw [if_neg (by simpa using h1)]
  rw [e] at hR hio hIl;refine fR Z ?_
  refine zD [v] (fun i (B:List Val×W2)=>{env:=[(0,.ptr 0 0),(3,.t (.int .i64 l)),(5,.ptr 1 0),(8,.ptr 3 0),(9,.t (.lst (List.map Val.enc ([v])))),(10,.ptr 5 0),(11,.t (.int .i64 i))],s:=⟨[(0,.cells [.t (.lst (List.map Def.enc (ds))),.t (.int .i64 0),.t (.int .i64 0),.t (.str []),.t (.lst []),.t (.lst []),.t (.bool (lit)),.t (.int .i64 (B.2.1)),.t (.int .i64 (B.2.2))]),(1,.cells [.t (.str t.name),.t (.lst (t.zr.map nE))]),(3,.cells [.t (.int .i64 0),.t (.int .i64 0),.t (.str []),.zI,.zI]),(5,.cells [.t (.int .i64 5),.t (.int .i64 0),.t (.str []),.own 6 5 (B.1.map Val.enc),.zI]),(6,.arr B.1.length)],7⟩}) (fun r i B=>B.1.length=i/\B.1++(YH (F lit t) r B.2).1=R1/\(YH (F lit t) r B.2).2=(R2,R3)) 6 (([],(c,er))) Z ⟨rfl,by rw [hR];rfl,by rw [hR]⟩ rfl rfl rfl ?_ ?_ (he:=(by repeat' (first |exact trivial|exact LeX.t|exact LeX.top|exact LeX.zF (zLB rfl) (zLB rfl)|exact LeX.Zg|exact LeX.Zh|exact LeX.same rfl|exact LeX.tEq (by simp[Val.zw,Val.cs])|exact LeX.ownEq (by simp[Val.zw,Val.cs]) (zLB rfl)|exact LeX.tEq (by congr 1<;>omega)|exact Or.inr ⟨zLB rfl,zLB rfl,rfl⟩|refine Or.inl ⟨zLB rfl,_,rfl,?_⟩|refine LeO.cells ?_|exact LeO.arr rfl|exact LeO.arr (by simp[Val.zw,Val.cs])|exact LeX.z8m (by simp [Val.zw,Val.cs])|exact LeO.mE (by first |rfl|simp[Val.zw,Val.cs]) (by first |exact Or.inl rfl|exact Or.inr rfl)|exact LeO.cE (by first |rfl|simp[Val.zw,Val.cs])|exact zo.cE (by first |rfl|simp[Val.zw,Val.cs])|refine LeO.map (by first |rfl|simp) ?_ (by first |exact Or.inl rfl|exact Or.inr rfl)|exact LeO.iter (by first |rfl|simp) (zLB rfl)|refine zo.cons ?_ ?_|exact zo.nil|refine And.intro ?_ ?_))) (hs:=(by repeat' (first |exact trivial|exact LeX.t|exact LeX.top|exact LeX.zF (zLB rfl) (zLB rfl)|exact LeX.Zg|exact LeX.Zh|exact LeX.same rfl|exact LeX.tEq (by simp[Val.zw,Val.cs])|exact LeX.ownEq (by simp[Val.zw,Val.cs]) (zLB rfl)|exact LeX.tEq (by congr 1<;>omega)|exact Or.inr ⟨zLB rfl,zLB rfl,rfl⟩|refine Or.inl ⟨zLB rfl,_,rfl,?_⟩|refine LeO.cells ?_|exact LeO.arr rfl|exact LeO.arr (by simp[Val.zw,Val.cs])|exact LeX.z8m (by simp [Val.zw,Val.cs])|exact LeO.mE (by first |rfl|simp[Val.zw,Val.cs]) (by first |exact Or.inl rfl|exact Or.inr rfl)|exact LeO.cE (by first |rfl|simp[Val.zw,Val.cs])|exact zo.cE (by first |rfl|simp[Val.zw,Val.cs])|refine LeO.map (by first |rfl|simp) ?_ (by first |exact Or.inl rfl|exact Or.inr rfl)|exact LeO.iter (by first |rfl|simp) (zLB rfl)|refine zo.cons ?_ ?_|exact zo.nil|refine And.intro ?_ ?_)))
  ·rintro ⟨B,w1,w2⟩ ⟨_,hB,hw⟩;simp only [YH,List.append_nil] at hB hw;obtain ⟨rfl,rfl⟩:=Prod.mk.inj hw;subst hB;refine fR Z ?_;refine lM Z Z Z ?_;refine fM Z ?_;refine Run.zj Z Z (by simp) ?_;refine fR Z ?_;refine Run.fin Z (z3.chg Z Z ?_ ?_)
   ·exact .agg (.cons (.t Z) (.cons (.t Z) (.cons (.t Z) (.cons (.own Z) (.cons (.nil Z) .nil)))))
   ·skip;exact leSA
  ·rintro i x r ⟨B,w1,w2⟩ k1 hi hd ⟨hBl,hB,hw⟩ ih;have hBl':B.length=i:=hBl;have hc:=hrec lit t x w1 w2 ht (hio x (zMG k1));by_cases hz:w2=0
   ·subst hz;simp only [YH,if_pos] at hB hw;generalize F lit t x (w1,0)=G at hc hB hw;refine fR Z ?_;refine lM Z Z Z ?_;refine fM Z ?_;refine Run.zm Z Z (by first |(simp;omega)|(have:=hi;simp at this;simp [this])) ?_;refine fR Z ?_;refine Mid.Zl (Val.zw x) Z Z Z k1 Z Z ?_;refine fM Z ?_;refine aL Z Z Z Z Z ?_
    refine Mid.ZI [0] (hc) Z Z Z Z (by simp [zR];simp [z6.bd,V.bds,V.bd]) (by repeat' (first |exact trivial|exact rfl|refine And.intro ?_ ?_|exact (congrArg some (z6.zK _ _ _ _ _ _)).symm|exact (congrArg some (z6.zL _ _ _)).symm|(refine (congrArg some (z6.zZ ?_ _ _)).symm;intro _;rfl))) Z Z (ob':=[(0,.cells [.t (.lst (List.map Def.enc (ds))),.t (.int .i64 0),.t (.int .i64 0),.t (.str []),.t (.lst []),.t (.lst []),.t (.bool (lit)),.t (.int .i64 (G.2.1)),.t (.int .i64 (G.2.2))])]) (rfl) Z Z ?_
    refine fM Z ?_;refine apM Val.enc B [G.1] Z (congrArg (fun c=>some (T.lst [c])) (Val.zw G.1).symm) Z Z Z ?_ (hl:=fun x=>(congrArg List.length (Val.zw x)).trans Z);refine fM Z ?_;refine aL Z Z Z Z Z ?_;refine fM Z ?_;exact zn 7 Z (ih (B++[G.1],G.2) ⟨by simp;omega,by rw [←hB];simp,hw⟩) rfl rfl rfl
   ·rw [z2G (by exact hz)] at hB hw;simp only [List.append_nil] at hB hw;obtain ⟨rfl,rfl⟩:=Prod.mk.inj hw;subst hB;refine fR Z ?_;refine lM Z Z Z ?_;refine fM Z ?_;refine Run.zj Z Z (by first |(simp;omega)|(have:=hi;simp at this;simp [this])) ?_;refine fR Z ?_;refine Run.fin Z (z3.chg Z Z ?_ ?_)
    ·exact .agg (.cons (.t Z) (.cons (.t Z) (.cons (.t Z) (.cons (.own Z) (.cons (.nil Z) .nil)))))
    ·skip;exact leSA
end Go.GB.C29
namespace Go.GB.C29
open Go.GB Go.GB.C11 Go.GB.C18
variable {P:Program}
def z2r (ins:List Input):List Str->Int->Int
 |[],er=>er
 |k::r,er=>z2r ins r (if (zV k ins).isSome=true then er else ZM 22 er)
def wS (F:Co) (lit:Bool) (v:Val) (x:Input) (w:W2):Option (Val×W2):=
 if ((Wd v x.name).isSome&&!Qv lit ((Wd v x.name).getD Val.zero))=true then some (F lit x.ty ((Wd v x.name).getD Val.zero) w)
 else if x.has=true then some (F true x.ty x.YN w)
 else if nnF x.ty.zr=true then some (Val.zero,(w.1,ZM 22 w.2))
 else none
def Y6 (F:Co) (lit:Bool) (t:List Input) (v:Val):Nat->List Input->W2->List (Str×Val)×W2
 |_,[],w=>([],w)
 |i,x::r,w=>if w.2=0 then
   if zeA t x i=true then Y6 F lit t v (i+1) r w
   else match wS F lit v x w with
    |none=>Y6 F lit t v (i+1) r w
    |some y=>((x.name,y.1)::(Y6 F lit t v (i+1) r y.2).1,(Y6 F lit t v (i+1) r y.2).2)
  else ([],w)
theorem z9G {F:Co} {lit:Bool} {t:List Input} {v:Val} {i:Nat} {l:List Input} {w:W2} (h:w.2≠0):Y6 F lit t v i l w=([],w):=by
 cases l with
 |nil=>rfl
 |cons x r=>simp only [Y6];rw [if_neg h]
def z3r (F:Co) (lit:Bool) (t:Def) (v:Val) (w:W2):Val×W2:=
 if v.kind=6 then (.mk 6 0 [] ((Y6 F lit t.ze v 0 t.ze (w.1,z2r t.ze v.keys w.2)).1.map (·.2)) ((Y6 F lit t.ze v 0 t.ze (w.1,z2r t.ze v.keys w.2)).1.map (·.1)),(Y6 F lit t.ze v 0 t.ze (w.1,z2r t.ze v.keys w.2)).2)
 else (Val.zero,(w.1,ZM 23 w.2))
def PlC (P:Program) (ds:List Def) (F:Co) (l:Nat):Prop:=∀(lit:Bool) (t:Ref) (v:Val) (c er:Int),t.Ok->v.Ok->
 z7 P 158 [.ptr 0 0,t.v,v.v,.t (.int .i64 l)] ⟨[(0,.cells [.t (.lst (List.map Def.enc (ds))),.t (.int .i64 0),.t (.int .i64 0),.t (.str []),.t (.lst []),.t (.lst []),.t (.bool (lit)),.t (.int .i64 (c)),.t (.int .i64 (er))])],1⟩ {v:=(F true t v (c,er)).1.v,ob:=[(0,.cells [.t (.lst (List.map Def.enc (ds))),.t (.int .i64 0),.t (.int .i64 0),.t (.str []),.t (.lst []),.t (.lst []),.t (.bool (lit)),.t (.int .i64 ((F true t v (c,er)).2.1)),.t (.int .i64 ((F true t v (c,er)).2.2))])],rd:=true}
theorem zbI (H:PrW P) (ds:List Def) (F:Co) (l:Nat) (hl:l<=200) (hrec:CoC P ds F l):PlC P ds F l:=by
 intro lit t v c er ht hv;have hc:=hrec true t v c er ht hv;generalize F true t v (c,er)=G at hc;refine z7.run H.i158 H.mixed Z Z ?_
 refine Run.wW (f:=29) Z (by (repeat' (first |exact trivial|exact Bool.not_or_self _|exact yK _|exact yJ _|exact grd3 _ _|exact yL _ _|refine And.intro ?_ ?_|exact rfl|(simp;done)|(simp<;>omega)));done) ?_
 refine Run.Qo 5 Z (st':={env:=[(0,.ptr 0 0),(3,.t (.int .i64 l)),(5,.ptr 1 0),(6,.ptr 2 0),(8,.ptr 3 0),(9,.ptr 4 0),(10,.t (.bool lit))],s:=⟨[(0,.cells [.t (.lst (List.map Def.enc (ds))),.t (.int .i64 0),.t (.int .i64 0),.t (.str []),.t (.lst []),.t (.lst []),.t (.bool (true)),.t (.int .i64 (c)),.t (.int .i64 (er))]),(1,.cells [.t (.str t.name),.t (.lst (t.zr.map nE))]),(2,.cells [.t (.int .i64 (v).kind),.t (.int .i64 (v).int),.t (.str (v).text),.t (.lst ((v).items.map Val.enc)),.t (.lst ((v).keys.map sE))]),(3,.cells [.t (.int .i64 0),.t (.int .i64 0),.t (.str []),.zI,.zI]),(4,.cells [.t (.int .i64 0),.t (.int .i64 0),.t (.str []),.t (.lst []),.t (.lst [])])],5⟩}) ?_ Z Z Z (by repeat' (first |exact trivial|exact LeZ.le (zLB rfl) (by first |exact LeX.t|exact LeX.top|exact LeX.same rfl|exact LeX.Zg|exact LeX.Zh|exact LeX.fowT|exact LeX.tEq (by simp))|exact LeZ.gE _ _ (zLB rfl) rfl (by first |exact List.take_length.symm|exact (List.take_of_length_le (by simp)).symm|simp) (by simp) (fun _=>rfl)|exact Or.inr ⟨zLB rfl,zLB rfl,rfl⟩|refine Or.inl ⟨zLB rfl,_,rfl,?_⟩|refine Yq.cells ?_|exact Yq.le (LeO.arr (by first |rfl|simp))|exact Yq.le (LeO.cE (by first |rfl|simp))|exact Yq.le (LeO.mE (by first |rfl|simp) (by first |exact Or.inl rfl|exact Or.inr rfl))|refine WI.cons ?_ ?_|exact WI.nil|refine And.intro ?_ ?_)) (by repeat' (first |exact trivial|exact LeZ.le (zLB rfl) (by first |exact LeX.t|exact LeX.top|exact LeX.same rfl|exact LeX.Zg|exact LeX.Zh|exact LeX.fowT|exact LeX.tEq (by simp))|exact LeZ.gE _ _ (zLB rfl) rfl (by first |exact List.take_length.symm|exact (List.take_of_length_le (by simp)).symm|simp) (by simp) (fun _=>rfl)|exact Or.inr ⟨zLB rfl,zLB rfl,rfl⟩|refine Or.inl ⟨zLB rfl,_,rfl,?_⟩|refine Yq.cells ?_|exact Yq.le (LeO.arr (by first |rfl|simp))|exact Yq.le (LeO.cE (by first |rfl|simp))|exact Yq.le (LeO.mE (by first |rfl|simp) (by first |exact Or.inl rfl|exact Or.inr rfl))|refine WI.cons ?_ ?_|exact WI.nil|refine And.intro ?_ ?_))
 refine fR Z ?_
 refine Mid.ZI [0] (hc) Z Z Z Z (by simp [zR];simp [z6.bd,V.bds,V.bd]) (by repeat' (first |exact trivial|exact rfl|refine And.intro ?_ ?_|exact (congrArg some (z6.zK _ _ _ _ _ _)).symm|exact (congrArg some (z6.zL _ _ _)).symm|(refine (congrArg some (z6.zZ ?_ _ _)).symm;intro _;rfl))) Z Z (ob':=[(0,.cells [.t (.lst (List.map Def.enc (ds))),.t (.int .i64 0),.t (.int .i64 0),.t (.str []),.t (.lst []),.t (.lst []),.t (.bool (true)),.t (.int .i64 (G.2.1)),.t (.int .i64 (G.2.2))])]) (rfl) Z Z ?_
 refine fM Z ?_;skip;refine Run.fin Z (z3.chg Z Z ?_ ?_)
 ·exact .agg (.cons (.t Z) (.cons (.t Z) (.cons (.t Z) (.cons (.t Z) (.cons (.t Z) .nil)))))
 ·skip;exact leSA
theorem za5 (H:PrW P) (ds:List Def) (F:Co) (l:Nat) (hl:l<=100) (hrec:CoC P ds F (l+1)) (lit:Bool) (t:Def) (ht:t.Ok) (hni:t.ze.length<=1099511627776) (v:Val) (hv:v.Ok) (c er:Int):
  z7 P 154 [.ptr 0 0,t.v,v.v,.t (.int .i64 l)] ⟨[(0,.cells [.t (.lst (List.map Def.enc (ds))),.t (.int .i64 0),.t (.int .i64 0),.t (.str []),.t (.lst []),.t (.lst []),.t (.bool (lit)),.t (.int .i64 (c)),.t (.int .i64 (er))])],1⟩ {v:=(z3r F lit t v (c,er)).1.v,ob:=[(0,.cells [.t (.lst (List.map Def.enc (ds))),.t (.int .i64 0),.t (.int .i64 0),.t (.str []),.t (.lst []),.t (.lst []),.t (.bool (lit)),.t (.int .i64 ((z3r F lit t v (c,er)).2.1)),.t (.int .i64 ((z3r F lit t v (c,er)).2.2))])],rd:=true}:=by
 have hnl:=ht.nl;have hkl:=hv.kl;have hpl:=zbI H ds F (l+1) (by omega) hrec;refine z7.run H.i154 H.mixed Z Z ?_;refine fR Z ?_;refine Run.cond Z Z (fun h1=>?_) (fun h1=>?_)
 ·have h1':¬ v.kind=6:=by simpa using h1
  have hR:z3r F lit t v (c,er)=(Val.zero,(c,ZM 23 er)):=by unfold z3r;rw [if_neg h1']
  rw [hR];refine fR Z ?_
  refine Mid.ZI [0] (Yh H ds lit c er 23) Z Z Z Z (by simp [zR];simp [z6.bd,V.bds,V.bd]) (by repeat' (first |exact trivial|exact rfl|refine And.intro ?_ ?_|exact (congrArg some (z6.zK _ _ _ _ _ _)).symm|exact (congrArg some (z6.zL _ _ _)).symm|(refine (congrArg some (z6.zZ ?_ _ _)).symm;intro _;rfl))) Z Z (ob':=[(0,.cells [.t (.lst (List.map Def.enc (ds))),.t (.int .i64 0),.t (.int .i64 0),.t (.str []),.t (.lst []),.t (.lst []),.t (.bool (lit)),.t (.int .i64 (c)),.t (.int .i64 (ZM 23 er))])]) (rfl) Z Z ?_
  refine fM Z ?_;refine Run.fin Z (z3.chg Z Z ?_ ?_)
  ·exact .agg (.cons (.t Z) (.cons (.t Z) (.cons (.t Z) (.cons (.nil Z) (.cons (.nil Z) .nil)))))
  ·skip;exact leSA
 ·have h1':v.kind=6:=by simpa using h1
  have hV:z3r F lit t v (c,er)=(.mk 6 0 [] ((Y6 F lit t.ze v 0 t.ze (c,z2r t.ze v.keys er)).1.map (·.2)) ((Y6 F lit t.ze v 0 t.ze (c,z2r t.ze v.keys er)).1.map (·.1)),(Y6 F lit t.ze v 0 t.ze (c,z2r t.ze v.keys er)).2):=by unfold z3r;rw [if_pos h1']
  rw [hV];generalize hE:z2r t.ze v.keys er=E;generalize hR:Y6 F lit t.ze v 0 t.ze (c,E)=R;obtain ⟨R1,R2,R3⟩:=R;refine fR Z ?_;refine zD v.keys (fun i (B:Int)=>{env:=[(0,.ptr 0 0),(3,.t (.int .i64 l)),(5,.ptr 1 0),(6,.ptr 2 0),(8,.ptr 3 0),(9,.t (.int .i64 i))],s:=⟨[(0,.cells [.t (.lst (List.map Def.enc (ds))),.t (.int .i64 0),.t (.int .i64 0),.t (.str []),.t (.lst []),.t (.lst []),.t (.bool (lit)),.t (.int .i64 (c)),.t (.int .i64 (B))]),(1,.cells [.t (.int .i64 t.kind),.t (.str t.name),.t (.lst (t.implements.map sE)),.t (.lst (t.zX.map Dir.enc)),.t (.lst (t.fields.map Field.enc)),.t (.lst (t.members.map zN.enc)),.t (.lst (t.ze.map Input.enc))]),(2,.cells [.t (.int .i64 (v).kind),.t (.int .i64 (v).int),.t (.str (v).text),.t (.lst ((v).items.map Val.enc)),.t (.lst ((v).keys.map sE))]),(3,.cells [.t (.int .i64 0),.t (.int .i64 0),.t (.str []),.zI,.zI])],4⟩}) (fun r i B=>z2r t.ze r B=E) 4 er Z hE Z Z Z ?_ ?_
  ·intro B hB;have hB':B=E:=hB;subst hB';refine fR Z ?_;refine lM Z Z Z ?_;refine fM Z ?_;refine Run.zj Z Z (by simp) ?_;refine fR Z ?_
   refine zD t.ze (fun i (B:List (Str×Val)×W2)=>{env:=[(0,.ptr 0 0),(3,.t (.int .i64 l)),(5,.ptr 1 0),(6,.ptr 2 0),(8,.ptr 3 0),(12,.ptr 4 0),(13,.t (.int .i64 i))],s:=⟨[(0,.cells [.t (.lst (List.map Def.enc (ds))),.t (.int .i64 0),.t (.int .i64 0),.t (.str []),.t (.lst []),.t (.lst []),.t (.bool (lit)),.t (.int .i64 (B.2.1)),.t (.int .i64 (B.2.2))]),(1,.cells [.t (.int .i64 t.kind),.t (.str t.name),.t (.lst (t.implements.map sE)),.t (.lst (t.zX.map Dir.enc)),.t (.lst (t.fields.map Field.enc)),.t (.lst (t.members.map zN.enc)),.t (.lst (t.ze.map Input.enc))]),(2,.cells [.t (.int .i64 (v).kind),.t (.int .i64 (v).int),.t (.str (v).text),.t (.lst ((v).items.map Val.enc)),.t (.lst ((v).keys.map sE))]),(3,.cells [.t (.int .i64 0),.t (.int .i64 0),.t (.str []),.zI,.zI]),(4,.cells [.t (.int .i64 6),.t (.int .i64 0),.t (.str []),.own 5 5 (B.1.map fun p=>p.2.enc),.own 6 1 (B.1.map fun p=>sE p.1)]),(5,.arr B.1.length),(6,.arr B.1.length)],7⟩}) (fun r i B=>B.1.length<=i/\B.1++(Y6 F lit t.ze v i r B.2).1=R1/\(Y6 F lit t.ze v i r B.2).2=(R2,R3)) 5 (([],(c,B))) Z ⟨Nat.le_refl _,by rw [hR];rfl,by rw [hR]⟩ rfl rfl rfl ?_ ?_
   ·rintro ⟨B,w1,w2⟩ ⟨_,hB,hw⟩;simp only [Y6,List.append_nil] at hB hw;obtain ⟨rfl,rfl⟩:=Prod.mk.inj hw;subst hB;refine fR Z ?_;refine lM Z Z Z ?_;refine fM Z ?_;refine Run.zj Z Z (by simp) ?_;refine fR Z ?_;refine Run.fin Z (z3.chg Z Z ?_ ?_)
    ·exact .agg (.cons (.t Z) (.cons (.t Z) (.cons (.t Z) (.cons (.own (by show _=List.map Val.enc (List.map _ _);rw [List.map_map];rfl)) (.cons (.own (by show _=List.map sE (List.map _ _);rw [List.map_map];rfl)) .nil)))))
    ·skip;exact leSA
   ·rintro i x r ⟨B,w1,w2⟩ k1 hi hd ⟨hBl,hB,hw⟩ ih;have hBl':B.length<=i:=hBl;have hxm:=zMG k1;have hxo:=ht.n x hxm;by_cases hz:w2=0
    ·subst hz;simp only [Y6,if_pos] at hB hw;refine fR Z ?_;refine lM Z Z Z ?_;refine fM Z ?_;refine Run.zm Z Z (by simp;omega) ?_;refine fR Z ?_;refine Mid.zg Z Z Z k1 Z Z ?_;refine fM Z ?_;refine Mid.call (z7L H t.ze hnl i x k1) Z Z Z Z ?_;refine fM Z ?_;refine Run.cond Z Z (fun h2=>?_) (fun h2=>?_)
     ·rw [if_pos h2] at hB hw;refine fR Z ?_;refine aL Z Z Z Z Z ?_;refine fM Z ?_;exact zn 7 Z (ih (B,(w1,0)) ⟨by simp;omega,hB,hw⟩) rfl rfl rfl
     rw [if_neg (by rw [h2];simp)] at hB hw;refine fR Z ?_;refine Mid.call (z4R H.p18 v hv x.name) Z Z Z Z ?_;refine fM Z ?_
     have hgo:((Wd v x.name).getD Val.zero).Ok:=by
      cases hg:Wd v x.name with
      |none=>exact Val.ZD
      |some y=>exact z8Z hv hg
     refine Mid.zaH [0] Z Z (fun hg=>⟨_,z2M H ds lit w1 0 ((Wd v x.name).getD Val.zero),rfl,rfl⟩) Z (by simp [zR];simp [z6.bd,V.bds,V.bd]) (by repeat' (first |exact trivial|exact rfl|refine And.intro ?_ ?_|exact (congrArg some (z6.zK _ _ _ _ _ _)).symm|exact (congrArg some (z6.zL _ _ _)).symm|(refine (congrArg some (z6.zZ ?_ _ _)).symm;intro _;rfl))) Z ?_
     refine fM Z ?_;refine Run.cond Z Z (fun ha=>?_) (fun ha=>?_)
     ·have hO:wS F lit v x (w1,0)=some (F lit x.ty ((Wd v x.name).getD Val.zero) (w1,0)):=by unfold wS;rw [if_pos ha]
      rw [hO] at hB hw;have hc:=hrec lit x.ty ((Wd v x.name).getD Val.zero) w1 0 hxo.t hgo;generalize F lit x.ty ((Wd v x.name).getD Val.zero) (w1,0)=G at hc hB hw;refine fR Z ?_;refine aL Z Z Z Z Z ?_
      refine Mid.ZI [0] (hc) Z Z Z Z (by simp [zR];simp [z6.bd,V.bds,V.bd]) (by repeat' (first |exact trivial|exact rfl|refine And.intro ?_ ?_|exact (congrArg some (z6.zK _ _ _ _ _ _)).symm|exact (congrArg some (z6.zL _ _ _)).symm|(refine (congrArg some (z6.zZ ?_ _ _)).symm;intro _;rfl))) Z Z (ob':=[(0,.cells [.t (.lst (List.map Def.enc (ds))),.t (.int .i64 0),.t (.int .i64 0),.t (.str []),.t (.lst []),.t (.lst []),.t (.bool (lit)),.t (.int .i64 (G.2.1)),.t (.int .i64 (G.2.2))])]) (rfl) Z Z ?_
      refine fM Z ?_;refine apM (fun p:Str×Val=>sE p.1) B [(x.name,G.1)] Z Z Z Z Z ?_ (h1:=by first |omega|(simp;omega)|(simp;done)) (h2:=by first |omega|(simp;omega)|(simp;done));refine fM rfl ?_;refine apM (fun p:Str×Val=>p.2.enc) B [((x.name,G.1):Str×Val)] rfl (congrArg (fun c=>some (T.lst [c])) ((fun p:Str×Val=>Val.zw p.2) ((x.name,G.1):Str×Val)).symm) rfl rfl rfl ?_ (hl:=fun x=>(congrArg List.length ((fun p:Str×Val=>Val.zw p.2) x)).trans rfl);refine fM rfl ?_;refine aL rfl rfl rfl rfl rfl ?_;refine fM rfl ?_;exact zn 7 rfl (ih (B++[(x.name,G.1)],G.2) ⟨by simp;omega,by rw [←hB];simp,hw⟩) rfl rfl rfl
     refine fR Z ?_;refine Run.cond Z Z (fun hb=>?_) (fun hb=>?_)
     ·have hO:wS F lit v x (w1,0)=some (F true x.ty x.YN (w1,0)):=by unfold wS;rw [if_neg (by rw [ha];simp),if_pos hb]
      rw [hO] at hB hw;have hc:=hpl lit x.ty x.YN w1 0 hxo.t hxo.v;generalize F true x.ty x.YN (w1,0)=G at hc hB hw;refine fR Z ?_;refine aL Z Z Z Z Z ?_
      refine Mid.ZI [0] (hc) Z Z Z Z (by simp [zR];simp [z6.bd,V.bds,V.bd]) (by repeat' (first |exact trivial|exact rfl|refine And.intro ?_ ?_|exact (congrArg some (z6.zK _ _ _ _ _ _)).symm|exact (congrArg some (z6.zL _ _ _)).symm|(refine (congrArg some (z6.zZ ?_ _ _)).symm;intro _;rfl))) Z Z (ob':=[(0,.cells [.t (.lst (List.map Def.enc (ds))),.t (.int .i64 0),.t (.int .i64 0),.t (.str []),.t (.lst []),.t (.lst []),.t (.bool (lit)),.t (.int .i64 (G.2.1)),.t (.int .i64 (G.2.2))])]) (rfl) Z Z ?_
      refine fM Z ?_;refine apM (fun p:Str×Val=>sE p.1) B [(x.name,G.1)] Z Z Z Z Z ?_ (h1:=by first |omega|(simp;omega)|(simp;done)) (h2:=by first |omega|(simp;omega)|(simp;done));refine fM rfl ?_;refine apM (fun p:Str×Val=>p.2.enc) B [((x.name,G.1):Str×Val)] rfl (congrArg (fun c=>some (T.lst [c])) ((fun p:Str×Val=>Val.zw p.2) ((x.name,G.1):Str×Val)).symm) rfl rfl rfl ?_ (hl:=fun x=>(congrArg List.length ((fun p:Str×Val=>Val.zw p.2) x)).trans rfl);refine fM rfl ?_;refine aL rfl rfl rfl rfl rfl ?_;refine fM rfl ?_;exact zn 7 rfl (ih (B++[(x.name,G.1)],G.2) ⟨by simp;omega,by rw [←hB];simp,hw⟩) rfl rfl rfl
     refine fR Z ?_;refine Mid.call (z61 H.p18.toPr13.toPr x.ty hxo.t) Z Z Z Z ?_;refine fM Z ?_;refine Run.cond Z Z (fun hn=>?_) (fun hn=>?_)
     ·have hO:wS F lit v x (w1,0)=some (Val.zero,(w1,ZM 22 0)):=by unfold wS;rw [if_neg (by rw [ha];simp),if_neg (by rw [hb];simp),if_pos hn]
      rw [hO] at hB hw;refine fR Z ?_
      refine Mid.ZI [0] (Yh H ds lit w1 0 22) Z Z Z Z (by simp [zR];simp [z6.bd,V.bds,V.bd]) (by repeat' (first |exact trivial|exact rfl|refine And.intro ?_ ?_|exact (congrArg some (z6.zK _ _ _ _ _ _)).symm|exact (congrArg some (z6.zL _ _ _)).symm|(refine (congrArg some (z6.zZ ?_ _ _)).symm;intro _;rfl))) Z Z (ob':=[(0,.cells [.t (.lst (List.map Def.enc (ds))),.t (.int .i64 0),.t (.int .i64 0),.t (.str []),.t (.lst []),.t (.lst []),.t (.bool (lit)),.t (.int .i64 (w1)),.t (.int .i64 (ZM 22 0))])]) (rfl) Z Z ?_
      refine fM Z ?_;refine apM (fun p:Str×Val=>sE p.1) B [(x.name,Val.zero)] Z Z Z Z Z ?_ (h1:=by first |omega|(simp;omega)|(simp;done)) (h2:=by first |omega|(simp;omega)|(simp;done));refine fM rfl ?_;refine apM (fun p:Str×Val=>p.2.enc) B [((x.name,Val.zero):Str×Val)] rfl (congrArg (fun c=>some (T.lst [c])) ((fun p:Str×Val=>Val.zw p.2) ((x.name,Val.zero):Str×Val)).symm) rfl rfl rfl ?_ (hl:=fun x=>(congrArg List.length ((fun p:Str×Val=>Val.zw p.2) x)).trans rfl);refine fM rfl ?_;refine aL rfl rfl rfl rfl rfl ?_;refine fM rfl ?_;exact zn 7 rfl (ih (B++[(x.name,Val.zero)],(w1,ZM 22 0)) ⟨by simp;omega,by rw [←hB];simp,hw⟩) rfl rfl rfl
     ·have hO:wS F lit v x (w1,0)=none:=by unfold wS;rw [if_neg (by rw [ha];simp),if_neg (by rw [hb];simp),if_neg (by rw [hn];simp)]
      rw [hO] at hB hw;refine fR Z ?_;refine aL Z Z Z Z Z ?_;refine fM Z ?_;exact zn 7 Z (ih (B,(w1,0)) ⟨by simp;omega,hB,hw⟩) rfl rfl rfl
    ·rw [z9G (by exact hz)] at hB hw;simp only [List.append_nil] at hB hw;obtain ⟨rfl,rfl⟩:=Prod.mk.inj hw;subst hB;refine fR Z ?_;refine lM Z Z Z ?_;refine fM Z ?_;refine Run.zj Z Z (by simp;omega) ?_;refine fR Z ?_;refine Run.fin Z (z3.chg Z Z ?_ ?_)
     ·exact .agg (.cons (.t Z) (.cons (.t Z) (.cons (.t Z) (.cons (.own (by show _=List.map Val.enc (List.map _ _);rw [List.map_map];rfl)) (.cons (.own (by show _=List.map sE (List.map _ _);rw [List.map_map];rfl)) .nil)))))
     ·skip;exact leSA
  ·intro i x r B k1 hi hd hB ih;simp only [z2r] at hB;refine fR Z ?_;refine lM Z Z Z ?_;refine fM Z ?_;refine Run.zm Z Z (by simp;omega) ?_;refine fR Z ?_;refine Mid.zg Z Z Z k1 Z Z ?_;refine fM Z ?_;refine Mid.call (W1 H.p18.toPr13.toPr t.ze hnl x) Z Z Z Z ?_;refine fM Z ?_;refine Run.cond Z Z (fun h2=>?_) (fun h2=>?_)
   ·have h2':(zV x t.ze).isSome=false:=by simpa using h2
    rw [if_neg (by rw [h2'];simp)] at hB;refine fR Z ?_
    refine Mid.ZI [0] (Yh H ds lit c B 22) Z Z Z Z (by simp [zR];simp [z6.bd,V.bds,V.bd]) (by repeat' (first |exact trivial|exact rfl|refine And.intro ?_ ?_|exact (congrArg some (z6.zK _ _ _ _ _ _)).symm|exact (congrArg some (z6.zL _ _ _)).symm|(refine (congrArg some (z6.zZ ?_ _ _)).symm;intro _;rfl))) Z Z (ob':=[(0,.cells [.t (.lst (List.map Def.enc (ds))),.t (.int .i64 0),.t (.int .i64 0),.t (.str []),.t (.lst []),.t (.lst []),.t (.bool (lit)),.t (.int .i64 (c)),.t (.int .i64 (ZM 22 B))])]) (rfl) Z Z ?_
    refine fM Z ?_;refine aL Z Z Z Z Z ?_;refine fM Z ?_;exact zn 4 Z (ih _ hB) Z Z Z
   ·have h2':(zV x t.ze).isSome=true:=by simpa using h2
    rw [if_pos h2'] at hB;refine fR Z ?_;refine aL Z Z Z Z Z ?_;refine fM Z ?_;exact zn 4 Z (ih _ hB) Z Z Z
end Go.GB.C29
namespace Go.GB.C29
open Go.GB Go.GB.C11 Go.GB.C18
variable {P:Program}
def coB (ds:List Def) (l:Int) (F:Co):Co:=fun lit t v w=>
 if z11 ds t.name=true then
  if wL l w.1 w.2=0 then
   if (if Qv lit v=true then 0 else v.kind)=0 then (Val.zero,(IntKind.i64.wrap (w.1+1),if nnF t.zr=true then ZM 23 0 else 0))
   else if Wu t.zr=true then z5O (F lit ⟨t.name,(ZC t.zr).tail⟩) v (IntKind.i64.wrap (w.1+1),0)
   else if WX t.name=true then ((z5t t.name v).getD Val.zero,(IntKind.i64.wrap (w.1+1),erO (z5t t.name v) 0))
   else if ((zf t.name ds).getD Def.zero).kind=4 then ((z63 ((zf t.name ds).getD Def.zero) lit v).getD Val.zero,(IntKind.i64.wrap (w.1+1),erO (z63 ((zf t.name ds).getD Def.zero) lit v) 0))
   else z3r F lit ((zf t.name ds).getD Def.zero) v (IntKind.i64.wrap (w.1+1),0)
  else (Val.zero,(IntKind.i64.wrap (w.1+1),wL l w.1 w.2))
 else (Val.zero,(w.1,ZM 10 w.2))
theorem z5P {e er:Int} (h:e≠0):ZM e er≠0:=by unfold ZM;split<;>assumption
theorem z73 {l c er:Int} (h:l>24):wL l c er≠0:=by
 unfold wL;rw [if_pos h];split
 ·exact z5P (by decide)
 ·exact z5P (by decide)
theorem z4u (H:PrW P) (ds:List Def) (hD:Z8 ds) (hni:∀d,d∈ds->d.ze.length<=1099511627776) (F:Co) (l:Nat) (hl:l<=100) (hrec:l<=24->CoC P ds F (l+1)):CoC P ds (coB ds l F) l:=by
 intro lit t v c er ht hv;generalize hR:coB ds l F lit t v (c,er)=R;unfold coB at hR
 have hfo:((zf t.name ds).getD Def.zero).Ok:=by
  cases hg:zf t.name ds with
  |none=>exact Def.ZD
  |some y=>exact hD.d y (ZG hg)
 have hfn:((zf t.name ds).getD Def.zero).ze.length<=1099511627776:=by
  cases hg:zf t.name ds with
  |none=>simp [Def.zero]
  |some y=>exact hni y (ZG hg)
 have hg:=z4R H.p18 Val.zero Val.ZD v.text;have hz:Wd Val.zero v.text=none:=rfl;rw [hz] at hg;refine z7.run H.i145 H.mixed Z Z ?_;refine fR Z ?_;refine Mid.call (QS H.p18.toPr13.toPr ds hD t.name) Z Z Z Z ?_;refine fM Z ?_;refine Run.cond Z Z (fun h1=>?_) (fun h1=>?_)
 ·have h1':z11 ds t.name=false:=by simpa using h1
  rw [if_neg (by rw [h1'];simp)] at hR;subst hR;refine fR Z ?_
  refine Mid.ZI [0] (Yh H ds lit c er 10) Z Z Z Z (by simp [zR];simp [z6.bd,V.bds,V.bd]) (by repeat' (first |exact trivial|exact rfl|refine And.intro ?_ ?_|exact (congrArg some (z6.zK _ _ _ _ _ _)).symm|exact (congrArg some (z6.zL _ _ _)).symm|(refine (congrArg some (z6.zZ ?_ _ _)).symm;intro _;rfl))) Z Z (ob':=[(0,.cells [.t (.lst (List.map Def.enc (ds))),.t (.int .i64 0),.t (.int .i64 0),.t (.str []),.t (.lst []),.t (.lst []),.t (.bool (lit)),.t (.int .i64 (c)),.t (.int .i64 (ZM 10 er))])]) (rfl) Z Z ?_
  refine fM Z ?_;refine Run.fin Z (z3.chg Z Z ?_ ?_)
  ·exact .agg (.cons (.t Z) (.cons (.t Z) (.cons (.t Z) (.cons (.nil Z) (.cons (.nil Z) .nil)))))
  ·skip;exact leSA
 have h1':z11 ds t.name=true:=by simpa using h1
 rw [if_pos h1'] at hR;refine fR Z ?_;refine Run.cond Z Z (fun h2=>?_) (fun h2=>?_)
 ·have hm:Qv lit v=true:=h2;rw [hm] at hR;refine fR Z ?_;refine Mid.call (hg) Z Z Z Z ?_;refine fM Z ?_;refine Run.zj Z Z (by simp [Val.zero,Val.kind]) ?_;refine fR Z ?_
  refine Mid.ZI [0] (z8y H ds lit c er l) Z Z Z Z (by simp [zR];simp [z6.bd,V.bds,V.bd]) (by repeat' (first |exact trivial|exact rfl|refine And.intro ?_ ?_|exact (congrArg some (z6.zK _ _ _ _ _ _)).symm|exact (congrArg some (z6.zL _ _ _)).symm|(refine (congrArg some (z6.zZ ?_ _ _)).symm;intro _;rfl))) Z Z (ob':=[(0,.cells [.t (.lst (List.map Def.enc (ds))),.t (.int .i64 0),.t (.int .i64 0),.t (.str []),.t (.lst []),.t (.lst []),.t (.bool (lit)),.t (.int .i64 (IntKind.i64.wrap (c+1))),.t (.int .i64 (wL l c er))])]) (rfl) Z Z ?_
  refine fM Z ?_;refine Run.cond Z Z (fun h3=>?_) (fun h3=>?_)
  ·have h3':¬ wL l c er=0:=by simpa using h3
   rw [if_neg h3'] at hR;subst hR;refine fR Z ?_;refine Run.fin Z (z3.chg Z Z ?_ ?_)
   ·exact .agg (.cons (.t Z) (.cons (.t Z) (.cons (.t Z) (.cons (.nil Z) (.cons (.nil Z) .nil)))))
   ·skip;exact leSA
  have h3':wL l c er=0:=by simpa using h3
  rw [if_pos h3'] at hR;rw [h3'];rw [if_pos rfl,if_pos rfl] at hR;refine fR Z ?_;refine Run.zm Z Z Z ?_;refine fR Z ?_;refine Mid.call (z61 H.p18.toPr13.toPr t ht) Z Z Z Z ?_;refine fM Z ?_;refine Run.cond Z Z (fun h5=>?_) (fun h5=>?_)
  ·rw [if_pos h5] at hR;subst hR;refine fR Z ?_
   refine Mid.ZI [0] (Yh H ds lit (IntKind.i64.wrap (c+1)) 0 23) Z Z Z Z (by simp [zR];simp [z6.bd,V.bds,V.bd]) (by repeat' (first |exact trivial|exact rfl|refine And.intro ?_ ?_|exact (congrArg some (z6.zK _ _ _ _ _ _)).symm|exact (congrArg some (z6.zL _ _ _)).symm|(refine (congrArg some (z6.zZ ?_ _ _)).symm;intro _;rfl))) Z Z (ob':=[(0,.cells [.t (.lst (List.map Def.enc (ds))),.t (.int .i64 0),.t (.int .i64 0),.t (.str []),.t (.lst []),.t (.lst []),.t (.bool (lit)),.t (.int .i64 (IntKind.i64.wrap (c+1))),.t (.int .i64 (ZM 23 0))])]) (rfl) Z Z ?_
   refine fM Z ?_;refine Run.fin Z (z3.chg Z Z ?_ ?_)
   ·exact .agg (.cons (.t Z) (.cons (.t Z) (.cons (.t Z) (.cons (.nil Z) (.cons (.nil Z) .nil)))))
   ·skip;exact leSA
  ·rw [if_neg (by rw [h5];simp)] at hR;subst hR;refine fR Z ?_;refine Run.fin Z (z3.chg Z Z ?_ ?_)
   ·exact .agg (.cons (.t Z) (.cons (.t Z) (.cons (.t Z) (.cons (.nil Z) (.cons (.nil Z) .nil)))))
   ·skip;exact leSA
 have hm:Qv lit v=false:=h2;rw [hm] at hR;refine fR Z ?_
 refine Mid.ZI [0] (z8y H ds lit c er l) Z Z Z Z (by simp [zR];simp [z6.bd,V.bds,V.bd]) (by repeat' (first |exact trivial|exact rfl|refine And.intro ?_ ?_|exact (congrArg some (z6.zK _ _ _ _ _ _)).symm|exact (congrArg some (z6.zL _ _ _)).symm|(refine (congrArg some (z6.zZ ?_ _ _)).symm;intro _;rfl))) Z Z (ob':=[(0,.cells [.t (.lst (List.map Def.enc (ds))),.t (.int .i64 0),.t (.int .i64 0),.t (.str []),.t (.lst []),.t (.lst []),.t (.bool (lit)),.t (.int .i64 (IntKind.i64.wrap (c+1))),.t (.int .i64 (wL l c er))])]) (rfl) Z Z ?_
 refine fM Z ?_;refine Run.cond Z Z (fun h3=>?_) (fun h3=>?_)
 ·have h3':¬ wL l c er=0:=by simpa using h3
  rw [if_neg h3'] at hR;subst hR;refine fR Z ?_;refine Run.fin Z (z3.chg Z Z ?_ ?_)
  ·exact .agg (.cons (.t Z) (.cons (.t Z) (.cons (.t Z) (.cons (.nil Z) (.cons (.nil Z) .nil)))))
  ·skip;exact leSA
 have h3':wL l c er=0:=by simpa using h3
 rw [if_pos h3'] at hR;rw [h3'];rw [if_neg (by simp:¬ (false=true))] at hR;refine fR Z ?_;refine Run.cond Z Z (fun h4=>?_) (fun h4=>?_)
 ·have h4':v.kind=0:=by simpa using h4
  rw [if_pos h4'] at hR;refine fR Z ?_;refine Mid.call (z61 H.p18.toPr13.toPr t ht) Z Z Z Z ?_;refine fM Z ?_;refine Run.cond Z Z (fun h5=>?_) (fun h5=>?_)
  ·rw [if_pos h5] at hR;subst hR;refine fR Z ?_
   refine Mid.ZI [0] (Yh H ds lit (IntKind.i64.wrap (c+1)) 0 23) Z Z Z Z (by simp [zR];simp [z6.bd,V.bds,V.bd]) (by repeat' (first |exact trivial|exact rfl|refine And.intro ?_ ?_|exact (congrArg some (z6.zK _ _ _ _ _ _)).symm|exact (congrArg some (z6.zL _ _ _)).symm|(refine (congrArg some (z6.zZ ?_ _ _)).symm;intro _;rfl))) Z Z (ob':=[(0,.cells [.t (.lst (List.map Def.enc (ds))),.t (.int .i64 0),.t (.int .i64 0),.t (.str []),.t (.lst []),.t (.lst []),.t (.bool (lit)),.t (.int .i64 (IntKind.i64.wrap (c+1))),.t (.int .i64 (ZM 23 0))])]) (rfl) Z Z ?_
   refine fM Z ?_;refine Run.fin Z (z3.chg Z Z ?_ ?_)
   ·exact .agg (.cons (.t Z) (.cons (.t Z) (.cons (.t Z) (.cons (.nil Z) (.cons (.nil Z) .nil)))))
   ·skip;exact leSA
  ·rw [if_neg (by rw [h5];simp)] at hR;subst hR;refine fR Z ?_;refine Run.fin Z (z3.chg Z Z ?_ ?_)
   ·exact .agg (.cons (.t Z) (.cons (.t Z) (.cons (.t Z) (.cons (.nil Z) (.cons (.nil Z) .nil)))))
   ·skip;exact leSA
 have h4':¬ v.kind=0:=by simpa using h4
 rw [if_neg h4'] at hR
 have hl24:l<=24:=by
  by_cases h:l<=24
  ·exact h
  ·exact absurd h3' (z73 (by omega))
 have hrc:=hrec hl24;refine fR Z ?_
 cases h6:Wu t.zr with
 |true=>
  rw [if_pos h6] at hR;refine Mid.call (WB H.p18.toPr13.toPr t ht h6) Z Z Z Z ?_;refine fM Z ?_;refine Run.zm Z Z Z ?_;refine fR Z ?_;have hto:(⟨t.name,(ZC t.zr).tail⟩:Ref).Ok:=z4K ht
  refine Mid.ZI [0] (zdw H ds F l hl hrc lit ⟨t.name,(ZC t.zr).tail⟩ hto v hv (IntKind.i64.wrap (c+1)) 0) Z Z Z Z (by simp [zR];simp [z6.bd,V.bds,V.bd]) (by repeat' (first |exact trivial|exact rfl|refine And.intro ?_ ?_|exact (congrArg some (z6.zK _ _ _ _ _ _)).symm|exact (congrArg some (z6.zL _ _ _)).symm|(refine (congrArg some (z6.zZ ?_ _ _)).symm;intro _;rfl))) Z Z (ob':=[(0,.cells [.t (.lst (List.map Def.enc (ds))),.t (.int .i64 0),.t (.int .i64 0),.t (.str []),.t (.lst []),.t (.lst []),.t (.bool (lit)),.t (.int .i64 (R.2.1)),.t (.int .i64 (R.2.2))])]) ((by rw [←hR];rfl)) Z Z ?_
  refine fM Z ?_;refine Run.fin Z (z3.chg Z Z ?_ ?_)
  ·rw [←hR];exact .agg (.cons (.t Z) (.cons (.t Z) (.cons (.t Z) (.cons (.t Z) (.cons (.t Z) .nil)))))
  ·skip;exact leSA
 |false=>
  rw [if_neg (by rw [h6];simp)] at hR;refine Mid.call (WO H.p18.toPr13.toPr t ht h6) Z Z Z Z ?_;refine fM Z ?_;refine Run.zj Z Z Z ?_;refine fR Z ?_;refine Mid.call (YT H.p18.toPr13.toPr t.name) Z Z Z Z ?_;refine fM Z ?_;refine Run.cond Z Z (fun h7=>?_) (fun h7=>?_)
  ·rw [if_pos h7] at hR;refine fR Z ?_
   refine Mid.ZI [0] (z7c H ds lit (IntKind.i64.wrap (c+1)) 0 t.name v) Z Z Z Z (by simp [zR];simp [z6.bd,V.bds,V.bd]) (by repeat' (first |exact trivial|exact rfl|refine And.intro ?_ ?_|exact (congrArg some (z6.zK _ _ _ _ _ _)).symm|exact (congrArg some (z6.zL _ _ _)).symm|(refine (congrArg some (z6.zZ ?_ _ _)).symm;intro _;rfl))) Z Z (ob':=[(0,.cells [.t (.lst (List.map Def.enc (ds))),.t (.int .i64 0),.t (.int .i64 0),.t (.str []),.t (.lst []),.t (.lst []),.t (.bool (lit)),.t (.int .i64 (R.2.1)),.t (.int .i64 (R.2.2))])]) ((by rw [←hR];rfl)) Z Z ?_
   refine fM Z ?_;refine Run.fin Z (z3.chg Z Z ?_ ?_)
   ·rw [←hR];exact .agg (.cons (.t Z) (.cons (.t Z) (.cons (.t Z) (.cons (.t Z) (.cons (.t Z) .nil)))))
   ·skip;exact leSA
  rw [if_neg (by rw [h7];simp)] at hR;refine fR Z ?_;refine Mid.call (yh H.p18.toPr13.toPr ds hD.l t.name) Z Z Z Z ?_;refine fM Z ?_;refine Run.cond Z Z (fun h8=>?_) (fun h8=>?_)
  ·have h8':((zf t.name ds).getD Def.zero).kind=4:=by simpa using h8
   rw [if_pos h8'] at hR;refine fR Z ?_
   refine Mid.ZI [0] (zds H ds lit (IntKind.i64.wrap (c+1)) 0 ((zf t.name ds).getD Def.zero) hfo v) Z Z Z Z (by simp [zR];simp [z6.bd,V.bds,V.bd]) (by repeat' (first |exact trivial|exact rfl|refine And.intro ?_ ?_|exact (congrArg some (z6.zK _ _ _ _ _ _)).symm|exact (congrArg some (z6.zL _ _ _)).symm|(refine (congrArg some (z6.zZ ?_ _ _)).symm;intro _;rfl))) Z Z (ob':=[(0,.cells [.t (.lst (List.map Def.enc (ds))),.t (.int .i64 0),.t (.int .i64 0),.t (.str []),.t (.lst []),.t (.lst []),.t (.bool (lit)),.t (.int .i64 (R.2.1)),.t (.int .i64 (R.2.2))])]) ((by rw [←hR];rfl)) Z Z ?_
   refine fM Z ?_;refine Run.fin Z (z3.chg Z Z ?_ ?_)
   ·rw [←hR];exact .agg (.cons (.t Z) (.cons (.t Z) (.cons (.t Z) (.cons (.t Z) (.cons (.t Z) .nil)))))
   ·skip;exact leSA
  ·have h8':¬ ((zf t.name ds).getD Def.zero).kind=4:=by simpa using h8
   rw [if_neg h8'] at hR;refine fR Z ?_
   refine Mid.ZI [0] (za5 H ds F l hl hrc lit ((zf t.name ds).getD Def.zero) hfo hfn v hv (IntKind.i64.wrap (c+1)) 0) Z Z Z Z (by simp [zR];simp [z6.bd,V.bds,V.bd]) (by repeat' (first |exact trivial|exact rfl|refine And.intro ?_ ?_|exact (congrArg some (z6.zK _ _ _ _ _ _)).symm|exact (congrArg some (z6.zL _ _ _)).symm|(refine (congrArg some (z6.zZ ?_ _ _)).symm;intro _;rfl))) Z Z (ob':=[(0,.cells [.t (.lst (List.map Def.enc (ds))),.t (.int .i64 0),.t (.int .i64 0),.t (.str []),.t (.lst []),.t (.lst []),.t (.bool (lit)),.t (.int .i64 (R.2.1)),.t (.int .i64 (R.2.2))])]) ((by rw [←hR];rfl)) Z Z ?_
   refine fM Z ?_;refine Run.fin Z (z3.chg Z Z ?_ ?_)
   ·rw [←hR];exact .agg (.cons (.t Z) (.cons (.t Z) (.cons (.t Z) (.cons (.t Z) (.cons (.t Z) .nil)))))
   ·skip;exact leSA
def coN (ds:List Def):Nat->Co
 |0=>coB ds 25 fun _ _ _ w=>(Val.zero,w)
 |k+1=>coB ds ((24 - k:Nat):Int) (coN ds k)
theorem zbv (H:PrW P) (ds:List Def) (hD:Z8 ds) (hni:∀d,d∈ds->d.ze.length<=1099511627776):∀(k:Nat),k<=24->CoC P ds (coN ds k) (25 - k)
 |0,_=>z4u H ds hD hni _ 25 (by omega) (fun h=>by omega)
 |k+1,hk=>by
  have h:=zbv H ds hD hni k (by omega)
  have e:25 - (k+1)=24 - k:=by omega
  rw [e]
  have e2:25 - k=24 - k+1:=by omega
  rw [e2] at h;exact z4u H ds hD hni (coN ds k) (24 - k) (by omega) (fun _=>h)
def z6N (ds:List Def) (lit:Bool) (t:Ref) (v:Val) (w:W2):Val×Int:=if (coN ds 24 lit t v w).2.2=0 then ((coN ds 24 lit t v w).1,0) else (Val.zero,(coN ds 24 lit t v w).2.2)
theorem zaJ (H:PrW P) (ds:List Def) (hD:Z8 ds) (hni:∀d,d∈ds->d.ze.length<=1099511627776) (lit:Bool) (t:Ref) (ht:t.Ok) (v:Val) (hv:v.Ok) (c er:Int):
  z7 P 138 [.ptr 0 0,t.v,v.v] ⟨[(0,.cells [.t (.lst (List.map Def.enc (ds))),.t (.int .i64 0),.t (.int .i64 0),.t (.str []),.t (.lst []),.t (.lst []),.t (.bool (lit)),.t (.int .i64 (c)),.t (.int .i64 (er))])],1⟩ {v:= .tup [(z6N ds lit t v (c,er)).1.v,.t (.int .i64 (z6N ds lit t v (c,er)).2)],ob:=[(0,.cells [.t (.lst (List.map Def.enc (ds))),.t (.int .i64 0),.t (.int .i64 0),.t (.str []),.t (.lst []),.t (.lst []),.t (.bool (lit)),.t (.int .i64 ((coN ds 24 lit t v (c,er)).2.1)),.t (.int .i64 ((coN ds 24 lit t v (c,er)).2.2))])],rd:=true}:=by
 have hc:=zbv H ds hD hni 24 (Nat.le_refl _) lit t v c er ht hv;unfold z6N;generalize coN ds 24 lit t v (c,er)=G at hc;refine z7.run H.i138 H.mixed Z Z ?_;refine fR Z ?_
 refine Mid.ZI [0] (hc) Z Z Z Z (by simp [zR];simp [z6.bd,V.bds,V.bd]) (by repeat' (first |exact trivial|exact rfl|refine And.intro ?_ ?_|exact (congrArg some (z6.zK _ _ _ _ _ _)).symm|exact (congrArg some (z6.zL _ _ _)).symm|(refine (congrArg some (z6.zZ ?_ _ _)).symm;intro _;rfl))) Z Z (ob':=[(0,.cells [.t (.lst (List.map Def.enc (ds))),.t (.int .i64 0),.t (.int .i64 0),.t (.str []),.t (.lst []),.t (.lst []),.t (.bool (lit)),.t (.int .i64 (G.2.1)),.t (.int .i64 (G.2.2))])]) (rfl) Z Z ?_
 refine fM Z ?_;refine Run.cond Z Z (fun h1=>?_) (fun h1=>?_)
 ·have h1':¬ G.2.2=0:=by simpa using h1
  rw [if_neg h1'];refine fR Z ?_;refine Run.fin Z (z3.chg Z Z ?_ ?_)
  ·exact .wM (.agg (.cons (.t Z) (.cons (.t Z) (.cons (.t Z) (.cons (.nil Z) (.cons (.nil Z) .nil)))))) (.t Z)
  ·skip;exact leSA
 ·have h1':G.2.2=0:=by simpa using h1
  rw [if_pos h1'];refine fR Z ?_;refine Run.fin Z (z3.chg Z Z ?_ ?_)
  ·exact .wM (.agg (.cons (.t Z) (.cons (.t Z) (.cons (.t Z) (.cons (.t Z) (.cons (.t Z) .nil)))))) (.t Z)
  ·skip;exact leSA
def z0T (ds:List Def) (t:Ref) (v:Val):Val×Int:=if (z11 ds t.name&&Qv true v)=true then (Val.zero,8) else z6N ds true t v (0,0)
theorem z5r (H:PrW P) (ds:List Def) (hD:Z8 ds) (hni:∀d,d∈ds->d.ze.length<=1099511627776) (t:Ref) (ht:t.Ok) (v:Val) (hv:v.Ok):
  z7 P 125 [yS ds,t.v,v.v,Val.zero.v] ⟨[],0⟩ {v:= .tup [(z0T ds t v).1.v,.t (.int .i64 (z0T ds t v).2)]}:=by
 have hr:=zaJ H ds hD hni true t ht v hv 0 0;unfold z0T;generalize z6N ds true t v (0,0)=G at hr;generalize coN ds 24 true t v (0,0)=E at hr;refine z7.run H.i125 H.mixed Z Z ?_;refine fR Z ?_;refine Mid.call (QS H.p18.toPr13.toPr ds hD t.name) Z Z Z Z ?_;refine fM Z ?_
 refine Mid.zaH [5] Z Z (fun hg=>⟨_,z2M H ds true 0 0 v,rfl,rfl⟩) Z (by simp [zR];simp [z6.bd,V.bds,V.bd]) (by repeat' (first |exact trivial|exact rfl|refine And.intro ?_ ?_|exact (congrArg some (z6.zK _ _ _ _ _ _)).symm|exact (congrArg some (z6.zL _ _ _)).symm|(refine (congrArg some (z6.zZ ?_ _ _)).symm;intro _;rfl))) Z ?_
 refine fM Z ?_;refine Run.cond Z Z (fun h1=>?_) (fun h1=>?_)
 ·rw [if_pos h1];refine fR Z ?_;refine Run.fin Z (z3.go ?_);exact .wM (.agg (.cons (.t Z) (.cons (.t Z) (.cons (.t Z) (.cons (.nil Z) (.cons (.nil Z) .nil)))))) (.t Z)
 ·rw [if_neg (by rw [h1];simp)];refine fR Z ?_
  refine Mid.ZI [5] (hr) Z Z Z Z (by simp [zR];simp [z6.bd,V.bds,V.bd]) (by repeat' (first |exact trivial|exact rfl|refine And.intro ?_ ?_|exact (congrArg some (z6.zK _ _ _ _ _ _)).symm|exact (congrArg some (z6.zL _ _ _)).symm|(refine (congrArg some (z6.zZ ?_ _ _)).symm;intro _;rfl))) Z Z (ob':=[(5,.cells [.t (.lst (List.map Def.enc (ds))),.t (.int .i64 0),.t (.int .i64 0),.t (.str []),.t (.lst []),.t (.lst []),.t (.bool (true)),.t (.int .i64 (E.2.1)),.t (.int .i64 (E.2.2))])]) (rfl) Z Z ?_
  refine fM Z ?_;refine Run.fin Z (z3.go ?_);exact .wM (.agg (.cons (.t Z) (.cons (.t Z) (.cons (.t Z) (.cons (.t Z) (.cons (.t Z) .nil)))))) (.t Z)
def qq (ds:List Def) (t:Ref) (v:Val):Val×Int:=z6N ds false t v (0,0)
theorem z6Z (H:PrW P) (ds:List Def) (hD:Z8 ds) (hni:∀d,d∈ds->d.ze.length<=1099511627776) (t:Ref) (ht:t.Ok) (v:Val) (hv:v.Ok):
  z7 P 127 [yS ds,t.v,v.v] ⟨[],0⟩ {v:= .tup [(qq ds t v).1.v,.t (.int .i64 (qq ds t v).2)]}:=by
 have hr:=zaJ H ds hD hni false t ht v hv 0 0;unfold qq;generalize z6N ds false t v (0,0)=G at hr;generalize coN ds 24 false t v (0,0)=E at hr;refine z7.run H.i127 H.mixed Z Z ?_
 refine Run.wW (f:=13) Z (by (repeat' (first |exact trivial|exact Bool.not_or_self _|exact yK _|exact yJ _|exact grd3 _ _|exact yL _ _|refine And.intro ?_ ?_|exact rfl|(simp;done)|(simp<;>omega)));done) ?_
 refine Run.Qo 5 Z (st':={env:=[(4,.ptr 1 0),(5,.ptr 2 0),(6,.ptr 3 0),(8,.ptr 4 0)],s:=⟨[(0,.cells [.t (.lst (List.map Def.enc ds))]),(1,.cells [.t (.str t.name),.t (.lst (t.zr.map nE))]),(2,.cells [.t (.int .i64 v.kind),.t (.int .i64 v.int),.t (.str v.text),.t (.lst (v.items.map Val.enc)),.t (.lst (v.keys.map sE))]),(3,.cells [.t (.int .i64 0),.t (.int .i64 0),.t (.str []),.zI,.zI]),(4,.cells [.t (.lst (List.map Def.enc (ds))),.t (.int .i64 0),.t (.int .i64 0),.t (.str []),.t (.lst []),.t (.lst []),.t (.bool (false)),.t (.int .i64 (0)),.t (.int .i64 (0))])],5⟩}) ?_ Z Z Z (by repeat' (first |exact trivial|exact LeZ.le (zLB rfl) (by first |exact LeX.t|exact LeX.top|exact LeX.same rfl|exact LeX.Zg|exact LeX.Zh|exact LeX.fowT|exact LeX.tEq (by simp))|exact LeZ.gE _ _ (zLB rfl) rfl (by first |exact List.take_length.symm|exact (List.take_of_length_le (by simp)).symm|simp) (by simp) (fun _=>rfl)|exact Or.inr ⟨zLB rfl,zLB rfl,rfl⟩|refine Or.inl ⟨zLB rfl,_,rfl,?_⟩|refine Yq.cells ?_|exact Yq.le (LeO.arr (by first |rfl|simp))|exact Yq.le (LeO.cE (by first |rfl|simp))|exact Yq.le (LeO.mE (by first |rfl|simp) (by first |exact Or.inl rfl|exact Or.inr rfl))|refine WI.cons ?_ ?_|exact WI.nil|refine And.intro ?_ ?_)) (by repeat' (first |exact trivial|exact LeZ.le (zLB rfl) (by first |exact LeX.t|exact LeX.top|exact LeX.same rfl|exact LeX.Zg|exact LeX.Zh|exact LeX.fowT|exact LeX.tEq (by simp))|exact LeZ.gE _ _ (zLB rfl) rfl (by first |exact List.take_length.symm|exact (List.take_of_length_le (by simp)).symm|simp) (by simp) (fun _=>rfl)|exact Or.inr ⟨zLB rfl,zLB rfl,rfl⟩|refine Or.inl ⟨zLB rfl,_,rfl,?_⟩|refine Yq.cells ?_|exact Yq.le (LeO.arr (by first |rfl|simp))|exact Yq.le (LeO.cE (by first |rfl|simp))|exact Yq.le (LeO.mE (by first |rfl|simp) (by first |exact Or.inl rfl|exact Or.inr rfl))|refine WI.cons ?_ ?_|exact WI.nil|refine And.intro ?_ ?_))
 refine fR Z ?_
 refine Mid.ZI [4] (hr) Z Z Z Z (by simp [zR];simp [z6.bd,V.bds,V.bd]) (by repeat' (first |exact trivial|exact rfl|refine And.intro ?_ ?_|exact (congrArg some (z6.zK _ _ _ _ _ _)).symm|exact (congrArg some (z6.zL _ _ _)).symm|(refine (congrArg some (z6.zZ ?_ _ _)).symm;intro _;rfl))) Z Z (ob':=[(4,.cells [.t (.lst (List.map Def.enc (ds))),.t (.int .i64 0),.t (.int .i64 0),.t (.str []),.t (.lst []),.t (.lst []),.t (.bool (false)),.t (.int .i64 (E.2.1)),.t (.int .i64 (E.2.2))])]) (rfl) Z Z ?_
 refine fM Z ?_;refine Run.fin Z (z3.go ?_);exact .wM (.agg (.cons (.t Z) (.cons (.t Z) (.cons (.t Z) (.cons (.t Z) (.cons (.t Z) .nil)))))) (.t Z)
end Go.GB.C29
namespace Go.GB.C11
open Go.GB
variable {P:Program}
theorem z9u (H:Pr P) (ds:List Def) (hD:Z8 ds) (hil:∀o,o∈ds->o.ze.length<=2199023255552) (q:Bool) (ht:(Yi ds q).length<=4398046511104):z7 P 63 [yS ds,.t (.bool q)] ⟨[],0⟩ {v:= .own 1 2 ((Yi ds q).map zk.enc),ob:=[(1,.arr (Yi ds q).length)],n:=2}:=by
 have hdl:=hD.l;have hT:z4Y ds 0 ds++z6o ds q=Yi ds q:=rfl;generalize Yi ds q=tot at ht hT;refine z7.run H.i63 H.mixed Z Z ?_;refine fR Z ?_;refine zD ds (fun i (B:List zk)=>{env:=[(1,.t (.bool q)),(2,.ptr 0 0),(5,.own 1 2 (B.map zk.enc)),(6,.t (.int .i64 i))],s:=⟨[(0,.cells [.t (.lst (ds.map Def.enc))]),(1,.arr B.length)],2⟩}) (fun r i B=>B++z4Y ds i r++z6o ds q=tot) 1 [] Z (by simpa using hT) Z Z Z ?_ ?_
 ·rintro B hB;simp only [z4Y,List.append_nil] at hB;have hlen:=congrArg List.length hB;simp only [List.length_append] at hlen;refine fR Z ?_;refine lM Z Z Z ?_;refine fM Z ?_;refine Run.zj Z Z (by simp) ?_;refine fR Z ?_;refine Mid.call (yh H ds hD.l QK) Z Z Z Z ?_;refine fM Z ?_;refine Run.cond Z Z (fun hc=>?_) (fun hc=>?_)
  ·have hc':z6o ds q=[⟨30,QK⟩]:=by unfold z6o;rw [if_pos (show (q&&!(zf QK ds).isSome)=true from hc)]
   rw [hc'] at hB hlen;simp only [List.length_cons,List.length_nil] at hlen;refine fR Z ?_;refine apM zk.enc B [(⟨30,QK⟩:zk)] Z Z Z Z Z ?_ (h1:=by first |omega|(simp;omega)|(simp;done)) (h2:=by first |omega|(simp;omega)|(simp;done));refine fM rfl ?_;subst hB;refine Run.fin rfl (z3.chg rfl rfl ?_ ?_)
   ·exact .le (.same Z)
   ·exact leSA
  ·have hc':z6o ds q=[]:=by unfold z6o;rw [if_neg (by rw [show (q&&!(zf QK ds).isSome)=false from hc];simp)]
   rw [hc'] at hB;refine fR Z ?_;rw [List.append_nil] at hB;subst hB;refine Run.fin Z (z3.chg Z Z ?_ ?_)
   ·exact .le (.same Z)
   ·exact leSA
 ·rintro i d r B h1 hi hdr hB ih;have hd:=hD.d d (zMG h1);have hnm:=hd.nm;have hnl:=hd.nl;simp only [z4Y] at hB;have hlen:=congrArg List.length hB;simp only [List.length_append] at hlen;refine fR Z ?_;refine lM Z Z Z ?_;refine fM Z ?_;refine Run.zm Z Z (by simp;omega) ?_;refine fR Z ?_;refine Mid.zg Z Z Z h1 Z Z ?_;refine fM Z ?_;refine Mid.call (zaG H ds hD hil i d h1) Z Z Z Z ?_;skip;generalize YW ds i d=W at hB hlen;refine apM zk.enc B W Z Z Z Z Z ?_ (h1:=by first |omega|(simp;omega)|(simp;done)) (h2:=by first |omega|(simp;omega)|(simp;done));refine fM rfl ?_;unfold zcW at hB hlen;refine Run.cond rfl rfl (fun k1=>?_) (fun k1=>?_)
  ·have k1':d.kind=1:=by simpa using k1
   rw [if_pos k1'] at hB hlen;skip;refine Run.zm Z Z k1 ?_;refine fR Z ?_;refine Mid.call (qX H ds hD d hd (by omega)) Z Z Z Z ?_;skip;generalize z0f ds d.name [] d.fields=M at hB hlen;refine apM zk.enc (B++W) M Z Z Z Z Z ?_ (h1:=by first |omega|(simp;omega)|(simp;done)) (h2:=by first |omega|(simp;omega)|(simp;done));refine fM rfl ?_;refine aL rfl rfl rfl rfl rfl ?_;refine fM rfl ?_;exact zn 2 rfl (ih (B++W++M) (by rw [←hB];simp)) rfl rfl rfl
  ·have k1':¬ d.kind=1:=by simpa using k1
   rw [if_neg k1'] at hB hlen;refine fR Z ?_;refine Run.cond Z Z (fun k2=>?_) (fun k2=>?_)
   ·have k2':d.kind=2:=by simpa using k2
    rw [if_pos k2'] at hB hlen;refine fR Z ?_;refine Mid.call (qX H ds hD d hd (by omega)) Z Z Z Z ?_;skip;generalize z0f ds d.name [] d.fields=M at hB hlen;refine apM zk.enc (B++W) M Z Z Z Z Z ?_ (h1:=by first |omega|(simp;omega)|(simp;done)) (h2:=by first |omega|(simp;omega)|(simp;done));refine fM rfl ?_;refine aL rfl rfl rfl rfl rfl ?_;refine fM rfl ?_;exact zn 2 rfl (ih (B++W++M) (by rw [←hB];simp)) rfl rfl rfl
   ·have k2':¬ d.kind=2:=by simpa using k2
    rw [if_neg k2'] at hB hlen;refine fR Z ?_;refine Run.cond Z Z (fun k4=>?_) (fun k4=>?_)
    ·have k4':d.kind=4:=by simpa using k4
     rw [if_pos k4'] at hB hlen;refine fR Z ?_;refine Mid.call (WR H d hd (by omega)) Z Z Z Z ?_;skip;generalize z1B d.name [] d.members=M at hB hlen;refine apM zk.enc (B++W) M Z Z Z Z Z ?_ (h1:=by first |omega|(simp;omega)|(simp;done)) (h2:=by first |omega|(simp;omega)|(simp;done));refine fM rfl ?_;refine aL rfl rfl rfl rfl rfl ?_;refine fM rfl ?_;exact zn 2 rfl (ih (B++W++M) (by rw [←hB];simp)) rfl rfl rfl
    ·have k4':¬ d.kind=4:=by simpa using k4
     rw [if_neg k4'] at hB hlen;refine fR Z ?_;refine Run.cond Z Z (fun k5=>?_) (fun k5=>?_)
     ·have k5':d.kind=5:=by simpa using k5
      rw [if_pos k5'] at hB hlen;refine fR Z ?_;refine pu Z ?_;refine Mid.call (YX H ds hD d.ze hnl hd.n (d.name++[46]) [] (by simp;omega) (by decide) (by omega)) Z Z Z Z ?_;skip;generalize inF ds (d.name++[46]) [] [] d.ze=M at hB hlen;refine apM zk.enc (B++W) M Z Z Z Z Z ?_ (h1:=by first |omega|(simp;omega)|(simp;done)) (h2:=by first |omega|(simp;omega)|(simp;done));refine fM rfl ?_;refine aL rfl rfl rfl rfl rfl ?_;refine fM rfl ?_;exact zn 2 rfl (ih (B++W++M) (by rw [←hB];simp)) rfl rfl rfl
     ·have k5':¬ d.kind=5:=by simpa using k5
      rw [if_neg k5'] at hB hlen;refine fR Z ?_;refine aL Z Z Z Z Z ?_;refine fM Z ?_;exact zn 2 Z (ih (B++W) (by rw [←hB];simp)) Z Z Z
end Go.GB.C11
namespace Go.GB.C29
open Go.GB Go.GB.C11 Go.GB.C18
structure PrS (P:Program):Prop where
 w:PrW P
 mixed:P.follows .mixedOrders=true
 i36:zd P 36=some (n36,c36.bare,r36)
 i65:zd P 65=some (n65,c65.bare,r65)
variable {P:Program}
def z4V (ds:List Def) (pl op en:Str) (x:Input):List zk:=if x.has=true then (if (z0T ds x.ty x.YN).2=0 then [] else [⟨23,pl++op++x.name++en⟩]) else []
def QN (ds:List Def) (pl op en:Str):List Input->List zk
 |[]=>[]
 |x::r=>z4V ds pl op en x++QN ds pl op en r
theorem zaW (ds:List Def) (pl op en:Str) (x:Input):(z4V ds pl op en x).length<=1:=by
 unfold z4V;split<;>try split
 all_goals simp
theorem z1X (ds:List Def) (pl op en:Str):∀l:List Input,(QN ds pl op en l).length<=l.length
 |[]=>by simp [QN]
 |x::r=>by
  have:=z1X ds pl op en r;have:=zaW ds pl op en x;simp only [QN,List.length_append,List.length_cons];omega
theorem z1h (H:PrW P) (ds:List Def) (hD:Z8 ds) (hni:∀d,d∈ds->d.ze.length<=1099511627776) (l:List Input) (hl:l.length<=1099511627776) (ho:∀x,x∈l->x.Ok) (pl op en:Str) (h1:pl.length<=1000000000000000) (h2:op.length<=10) (h3:en.length<=10):
  z7 P 97 [yS ds,.t (.lst (l.map Input.enc)),.t (.str pl),.t (.str op),.t (.str en)] ⟨[],0⟩ {v:= .t (.lst ((QN ds pl op en l).map zk.enc))}:=by
 generalize hR:QN ds pl op en l=R;refine z7.run H.i97 H.mixed Z Z ?_;refine fR Z ?_;refine zD l (fun i (B:List zk)=>{env:=[(1,.t (.lst (l.map Input.enc))),(2,.t (.str pl)),(3,.t (.str op)),(4,.t (.str en)),(5,.ptr 0 0),(11,.own 1 2 (B.map zk.enc)),(12,.t (.int .i64 i))],s:=⟨[(0,.cells [.t (.lst (ds.map Def.enc))]),(1,.arr B.length)],2⟩}) (fun r i B=>B.length<=i/\B++QN ds pl op en r=R) 1 [] Z ⟨Nat.le_refl _,hR⟩ Z Z Z ?_ ?_
 ·rintro B ⟨_,hB⟩;simp only [QN,List.append_nil] at hB;refine fR Z ?_;refine lM Z Z Z ?_;refine fM Z ?_;refine Run.zj Z Z (by simp) ?_;refine fR Z ?_;refine Run.fin Z (z3.go ?_);exact .own (by rw [hB])
 ·rintro i x r B k1 hi hd ⟨hBl,hB⟩ ih;have hBl':B.length<=i:=hBl;have hxo:=ho x (zMG k1);have hxn:=hxo.nm;simp only [QN] at hB;refine fR Z ?_;refine lM Z Z Z ?_;refine fM Z ?_;refine Run.zm Z Z (by simp;omega) ?_;refine fR Z ?_;refine Mid.zg Z Z Z k1 Z Z ?_;refine fM Z ?_;refine Run.cond Z Z (fun h4=>?_) (fun h4=>?_)
  ·have h4':x.has=false:=by simpa using h4
   have e:z4V ds pl op en x=[]:=by unfold z4V;rw [if_neg (by rw [h4'];simp)]
   rw [e,List.nil_append] at hB;refine fR Z ?_;refine aL Z Z Z Z Z ?_;refine fM Z ?_;exact zn 2 Z (ih B ⟨by omega,hB⟩) rfl rfl rfl
  have h4':x.has=true:=by simpa using h4
  refine fR Z ?_;refine Mid.zg Z Z Z k1 Z Z ?_;refine fM Z ?_;refine Mid.zg Z Z Z k1 Z Z ?_;refine fM Z ?_;refine Mid.call (z5r H ds hD hni x.ty hxo.t x.YN hxo.v) Z Z Z Z ?_;refine fM Z ?_;refine Run.cond Z Z (fun h5=>?_) (fun h5=>?_)
  ·have h5':¬ (z0T ds x.ty x.YN).2=0:=by simpa using h5
   have e:z4V ds pl op en x=[⟨23,pl++op++x.name++en⟩]:=by unfold z4V;rw [if_pos h4',if_neg h5']
   rw [e] at hB;refine fR Z ?_;refine pu Z ?_;refine fM Z ?_;refine Mid.zg Z Z Z k1 Z Z ?_;refine fM Z ?_;refine pu Z ?_;refine fM Z ?_;refine pu Z ?_;refine fM Z ?_;refine apM zk.enc B [(⟨23,pl++op++x.name++en⟩:zk)] Z Z Z Z Z ?_ (h1:=by first |omega|(simp;omega)|(simp;done)) (h2:=by first |omega|(simp;omega)|(simp;done));refine fM rfl ?_;refine aL rfl rfl rfl rfl rfl ?_;refine fM rfl ?_;exact zn 2 rfl (ih (B++[⟨23,pl++op++x.name++en⟩]) ⟨by simp;omega,by rw [←hB];simp⟩) rfl rfl rfl
  ·have h5':(z0T ds x.ty x.YN).2=0:=by simpa using h5
   have e:z4V ds pl op en x=[]:=by unfold z4V;rw [if_pos h4',if_pos h5']
   rw [e,List.nil_append] at hB;refine fR Z ?_;refine aL Z Z Z Z Z ?_;refine fM Z ?_;exact zn 2 Z (ih B ⟨by omega,hB⟩) rfl rfl rfl
def z0q (ds:List Def) (t:Str):List Field->List zk
 |[]=>[]
 |f::r=>QN ds (t++[46]++f.name) [40] [41] f.args++z0q ds t r
def wQ (ds:List Def):List Def->List zk
 |[]=>[]
 |d::r=>z0q ds d.name d.fields++QN ds d.name [46] [] d.ze++wQ ds r
theorem z5m (H:PrS P) (ds:List Def) (hD:Z8 ds) (hni:∀d,d∈ds->d.ze.length<=1099511627776) (hnf:∀d,d∈ds->∀f,f∈d.fields->f.args.length<=1099511627776) (hl:(wQ ds ds).length<=4398046511104):
  z7 P 65 [yS ds] ⟨[],0⟩ {v:= .t (.lst ((wQ ds ds).map zk.enc))}:=by
 have hdl:=hD.l;generalize hR:wQ ds ds=R at hl;refine z7.run H.i65 H.mixed Z Z ?_;refine fR Z ?_;refine zD ds (fun i (B:List zk)=>{env:=[(1,.ptr 0 0),(3,.own 1 2 (B.map zk.enc)),(4,.t (.int .i64 i))],s:=⟨[(0,.cells [.t (.lst (ds.map Def.enc))]),(1,.arr B.length)],2⟩}) (fun r i B=>B++wQ ds r=R) 1 [] Z hR Z Z Z ?_ ?_
 ·rintro B hB;simp only [wQ,List.append_nil] at hB;refine fR Z ?_;refine lM Z Z Z ?_;refine fM Z ?_;refine Run.zj Z Z (by simp) ?_;refine fR Z ?_;refine Run.fin Z (z3.go ?_);exact .own (by rw [hB])
 ·rintro i t r B k1 hi hd hB ih;have htm:=zMG k1;have hto:=hD.d t htm;have htn:=hto.nm;have htfl:=hto.fl;have htnl:=hni t htm;simp only [wQ] at hB;refine fR Z ?_;refine lM Z Z Z ?_;refine fM Z ?_;refine Run.zm Z Z (by simp;omega) ?_;refine fR Z ?_;refine Mid.zg Z Z Z k1 Z Z ?_;refine fM Z ?_;generalize hS:B++z0q ds t.name t.fields=S;refine zD t.fields (fun j (C:List zk)=>{env:=[(1,.ptr 0 0),(3,.own 1 2 (C.map zk.enc)),(4,.t (.int .i64 i)),(5,.ptr 2 0),(6,.t (.int .i64 j))],s:=⟨[(0,.cells [.t (.lst (ds.map Def.enc))]),(1,.arr C.length),(2,.cells [.t (.int .i64 t.kind),.t (.str t.name),.t (.lst (t.implements.map sE)),.t (.lst (t.zX.map Dir.enc)),.t (.lst (t.fields.map Field.enc)),.t (.lst (t.members.map zN.enc)),.t (.lst (t.ze.map Input.enc))])],3⟩}) (fun r j C=>C++z0q ds t.name r=S) 3 B Z hS Z Z Z ?_ ?_
  ·rintro C hC;simp only [z0q,List.append_nil] at hC;subst hC
   have hB':C++QN ds t.name [46] [] t.ze++wQ ds r=R:=by rw [←hB,←hS];simp
   have hlen:=congrArg List.length hB';simp only [List.length_append] at hlen;refine fR Z ?_;refine lM Z Z Z ?_;refine fM Z ?_;refine Run.zj Z Z (by simp) ?_;refine fR Z ?_;refine Mid.call (z1h H.w ds hD hni t.ze htnl hto.n t.name [46] [] (by omega) (by simp) (by simp)) Z Z Z Z ?_;skip;refine apM zk.enc C (QN ds t.name [46] [] t.ze) Z Z Z Z Z ?_ (h1:=by first |omega|(simp;omega)|(simp;done)) (h2:=by first |omega|(simp;omega)|(simp;done));refine fM rfl ?_;refine aL rfl rfl rfl rfl rfl ?_;refine fM rfl ?_;exact zn 2 rfl (ih _ hB') rfl rfl rfl
  ·rintro j f r2 C j1 hj hd2 hC ih2;have hfm:=zMG j1;have hfo:=hto.f f hfm;have hfn:=hfo.nm;simp only [z0q] at hC;have hlen:=congrArg List.length hC;have hlen2:=congrArg List.length hS;have hlen3:=congrArg List.length hB;simp only [List.length_append] at hlen hlen2 hlen3;refine fR Z ?_;refine lM Z Z Z ?_;refine fM Z ?_;refine Run.zm Z Z (by simp;omega) ?_;refine fR Z ?_;refine Mid.zg Z Z Z j1 Z Z ?_;refine fM Z ?_;refine pu Z ?_;refine fM Z ?_;refine Mid.zg Z Z Z j1 Z Z ?_;refine fM Z ?_;refine pu Z ?_;refine Mid.call (z1h H.w ds hD hni f.args (hnf t htm f hfm) hfo.a (t.name++[46]++f.name) [40] [41] (by simp;omega) (by simp) (by simp)) Z Z Z Z ?_;skip;refine apM zk.enc C (QN ds (t.name++[46]++f.name) [40] [41] f.args) Z Z Z Z Z ?_ (h1:=by first |omega|(simp;omega)|(simp;done)) (h2:=by first |omega|(simp;omega)|(simp;done));refine fM rfl ?_;refine aL rfl rfl rfl rfl rfl ?_;refine fM rfl ?_;exact zn 3 rfl (ih2 (C++QN ds (t.name++[46]++f.name) [40] [41] f.args) (by rw [←hC];simp)) rfl rfl rfl
def z9K (ds:List Def):List zk:=if (Yi ds true).length=0 then WS ds++wQ ds ds else Yi ds true
theorem zah (H:PrS P) (ds:List Def) (hD:Z8 ds) (hni:∀d,d∈ds->d.ze.length<=1099511627776) (hnf:∀d,d∈ds->∀f,f∈d.fields->f.args.length<=1099511627776) (h1:(Yi ds true).length<=4398046511104) (h2:(WS ds).length<=4398046511104) (h3:(wQ ds ds).length<=1000000000000):
  z7 P 36 [yS ds] ⟨[],0⟩ {v:= .t (.lst ((z9K ds).map zk.enc))}:=by
 generalize hR:z9K ds=R;unfold z9K at hR;refine z7.run H.i36 H.mixed Z Z ?_;refine fR Z ?_
 refine Mid.z8K [] (z9u H.w.p18.toPr13.toPr ds hD (fun o ho=>by have:=hni o ho;omega) true h1) rfl rfl rfl rfl (by simp [zR]) (by repeat' (first |exact trivial|exact rfl|refine And.intro ?_ ?_|exact (congrArg some (z6.zK _ _ _ _ _ _)).symm|exact (congrArg some (z6.zL _ _ _)).symm|(refine (congrArg some (z6.zZ ?_ _ _)).symm;intro _;rfl))) rfl rfl (ob':=[(2,.arr (Yi ds true).length)]) (rfl) rfl rfl ?_
 refine fM Z ?_;refine lM Z Z Z ?_;refine fM Z ?_;refine Run.cond Z Z (fun h4=>?_) (fun h4=>?_)
 ·have h4':¬ (Yi ds true).length=0:=by have:=zDT h4;omega
  rw [if_neg h4'] at hR;subst hR;refine fR Z ?_;refine Run.fin Z (z3.go ?_);exact .own Z
 ·have h4':(Yi ds true).length=0:=by have:=of_decide_eq_false h4;omega
  have h5:Yi ds true=[]:=List.length_eq_zero_iff.1 h4';rw [if_pos h4'] at hR;subst hR;rw [h5];refine fR Z ?_;refine Mid.call (z9q H.w.p18.toPr13 ds hD (by omega)) Z Z Z Z ?_;skip;refine apM zk.enc ([]:List zk) (WS ds) Z Z Z Z Z ?_ (h1:=by first |omega|(simp;omega)|(simp;done)) (h2:=by first |omega|(simp;omega)|(simp;done));refine fM rfl ?_;refine Mid.call (z5m H ds hD hni hnf (by omega)) rfl rfl rfl rfl ?_;skip;refine apM zk.enc ([]++WS ds) (wQ ds ds) rfl rfl rfl rfl rfl ?_ (h1:=by first |omega|(simp;omega)|(simp;done)) (h2:=by first |omega|(simp;omega)|(simp;done));refine fM rfl ?_;refine Run.fin rfl (z3.go ?_);exact .own rfl
end Go.GB.C29
namespace Go.GB.C35
open Go.GB
structure Pr (P:Program):Prop where
 mixed:P.follows .mixedOrders=true
 i130:zd P 130=some (n130,c130.bare,r130)
 i31:zd P 31=some (n31,c31.bare,r31)
 i55:zd P 55=some (n55,c55.bare,r55)
 i155:zd P 155=some (n155,c155.bare,r155)
 i147:zd P 147=some (n147,c147.bare,r147)
 i70:zd P 70=some (n70,c70.bare,r70)
 i76:zd P 76=some (n76,c76.bare,r76)
 i77:zd P 77=some (n77,c77.bare,r77)
 i78:zd P 78=some (n78,c78.bare,r78)
variable {P:Program}
end Go.GB.C35
namespace Go.GB.C35
open Go.GB
variable {P:Program}
def qd (a b:Int):Int:=if a<b then -1 else if a>b then 1 else 0
def z0V (a b:Str):Int:=if Op.bytesLess a b=true then -1 else if a=b then 0 else 1
theorem qn:∀s:List UInt8,Op.bytesLess s s=false
 |[]=>rfl
 |a::r=>by simp [Op.bytesLess,qn r]
theorem za3 {a b:Str}:z0V a b=0↔a=b:=by
 unfold z0V;constructor
 ·intro h;split at h
  ·omega
  ·split at h
   ·assumption
   ·omega
 ·rintro rfl;simp [qn]
theorem nz {p q:Int}:(if p≠0 then p else q)=0↔p=0/\q=0:=by
 by_cases h:p=0
 ·simp [h]
 ·simp [h]
def qH (l:List Str) (i:Nat):Str:=(l[i]?).getD []
mutual
def z1z (c:Str->Str->Int):Val->Val->Int
 | .mk k i t its ks,b=>if qd k b.kind≠0 then qd k b.kind else if qd i b.int≠0 then qd i b.int else if c t b.text≠0 then c t b.text else wR c its b.items ks b.keys 0 (qd its.length b.items.length)
def wR (c:Str->Str->Int):List Val->List Val->List Str->List Str->Nat->Int->Int
 |[],_,_,_,_,z=>z
 |x::r,l,ka,kb,j,z=>
  match l with
  |[]=>z
  |y::s=>if c (qH ka j) (qH kb j)≠0 then c (qH ka j) (qH kb j) else if z1z c x y≠0 then z1z c x y else wR c r s ka kb (j+1) z
end
theorem z4S (c:Str->Str->Int) (a b:Val):z1z c a b=if qd a.kind b.kind≠0 then qd a.kind b.kind else if qd a.int b.int≠0 then qd a.int b.int else if c a.text b.text≠0 then c a.text b.text else wR c a.items b.items a.keys b.keys 0 (qd a.items.length b.items.length):=by
 cases a;rfl
def z8d (a b:Str):Int:=if a=b then 0 else 1
theorem z7Z {a b:Str}:z8d a b=0↔a=b:=by unfold z8d;split<;>simp_all
def z88 (a b:Val):Bool:=decide (z1z z8d a b=0)
theorem z95 {c d:Str->Str->Int} (hc:∀{a b},c a b=0↔a=b) (hd:∀{a b},d a b=0↔a=b):∀k:Nat,(∀a b:Val,SizeOf.sizeOf a<=k->(z1z c a b=0↔z1z d a b=0))/\
  ∀(l m:List Val) (ka kb:List Str) (j:Nat) (z:Int),SizeOf.sizeOf l<=k->(wR c l m ka kb j z=0↔wR d l m ka kb j z=0)
 |0=>⟨fun a b h=>by cases a;simp at h,fun l m ka kb j z h=>by cases l<;>simp at h⟩
 |k+1=>by
  have ih:=z95 (c:=c) (d:=d) hc hd k;have hcd:∀a b,c a b=0↔d a b=0:=fun a b=>hc.trans hd.symm;refine ⟨fun a b h=>?_,fun l m ka kb j z h=>?_⟩
  ·have h2:=ih.2 a.items b.items a.keys b.keys 0 (qd a.items.length b.items.length) (by cases a;simp only [Val.items];simp only [Val.mk.sizeOf_spec] at h;omega);rw [z4S,z4S];simp only [nz,h2,hcd]
  ·cases l with
   |nil=>simp [wR]
   |cons x r=>
    cases m with
    |nil=>simp [wR]
    |cons y s=>
     have h1:=ih.1 x y (by simp only [List.cons.sizeOf_spec] at h;omega);have h2:=ih.2 r s ka kb (j+1) z (by simp only [List.cons.sizeOf_spec] at h;omega);simp only [wR,nz,h1,h2,hcd]
theorem zcC {c:Str->Str->Int} (hc:∀{a b},c a b=0↔a=b) (a b:Val):(z1z c a b==0)=z88 a b:=by
 have:=(z95 (c:=c) (d:=z8d) hc z7Z _).1 a b (Nat.le_refl _);rw [Bool.eq_iff_iff];simp [z88,this]
theorem z4v (H:Pr P) (a b:Int):z7 P 76 [.t (.int .i64 a),.t (.int .i64 b)] ⟨[],0⟩ {v:= .t (.int .i64 (qd a b))}:=by
 refine z7.run H.i76 H.mixed Z Z ?_;refine fR Z ?_;by_cases h1:a<b
 ·refine Run.zm Z Z (by simp [h1]) ?_;refine fR Z ?_;refine Run.fin Z (z3.go ?_);exact .t (by simp [qd,h1])
 ·refine Run.zj Z Z (by simp;omega) ?_;refine fR Z ?_;by_cases h2:b<a
  ·refine Run.zm Z Z (by simp [h2]) ?_;refine fR Z ?_;refine Run.fin Z (z3.go ?_);exact .t (by simp [qd,h1,h2])
  ·refine Run.zj Z Z (by simp;omega) ?_;refine fR Z ?_;refine Run.fin Z (z3.go ?_);exact .t (by simp [qd,h1,h2])
theorem z24 (H:Pr P) (a b:Str):z7 P 77 [.t (.str a),.t (.str b)] ⟨[],0⟩ {v:= .t (.int .i64 (z0V a b))}:=by
 refine z7.run H.i77 H.mixed Z Z ?_;refine fR Z ?_;by_cases h1:Op.bytesLess a b=true
 ·refine Run.zm Z Z h1 ?_;refine fR Z ?_;refine Run.fin Z (z3.go ?_);exact .t (by simp [z0V,h1])
 ·refine Run.zj Z Z (by simpa using h1) ?_;refine fR Z ?_;by_cases h2:a=b
  ·refine Run.zj Z Z (by simp [h1,h2]) ?_;refine fR Z ?_;refine Run.fin Z (z3.go ?_);exact .t (by simp [z0V,h2,qn])
  ·refine Run.zm Z Z (by simp [h1,h2]) ?_;refine fR Z ?_;refine Run.fin Z (z3.go ?_);exact .t (by simp [z0V,h1,h2])
theorem z2l (H:Pr P) (v:Val) (hv:v.Ok) (i:Nat) (hi:i<=140737488355328):z7 P 78 [v.v,.t (.int .i64 i)] ⟨[],0⟩ {v:= .t (.str (qH v.keys i))}:=by
 have hkl:=hv.kl;refine z7.run H.i78 H.mixed Z Z ?_;refine fR Z ?_;refine lM Z Z Z ?_;refine fM Z ?_;refine Run.cond Z Z (fun h=>?_) (fun h=>?_)
 ·have h':i<v.keys.length:=by simpa using h
  have h1:v.keys[i]?=some (v.keys[i]'h'):=by simp
  have hk:qH v.keys i=v.keys[i]'h':=by simp [qH,h1]
  generalize v.keys[i]'h'=x at h1 hk;refine fR Z ?_;refine Mid.zg Z Z Z h1 Z Z ?_;refine fM Z ?_;refine Run.fin Z (z3.go ?_);exact .t (by simp [hk])
 ·have h':¬ i<v.keys.length:=by simpa using h
  have hk:qH v.keys i=[]:=by simp [qH,List.getElem?_eq_none (Nat.le_of_not_lt h')]
  refine fR Z ?_;refine Run.fin Z (z3.go ?_);exact .t (by simp [hk])
end Go.GB.C35
namespace Go.GB.C35
open Go.GB
variable {P:Program}
theorem Qe {α:Type} {l:List α} {i:Nat} {x:α} (h:l[i]?=some x):l.drop i=x::l.drop (i+1):=by
 obtain ⟨h1,rfl⟩:=List.getElem?_eq_some_iff.1 h;exact List.drop_eq_getElem_cons h1
theorem z9O {c:Str->Str->Int} {l m:List Val} {ka kb:List Str} {j:Nat} {z:Int} (h:l=[]∨m=[]):wR c l m ka kb j z=z:=by
 rcases h with rfl|rfl
 ·simp [wR]
 ·cases l<;>simp [wR]
theorem zcH {l m:List Val} {i:Nat} (h:i=(l.zip m).length):l.drop i=[]∨m.drop i=[]:=by
 simp only [List.length_zip] at h;by_cases h2:l.length<=m.length
 ·exact .inl (List.drop_eq_nil_of_le (by omega))
 ·exact .inr (List.drop_eq_nil_of_le (by omega))
theorem zbg {c:Str->Str->Int} {l m:List Val} {ka kb:List Str} {i:Nat} {z:Int} {x y:Val} (h1:l[i]?=some x) (h2:m[i]?=some y):wR c (l.drop i) (m.drop i) ka kb i z=if c (qH ka i) (qH kb i)≠0 then c (qH ka i) (qH kb i) else if z1z c x y≠0 then z1z c x y else wR c (l.drop (i+1)) (m.drop (i+1)) ka kb (i+1) z:=by
 rw [Qe h1,Qe h2];simp only [wR]
def zbD (P:Program) (a:Val):Prop:=∀b:Val,b.Ok->z7 P 55 [a.v,b.v] ⟨[],0⟩ {v:= .t (.int .i64 (z1z z0V a b))}
theorem z9Y (H:Pr P) (a:Val) (ha:a.Ok) (hrec:∀x,x∈a.items->zbD P x):zbD P a:=by
 intro b hb;have hil:=ha.il;have hil2:=hb.il;have hk:=z4v H a.kind b.kind;have hi:=z4v H a.int b.int;have ht:=z24 H a.text b.text;have hz:=z4v H (a.items.length:Nat) (b.items.length:Nat);have hR:=z4S z0V a b;generalize z1z z0V a b=R at hR⊢;refine z7.run H.i55 H.mixed Z Z ?_;refine fR Z ?_;by_cases h1:qd a.kind b.kind=0
 ·rw [h1] at hk hR;rw [if_neg (by simp)] at hR;refine Mid.call (hk) Z Z Z Z ?_;refine fM Z ?_;refine Run.zm Z Z Z ?_;refine fR Z ?_;by_cases h2:qd a.int b.int=0
  ·rw [h2] at hi hR;rw [if_neg (by simp)] at hR;refine Mid.call (hi) Z Z Z Z ?_;refine fM Z ?_;refine Run.zm Z Z Z ?_;refine fR Z ?_;by_cases h3:z0V a.text b.text=0
   ·rw [h3] at ht hR;rw [if_neg (by simp)] at hR;generalize qd (a.items.length:Nat) (b.items.length:Nat)=z at hz hR;refine Mid.call (ht) Z Z Z Z ?_;refine fM Z ?_;refine zD (a.items.zip b.items) (fun i (_:Unit)=>{env:=[(2,.ptr 0 0),(3,.ptr 1 0),(5,.t (.int .i64 0)),(6,.t (.int .i64 i))],s:=⟨[(0,.cells [.t (.int .i64 a.kind),.t (.int .i64 a.int),.t (.str a.text),.t (.lst (a.items.map Val.enc)),.t (.lst (a.keys.map sE))]),(1,.cells [.t (.int .i64 b.kind),.t (.int .i64 b.int),.t (.str b.text),.t (.lst (b.items.map Val.enc)),.t (.lst (b.keys.map sE))])],2⟩}) (fun r i _=>R=wR z0V (a.items.drop i) (b.items.drop i) a.keys b.keys i z) 2 () Z hR Z Z Z ?_ ?_
    ·intro _ hinv;rw [z9O (zcH rfl)] at hinv;subst hinv;refine fR Z ?_;refine Run.zm Z Z (by simp) ?_;refine fR Z ?_;refine lM Z Z Z ?_;refine fM Z ?_;refine lMG Z Z Z Z ?_;refine fM Z ?_;refine Run.zm Z Z (by simp [List.length_zip];omega) ?_;refine fR Z ?_;refine lM Z Z Z ?_;refine fM Z ?_;refine lM Z Z Z ?_;refine Mid.call (hz) Z Z Z Z ?_;refine fM Z ?_;refine Run.fin Z (z3.go ?_);exact .t Z
    ·intro i p r _ g1 gi gd hinv ih;obtain ⟨e1,e2⟩:=List.getElem?_zip_eq_some.1 g1;obtain ⟨x,y⟩:=p;simp only at e1 e2;have b1:=(List.getElem?_eq_some_iff.1 e1).1;have b2:=(List.getElem?_eq_some_iff.1 e2).1;rw [zbg e1 e2] at hinv;have hc:=hrec x (zMG e1) y (hb.it y (zMG e2));have hs:=z24 H (qH a.keys i) (qH b.keys i);refine fR Z ?_;refine Run.zm Z Z (by simp) ?_;refine fR Z ?_;refine lM Z Z Z ?_;refine fM Z ?_;refine lMG Z Z Z Z ?_;refine fM Z ?_;refine Run.zj Z Z (by simp;omega) ?_;refine fR Z ?_;refine Mid.call (z2l H a ha i (by omega)) Z Z Z Z ?_;refine fM Z ?_;refine Mid.call (z2l H b hb i (by omega)) Z Z Z Z ?_;skip;by_cases h4:z0V (qH a.keys i) (qH b.keys i)=0
     ·rw [h4] at hs hinv;rw [if_neg (by simp)] at hinv;refine Mid.call (hs) Z Z Z Z ?_;refine fM Z ?_;refine Run.zm Z Z Z ?_;refine fR Z ?_;refine Mid.Zl (Val.zw x) Z Z Z e1 Z Z ?_;refine fM Z ?_;refine Mid.Zl (Val.zw y) Z Z Z e2 Z Z ?_;refine fM Z ?_;by_cases h5:z1z z0V x y=0
      ·rw [h5] at hc hinv;rw [if_neg (by simp)] at hinv;refine Mid.call (hc) Z Z Z Z ?_;refine fM Z ?_;refine aL Z Z Z Z Z ?_;refine fM Z ?_;exact zn 2 Z (ih () hinv) Z Z Z
      ·rw [if_pos h5] at hinv;refine Mid.call (hc) Z Z Z Z ?_;refine fM Z ?_;refine aL Z Z Z Z Z ?_;refine fM Z ?_;skip;refine Run.adv 200 Z (Run.wO ?_);refine fR Z ?_;refine Run.zj Z Z (by simpa using h5) ?_;refine fR Z ?_;refine Run.fin Z (z3.go ?_);exact .t (by rw [hinv])
     ·rw [if_pos h4] at hinv;refine Mid.call (hs) Z Z Z Z ?_;refine fM Z ?_;refine Run.zj Z Z (by simpa using h4) ?_;refine fR Z ?_;refine aL Z Z Z Z Z ?_;refine fM Z ?_;refine Run.adv 200 Z (Run.wO ?_);refine fR Z ?_;refine Run.zj Z Z (by simpa using h4) ?_;refine fR Z ?_;refine Run.fin Z (z3.go ?_);exact .t (by rw [hinv])
   ·rw [if_pos h3] at hR;refine Mid.call (ht) Z Z Z Z ?_;refine fM Z ?_;skip;refine Run.loop Z ?_;refine Run.wO ?_;refine fR Z ?_;refine Run.zj Z Z (by simpa using h3) ?_;refine fR Z ?_;refine Run.fin Z (z3.go ?_);exact .t (by rw [hR])
  ·rw [if_pos h2] at hR;refine Mid.call (hi) Z Z Z Z ?_;refine fM Z ?_;refine Run.zj Z Z (by simpa using h2) ?_;refine fR Z ?_;refine Run.loop Z ?_;refine Run.wO ?_;refine fR Z ?_;refine Run.zj Z Z (by simpa using h2) ?_;refine fR Z ?_;refine Run.fin Z (z3.go ?_);exact .t (by rw [hR])
 ·rw [if_pos h1] at hR;refine Mid.call (hk) Z Z Z Z ?_;refine fM Z ?_;refine Run.zj Z Z (by simpa using h1) ?_;refine fR Z ?_;refine Run.zj Z Z (by simpa using h1) ?_;refine fR Z ?_;refine Run.loop Z ?_;refine Run.wO ?_;refine fR Z ?_;refine Run.zj Z Z (by simpa using h1) ?_;refine fR Z ?_;refine Run.fin Z (z3.go ?_);exact .t (by rw [hR])
theorem z6C (H:Pr P):∀(k:Nat) (v:Val),SizeOf.sizeOf v<=k->v.Ok->zbD P v
 |0,v,h,_=>by cases v;simp at h
 |k+1,v,h,hv=>z9Y H v hv fun x hx=>z6C H k x (by have:=Val.yE v hx;omega) (hv.it x hx)
theorem zbX (H:Pr P) (a b:Val) (ha:a.Ok) (hb:b.Ok):z7 P 31 [a.v,b.v] ⟨[],0⟩ {v:= .t (.bool (z88 a b))}:=by
 have h:=z6C H _ a (Nat.le_refl _) ha b hb;have e:=zcC (fun {a b}=>za3 (a:=a) (b:=b)) a b;refine z7.run H.i31 H.mixed Z Z ?_;refine fR Z ?_;refine Mid.call (h) Z Z Z Z ?_;refine fM Z ?_;refine Run.fin Z (z3.go ?_);exact .t (by rw [←e])
end Go.GB.C35
namespace Go.GB.C29
open Go.GB
structure PrR (P:Program):Prop where
 mixed:P.follows .mixedOrders=true
 i35:zd P 35=some (n35,c35.bare,r35)
 i62:zd P 62=some (n62,c62.bare,r62)
 i87:zd P 87=some (n87,c87.bare,r87)
 i88:zd P 88=some (n88,c88.bare,r88)
 i89:zd P 89=some (n89,c89.bare,r89)
 i90:zd P 90=some (n90,c90.bare,r90)
 i113:zd P 113=some (n113,c113.bare,r113)
 i115:zd P 115=some (n115,c115.bare,r115)
structure R6 (P:Program) (zq:Str->Bool) (litF:Val->Bool) (refF:Ref->Bool):Prop where
 nm:∀s,z7 P 86 [.t (.str s)] ⟨[],0⟩ {v:= .t (.bool (zq s))}
 lit:∀v:Val,v.Ok->z7 P 112 [v.v] ⟨[],0⟩ {v:= .t (.bool (litF v))}
 rf:∀r:Ref,r.Ok->z7 P 114 [r.v] ⟨[],0⟩ {v:= .t (.bool (refF r))}
variable {P:Program} {zq:Str->Bool} {litF:Val->Bool} {refF:Ref->Bool}
theorem qw {α:Type} {p:α->Bool} {l:List α} {i:Nat} {x:α} (h:l[i]?=some x):(l.drop i).all p=(p x&&(l.drop (i+1)).all p):=by
 obtain ⟨h1,rfl⟩:=List.getElem?_eq_some_iff.1 h;rw [List.drop_eq_getElem_cons h1];rfl
theorem W4 {α:Type} {p:α->Bool} {l:List α}:(l.drop l.length).all p=true:=by simp
mutual
def yN:Val->Bool
 | .mk k _ _ its _=>QV its&&!(k==7)
def QV:List Val->Bool
 |[]=>true
 |v::r=>yN v&&QV r
end
theorem z0a:∀l:List Val,QV l=l.all yN
 |[]=>rfl
 |v::r=>by simp [QV,z0a r]
theorem z7v (v:Val):yN v=(v.items.all yN&&!(v.kind==7)):=by
 cases v;simp only [yN,z0a];rfl
def ClC (P:Program) (v:Val):Prop:=z7 P 113 [v.v] ⟨[],0⟩ {v:= .t (.bool (yN v))}
theorem z6u (H:PrR P) (v:Val) (hv:v.Ok) (hrec:∀x,x∈v.items->ClC P x):ClC P v:=by
 have hil:=hv.il;have hR:=z7v v;unfold ClC;generalize yN v=R at hR⊢;refine z7.run H.i113 H.mixed Z Z ?_;refine fR Z ?_;refine zD v.items (fun i (_:Unit)=>{env:=[(1,.ptr 0 0),(3,.t (.int .i64 i))],s:=⟨[(0,.cells [.t (.int .i64 v.kind),.t (.int .i64 v.int),.t (.str v.text),.t (.lst (v.items.map Val.enc)),.t (.lst (v.keys.map sE))])],1⟩}) (fun r i _=>v.items.all yN=(v.items.drop i).all yN) 1 () Z Z Z Z Z ?_ ?_
 ·intro _ hinv;rw [W4] at hinv;rw [hinv,Bool.true_and] at hR;refine fR Z ?_;refine lM Z Z Z ?_;refine fM Z ?_;refine Run.zj Z Z (by simp) ?_;refine fR Z ?_;refine Run.fin Z (z3.go ?_);exact .t (by rw [hR];rfl)
 ·intro i x r _ h1 hi hd hinv ih;have hc:=hrec x (zMG h1);unfold ClC at hc;rw [qw h1] at hinv;refine fR Z ?_;refine lM Z Z Z ?_;refine fM Z ?_;refine Run.zm Z Z (by simp;omega) ?_;refine fR Z ?_;refine Mid.Zl (Val.zw x) Z Z Z h1 Z Z ?_;refine fM Z ?_
  cases hx:yN x with
  |true=>
   rw [hx] at hc hinv;refine Mid.call (hc) Z Z Z Z ?_;refine fM Z ?_;refine Run.zj Z Z Z ?_;refine fR Z ?_;refine aL Z Z Z Z Z ?_;refine fM Z ?_;exact zn 1 Z (ih () (by rw [hinv];rfl)) Z Z Z
  |false=>
   rw [hx] at hc hinv;rw [hinv,Bool.false_and,Bool.false_and] at hR;refine Mid.call (hc) Z Z Z Z ?_;refine fM Z ?_;refine Run.zm Z Z Z ?_;refine fR Z ?_;refine Run.fin Z (z3.go ?_);exact .t (by rw [hR])
theorem z3g (H:PrR P):∀(k:Nat) (v:Val),SizeOf.sizeOf v<=k->v.Ok->ClC P v
 |0,v,h,_=>by cases v;simp at h
 |k+1,v,h,hv=>z6u H v hv fun x hx=>z3g H k x (by have:=Val.yE v hx;omega) (hv.it x hx)
theorem z3K (H:PrR P) (v:Val) (hv:v.Ok):z7 P 113 [v.v] ⟨[],0⟩ {v:= .t (.bool (yN v))}:=z3g H _ v (Nat.le_refl _) hv
def z8b (v:Val):Bool:=v.kind==0&&v.int==0&&v.text==[]&&v.items.length==0&&v.keys.length==0
theorem zdI (H:PrR P) (v:Val):z7 P 115 [v.v] ⟨[],0⟩ {v:= .t (.bool (z8b v))}:=by
 refine z7.run H.i115 H.mixed Z Z ?_;refine fR Z ?_;refine lMG Z Z Z Z ?_;refine fM Z ?_;refine lMG Z Z Z Z ?_;refine fM Z ?_
 have e:∀n:Nat,((n:Int)==0)=(n==0):=fun n=>by rw [Bool.eq_iff_iff];simp
 refine Run.fin Z (z3.go ?_);exact .t (by simp [z8b,e])
section
variable (zq litF refF)
def zef (a:Arg):Bool:=zq a.name&&litF a.val&&yN a.val
def z9i (d:Dir):Bool:=zq d.name&&decide (d.args.length<=16)&&d.args.all (zef zq litF)
def wX (l:List Dir):Bool:=decide (l.length<=16)&&l.all (z9i zq litF)
def inR (x:Input):Bool:=zq x.name&&refF x.ty&&wX zq litF x.zX&&(if x.has then litF x.YN&&yN x.YN else z8b x.YN)
def YD (l:List Input):Bool:=decide (l.length<=16)&&l.all (inR zq litF refF)
def z0S (f:Field):Bool:=zq f.name&&YD zq litF refF f.args&&refF f.ty&&wX zq litF f.zX
def w6 (l:List Field):Bool:=decide (1<=l.length)&&decide (l.length<=64)&&l.all (z0S zq litF refF)
def zcd (plain:Bool) (m:zN):Bool:=zq m.name&&wX zq litF m.zX&&!(plain&&decide (m.zX.length>0))
def yZ (l:List zN) (plain:Bool):Bool:=decide (1<=l.length)&&decide (l.length<=64)&&l.all (zcd zq litF plain)
end
theorem z1P (H:PrR P) (K:R6 P zq litF refF) (l:List Dir) (hl:l.length<=140737488355328) (ho:∀d,d∈l->d.Ok):z7 P 87 [.t (.lst (l.map Dir.enc))] ⟨[],0⟩ {v:= .t (.bool (wX zq litF l))}:=by
 by_cases hb:l.length<=16
 ·have hR:wX zq litF l=l.all (z9i zq litF):=by simp [wX,hb]
  rw [hR];generalize hR2:l.all (z9i zq litF)=R;refine z7.run H.i87 H.mixed Z Z ?_;refine fR Z ?_;refine lM Z Z Z ?_;refine fM Z ?_;refine Run.zj Z Z (by simp;omega) ?_;refine fR Z ?_;refine zD l (fun i (_:Unit)=>{env:=[(0,.t (.lst (l.map Dir.enc))),(3,.t (.int .i64 i))],s:=⟨[],0⟩}) (fun r i _=>(l.drop i).all (z9i zq litF)=R) 0 () Z hR2 Z Z Z ?_ ?_
  ·intro _ hinv;rw [W4] at hinv;subst hinv;refine fR Z ?_;refine lM Z Z Z ?_;refine fM Z ?_;refine Run.zj Z Z (by simp) ?_;refine fR Z ?_;refine Run.fin Z (z3.go ?_);exact .t Z
  ·intro i d r _ h1 hi hd hinv ih;have hdk:=ho d (zMG h1);have hal:=hdk.l;have hn:=K.nm d.name;rw [qw h1] at hinv;unfold z9i at hinv;refine fR Z ?_;refine lM Z Z Z ?_;refine fM Z ?_;refine Run.zm Z Z (by simp;omega) ?_;refine fR Z ?_;refine Mid.zg Z Z Z h1 Z Z ?_;refine fM Z ?_
   cases hx:zq d.name with
   |false=>
    rw [hx] at hn hinv;simp only [Bool.false_and] at hinv;subst hinv;refine Mid.call (hn) Z Z Z Z ?_;refine fM Z ?_;refine elG Z Z Z Z h1 Z Z ?_;refine fM Z ?_;refine lMG Z Z Z Z ?_;refine fM Z ?_;refine Run.zm Z Z Z ?_;refine fR Z ?_;refine Run.fin Z (z3.go ?_);exact .t Z
   |true=>
    rw [hx] at hn hinv;simp only [Bool.true_and] at hinv;refine Mid.call (hn) Z Z Z Z ?_;refine fM Z ?_;refine elG Z Z Z Z h1 Z Z ?_;refine fM Z ?_;refine lMG Z Z Z Z ?_;refine fM Z ?_;by_cases ha:d.args.length<=16
    ·rw [decide_eq_true ha,Bool.true_and] at hinv;refine Run.zj Z Z (by simp;omega) ?_;refine fR Z ?_;refine zD d.args (fun j (_:Unit)=>{env:=[(0,.t (.lst (l.map Dir.enc))),(3,.t (.int .i64 i)),(4,.t (.int .i64 j))],s:=⟨[],0⟩}) (fun r2 j _=>((d.args.drop j).all (zef zq litF)&&(l.drop (i+1)).all (z9i zq litF))=R) 0 () Z hinv Z Z Z ?_ ?_
     ·intro _ hinv2;rw [W4,Bool.true_and] at hinv2;refine fR Z ?_;refine Mid.zg Z Z Z h1 Z Z ?_;refine fM Z ?_;refine lM Z Z Z ?_;refine fM Z ?_;refine Run.zj Z Z (by simp) ?_;refine fR Z ?_;refine aL Z Z Z Z Z ?_;refine fM Z ?_;exact zn 0 Z (ih () hinv2) Z Z Z
     ·intro j a r2 _ k1 hj kd hinv2 ih2;have hak:=hdk.a a (zMG k1);have hn2:=K.nm a.name;have hl2:=K.lit a.val hak;have hc2:=z3K H a.val hak;rw [qw k1] at hinv2;unfold zef at hinv2;generalize zq a.name=b1 at hn2 hinv2;generalize litF a.val=b2 at hl2 hinv2;generalize yN a.val=b3 at hc2 hinv2;refine fR Z ?_;refine Mid.zg Z Z Z h1 Z Z ?_;refine fM Z ?_;refine lM Z Z Z ?_;refine fM Z ?_;refine Run.zm Z Z (by simp;omega) ?_;refine fR Z ?_;refine Mid.zg Z Z Z h1 Z Z ?_;refine fM Z ?_;refine Mid.zg Z Z Z k1 Z Z ?_;refine fM Z ?_;refine Mid.call (hn2) Z Z Z Z ?_;refine fM Z ?_;refine caG Z Z (fun hg=>⟨_,rfl,hl2,rfl⟩) Z Z ?_;refine fM Z ?_;refine caG Z Z (fun hg=>⟨_,rfl,hc2,rfl⟩) Z Z ?_;refine fM Z ?_
      cases hb:(b1&&b2&&b3) with
      |true=>
       simp only [Bool.and_eq_true] at hb;obtain ⟨⟨rfl,rfl⟩,rfl⟩:=hb;refine Run.zj Z Z Z ?_;refine fR Z ?_;refine aL Z Z Z Z Z ?_;refine fM Z ?_;exact zn 0 Z (ih2 () hinv2) Z Z Z
      |false=>
       rw [hb] at hinv2;simp only [Bool.false_and] at hinv2;subst hinv2
       refine Run.zm Z Z (by revert hb;cases b1<;>cases b2<;>cases b3<;>simp) ?_
       refine fR Z ?_;refine Run.fin Z (z3.go ?_);exact .t Z
    ·rw [decide_eq_false ha,Bool.false_and,Bool.false_and] at hinv;subst hinv;refine Run.zm Z Z (by simp;omega) ?_;refine fR Z ?_;refine Run.fin Z (z3.go ?_);exact .t Z
 ·have hR:wX zq litF l=false:=by simp [wX];omega
  rw [hR];refine z7.run H.i87 H.mixed Z Z ?_;refine fR Z ?_;refine lM Z Z Z ?_;refine fM Z ?_;refine Run.zm Z Z (by simp;omega) ?_;refine fR Z ?_;refine Run.fin Z (z3.go ?_);exact .t Z
end Go.GB.C29
namespace Go.GB.C29
open Go.GB
variable {P:Program} {zq:Str->Bool} {litF:Val->Bool} {refF:Ref->Bool}
theorem YX (H:PrR P) (K:R6 P zq litF refF) (l:List Input) (hl:l.length<=140737488355328) (ho:∀d,d∈l->d.Ok):z7 P 90 [.t (.lst (l.map Input.enc))] ⟨[],0⟩ {v:= .t (.bool (YD zq litF refF l))}:=by
 by_cases hb:l.length<=16
 ·have hR:YD zq litF refF l=l.all (inR zq litF refF):=by simp [YD,hb]
  rw [hR];generalize hR2:l.all (inR zq litF refF)=R;refine z7.run H.i90 H.mixed Z Z ?_;refine fR Z ?_;refine lM Z Z Z ?_;refine fM Z ?_;refine Run.zj Z Z (by simp;omega) ?_;refine fR Z ?_;refine zD l (fun i (_:Unit)=>{env:=[(0,.t (.lst (l.map Input.enc))),(3,.t (.int .i64 i))],s:=⟨[],0⟩}) (fun r i _=>(l.drop i).all (inR zq litF refF)=R) 0 () Z hR2 Z Z Z ?_ ?_
  ·intro _ hinv;rw [W4] at hinv;subst hinv;refine fR Z ?_;refine lM Z Z Z ?_;refine fM Z ?_;refine Run.zj Z Z (by simp) ?_;refine fR Z ?_;refine Run.fin Z (z3.go ?_);exact .t Z
  ·intro i x r _ h1 hi hd hinv ih;have hxk:=ho x (zMG h1);have hn:=K.nm x.name;have hr:=K.rf x.ty hxk.t;have hds:=z1P H K x.zX hxk.l hxk.d;have hl2:=K.lit x.YN hxk.v;have hc2:=z3K H x.YN hxk.v;have hz2:=zdI H x.YN;rw [qw h1] at hinv;unfold inR at hinv;generalize zq x.name=b1 at hn hinv;generalize refF x.ty=b2 at hr hinv;generalize wX zq litF x.zX=b3 at hds hinv;generalize litF x.YN=b4 at hl2 hinv;generalize yN x.YN=b5 at hc2 hinv;generalize z8b x.YN=b6 at hz2 hinv;refine fR Z ?_;refine lM Z Z Z ?_;refine fM Z ?_;refine Run.zm Z Z (by simp;omega) ?_;refine fR Z ?_;refine Mid.zg Z Z Z h1 Z Z ?_;refine fM Z ?_;refine Mid.call (hn) Z Z Z Z ?_;refine fM Z ?_;refine caG Z Z (fun hg=>⟨_,rfl,hr,rfl⟩) Z Z ?_;refine fM Z ?_;refine caG Z Z (fun hg=>⟨_,rfl,hds,rfl⟩) Z Z ?_;refine fM Z ?_
   cases hb2:(b1&&b2&&b3) with
   |false=>
    rw [hb2,Bool.false_and,Bool.false_and] at hinv;subst hinv
    refine Run.zm Z Z (by revert hb2;cases b1<;>cases b2<;>cases b3<;>simp) ?_
    refine fR Z ?_;refine Run.fin Z (z3.go ?_);exact .t Z
   |true=>
    rw [hb2,Bool.true_and] at hinv;simp only [Bool.and_eq_true] at hb2;obtain ⟨⟨rfl,rfl⟩,rfl⟩:=hb2;refine Run.zj Z Z Z ?_;refine fR Z ?_;refine caG Z Z (fun hg=>⟨_,rfl,hl2,rfl⟩) Z Z ?_;refine fM Z ?_;refine caG Z Z (fun hg=>⟨_,rfl,hc2,rfl⟩) Z Z ?_;refine fM Z ?_;refine caG Z Z (fun hg=>⟨_,rfl,hz2,rfl⟩) Z Z ?_;refine fM Z ?_;refine Run.cond Z Z (fun h=>?_) (fun h=>?_)
    ·have e:(if x.has=true then b4&&b5 else b6)=false:=by
      revert h;clear hinv;generalize x.has=b7;cases b7<;>cases b4<;>cases b5<;>cases b6<;>simp
     rw [e,Bool.false_and] at hinv;subst hinv;refine fR Z ?_;refine Run.fin Z (z3.go ?_);exact .t Z
    ·have e:(if x.has=true then b4&&b5 else b6)=true:=by
      revert h;clear hinv;generalize x.has=b7;cases b7<;>cases b4<;>cases b5<;>cases b6<;>simp
     rw [e,Bool.true_and] at hinv;refine fR Z ?_;refine aL Z Z Z Z Z ?_;refine fM Z ?_;exact zn 0 Z (ih () hinv) Z Z Z
 ·have hR:YD zq litF refF l=false:=by simp [YD];omega
  rw [hR];refine z7.run H.i90 H.mixed Z Z ?_;refine fR Z ?_;refine lM Z Z Z ?_;refine fM Z ?_;refine Run.zm Z Z (by simp;omega) ?_;refine fR Z ?_;refine Run.fin Z (z3.go ?_);exact .t Z
theorem qX (H:PrR P) (K:R6 P zq litF refF) (l:List Field) (hl:l.length<=140737488355328) (ho:∀d,d∈l->d.Ok):z7 P 88 [.t (.lst (l.map Field.enc))] ⟨[],0⟩ {v:= .t (.bool (w6 zq litF refF l))}:=by
 by_cases hb:1<=l.length/\l.length<=64
 ·have hR:w6 zq litF refF l=l.all (z0S zq litF refF):=by simp [w6,hb.1,hb.2]
  rw [hR];generalize hR2:l.all (z0S zq litF refF)=R;refine z7.run H.i88 H.mixed Z Z ?_;refine fR Z ?_;refine lM Z Z Z ?_;refine fM Z ?_;refine lMG Z Z Z Z ?_;refine fM Z ?_;refine Run.zj Z Z (by simp;omega) ?_;refine fR Z ?_;refine zD l (fun i (_:Unit)=>{env:=[(0,.t (.lst (l.map Field.enc))),(3,.t (.int .i64 i))],s:=⟨[],0⟩}) (fun r i _=>(l.drop i).all (z0S zq litF refF)=R) 0 () Z hR2 Z Z Z ?_ ?_
  ·intro _ hinv;rw [W4] at hinv;subst hinv;refine fR Z ?_;refine lM Z Z Z ?_;refine fM Z ?_;refine Run.zj Z Z (by simp) ?_;refine fR Z ?_;refine Run.fin Z (z3.go ?_);exact .t Z
  ·intro i x r _ h1 hi hd hinv ih;have hxk:=ho x (zMG h1);have hn:=K.nm x.name;have hr:=K.rf x.ty hxk.t;have hds:=z1P H K x.zX hxk.l hxk.d;have hin:=YX H K x.args hxk.al hxk.a;rw [qw h1] at hinv;unfold z0S at hinv;generalize zq x.name=b1 at hn hinv;generalize refF x.ty=b2 at hr hinv;generalize wX zq litF x.zX=b3 at hds hinv;generalize YD zq litF refF x.args=b4 at hin hinv;refine fR Z ?_;refine lM Z Z Z ?_;refine fM Z ?_;refine Run.zm Z Z (by simp;omega) ?_;refine fR Z ?_;refine Mid.zg Z Z Z h1 Z Z ?_;refine fM Z ?_;refine Mid.call (hn) Z Z Z Z ?_;refine fM Z ?_;refine elG Z Z Z Z h1 Z Z ?_;refine fM Z ?_;refine caG Z Z (fun hg=>⟨_,rfl,hin,rfl⟩) Z Z ?_;refine fM Z ?_;refine elG Z Z Z Z h1 Z Z ?_;refine fM Z ?_;refine caG Z Z (fun hg=>⟨_,rfl,hr,rfl⟩) Z Z ?_;refine fM Z ?_;refine elG Z Z Z Z h1 Z Z ?_;refine fM Z ?_;refine caG Z Z (fun hg=>⟨_,rfl,hds,rfl⟩) Z Z ?_;refine fM Z ?_
   cases hb2:(b1&&b4&&b2&&b3) with
   |false=>
    rw [hb2,Bool.false_and] at hinv;subst hinv
    refine Run.zm Z Z (by revert hb2;cases b1<;>cases b2<;>cases b3<;>cases b4<;>simp) ?_
    refine fR Z ?_;refine Run.fin Z (z3.go ?_);exact .t Z
   |true=>
    rw [hb2,Bool.true_and] at hinv;simp only [Bool.and_eq_true] at hb2;obtain ⟨⟨⟨rfl,rfl⟩,rfl⟩,rfl⟩:=hb2;refine Run.zj Z Z Z ?_;refine fR Z ?_;refine aL Z Z Z Z Z ?_;refine fM Z ?_;exact zn 0 Z (ih () hinv) Z Z Z
 ·have hR:w6 zq litF refF l=false:=by
   simp only [w6,Bool.and_eq_false_iff,decide_eq_false_iff_not];omega
  rw [hR];refine z7.run H.i88 H.mixed Z Z ?_;refine fR Z ?_;refine lM Z Z Z ?_;refine fM Z ?_;refine lMG Z Z Z Z ?_;refine fM Z ?_;refine Run.zm Z Z (by simp;omega) ?_;refine fR Z ?_;refine Run.fin Z (z3.go ?_);exact .t Z
theorem WR (H:PrR P) (K:R6 P zq litF refF) (l:List zN) (hl:l.length<=140737488355328) (ho:∀d,d∈l->d.Ok) (plain:Bool):z7 P 89 [.t (.lst (l.map zN.enc)),.t (.bool plain)] ⟨[],0⟩ {v:= .t (.bool (yZ zq litF l plain))}:=by
 by_cases hb:1<=l.length/\l.length<=64
 ·have hR:yZ zq litF l plain=l.all (zcd zq litF plain):=by simp [yZ,hb.1,hb.2]
  rw [hR];generalize hR2:l.all (zcd zq litF plain)=R;refine z7.run H.i89 H.mixed Z Z ?_;refine fR Z ?_;refine lM Z Z Z ?_;refine fM Z ?_;refine lMG Z Z Z Z ?_;refine fM Z ?_;refine Run.zj Z Z (by simp;omega) ?_;refine fR Z ?_;refine zD l (fun i (_:Unit)=>{env:=[(0,.t (.lst (l.map zN.enc))),(1,.t (.bool plain)),(5,.t (.int .i64 i))],s:=⟨[],0⟩}) (fun r i _=>(l.drop i).all (zcd zq litF plain)=R) 0 () Z hR2 Z Z Z ?_ ?_
  ·intro _ hinv;rw [W4] at hinv;subst hinv;refine fR Z ?_;refine lM Z Z Z ?_;refine fM Z ?_;refine Run.zj Z Z (by simp) ?_;refine fR Z ?_;refine Run.fin Z (z3.go ?_);exact .t Z
  ·intro i x r _ h1 hi hd hinv ih;have hxk:=ho x (zMG h1);have hn:=K.nm x.name;have hds:=z1P H K x.zX hxk.l hxk.d;rw [qw h1] at hinv;unfold zcd at hinv;generalize zq x.name=b1 at hn hinv;generalize wX zq litF x.zX=b3 at hds hinv;refine fR Z ?_;refine lM Z Z Z ?_;refine fM Z ?_;refine Run.zm Z Z (by simp;omega) ?_;refine fR Z ?_;refine Mid.zg Z Z Z h1 Z Z ?_;refine fM Z ?_;refine Mid.call (hn) Z Z Z Z ?_;refine fM Z ?_;refine elG Z Z Z Z h1 Z Z ?_;refine fM Z ?_;refine caG Z Z (fun hg=>⟨_,rfl,hds,rfl⟩) Z Z ?_;refine fM Z ?_;refine elG Z Z Z Z h1 Z Z ?_;refine fM Z ?_;refine lMG Z Z Z Z ?_;refine fM Z ?_;refine Run.cond Z Z (fun h=>?_) (fun h=>?_)
   ·have e:(b1&&b3&&!(plain&&decide (x.zX.length>0)))=false:=by
     revert h;clear hinv;rw [show decide ((x.zX.length:Int)>0)=decide (x.zX.length>0) from decide_eq_decide.2 (by omega)];generalize decide (x.zX.length>0)=b7;cases b7<;>cases b1<;>cases b3<;>cases plain<;>simp
    rw [e,Bool.false_and] at hinv;subst hinv;refine fR Z ?_;refine Run.fin Z (z3.go ?_);exact .t Z
   ·have e:(b1&&b3&&!(plain&&decide (x.zX.length>0)))=true:=by
     revert h;clear hinv;rw [show decide ((x.zX.length:Int)>0)=decide (x.zX.length>0) from decide_eq_decide.2 (by omega)];generalize decide (x.zX.length>0)=b7;cases b7<;>cases b1<;>cases b3<;>cases plain<;>simp
    rw [e,Bool.true_and] at hinv;refine fR Z ?_;refine aL Z Z Z Z Z ?_;refine fM Z ?_;exact zn 0 Z (ih () hinv) Z Z Z
 ·have hR:yZ zq litF l plain=false:=by
   simp only [yZ,Bool.and_eq_false_iff,decide_eq_false_iff_not];omega
  rw [hR];refine z7.run H.i89 H.mixed Z Z ?_;refine fR Z ?_;refine lM Z Z Z ?_;refine fM Z ?_;refine lMG Z Z Z Z ?_;refine fM Z ?_;refine Run.zm Z Z (by simp;omega) ?_;refine fR Z ?_;refine Run.fin Z (z3.go ?_);exact .t Z
end Go.GB.C29
namespace Go.GB.C29
open Go.GB
variable {P:Program} {zq:Str->Bool} {litF:Val->Bool} {refF:Ref->Bool}
section
variable (zq litF refF)
def z89 (d:Def):Bool:=
 if d.kind=1 then w6 zq litF refF d.fields&&decide (d.members.length=0)&&decide (d.ze.length=0)
 else if d.kind=2 then decide (d.implements.length=0)&&w6 zq litF refF d.fields&&decide (d.members.length=0)&&decide (d.ze.length=0)
 else if d.kind=3 then decide (d.implements.length=0)&&decide (d.fields.length=0)&&yZ zq litF d.members true&&decide (d.ze.length=0)
 else if d.kind=4 then decide (d.implements.length=0)&&decide (d.fields.length=0)&&yZ zq litF d.members false&&decide (d.ze.length=0)
 else if d.kind=5 then decide (d.implements.length=0)&&decide (d.fields.length=0)&&decide (d.members.length=0)&&decide (d.ze.length>0)&&YD zq litF refF d.ze
 else false
def z3m (d:Def):Bool:=zq d.name&&wX zq litF d.zX&&decide (d.implements.length<=64)&&d.implements.all zq&&z89 zq litF refF d
def z2e (ds:List Def):Bool:=decide (1<=ds.length)&&decide (ds.length<=64)&&ds.all (z3m zq litF refF)
end
theorem zeZ (H:PrR P) (K:R6 P zq litF refF) (d:Def) (hd:d.Ok):z7 P 62 [d.v] ⟨[],0⟩ {v:= .t (.bool (z3m zq litF refF d))}:=by
 have hil:=hd.il;have hn:=K.nm d.name;have hds:=z1P H K d.zX hd.dl hd.d;have hfl:=qX H K d.fields hd.fl hd.f;have hm1:=WR H K d.members hd.ml hd.m true;have hm2:=WR H K d.members hd.ml hd.m false;have hin:=YX H K d.ze hd.nl hd.n;have hR:z3m zq litF refF d=(zq d.name&&wX zq litF d.zX&&decide (d.implements.length<=64)&&d.implements.all zq&&z89 zq litF refF d):=rfl;unfold z89 at hR;generalize z3m zq litF refF d=R at hR⊢;generalize hb1:zq d.name=b1 at hn hR;generalize wX zq litF d.zX=b2 at hds hR;generalize w6 zq litF refF d.fields=b3 at hfl hR;generalize yZ zq litF d.members true=b4 at hm1 hR;generalize yZ zq litF d.members false=b5 at hm2 hR;generalize YD zq litF refF d.ze=b6 at hin hR;refine z7.run H.i62 H.mixed Z Z ?_;refine fR Z ?_;refine Mid.call (hn) Z Z Z Z ?_;refine fM Z ?_;refine caG Z Z (fun hg=>⟨_,rfl,hds,rfl⟩) Z Z ?_;refine fM Z ?_;refine lMG Z Z Z Z ?_;refine fM Z ?_
 have z0:∀n:Nat,((n:Int)==0)=decide (n=0):=fun n=>by rw [Bool.eq_iff_iff];simp
 have z1:∀n:Nat,decide ((n:Int)>0)=decide (n>0):=fun n=>decide_eq_decide.2 (by omega)
 have z2:∀n:Nat,decide ((n:Int)>64)=!decide (n<=64):=fun n=>by rw [←decide_not];exact decide_eq_decide.2 (by omega)
 refine Run.cond Z Z (fun h=>?_) (fun h=>?_)
 ·have e:(b1&&b2&&decide (d.implements.length<=64))=false:=by
   revert h;rw [z2];generalize decide (d.implements.length<=64)=b7;cases b7<;>cases b1<;>cases b2<;>simp
  rw [e] at hR;simp only [Bool.false_and] at hR;subst hR;refine fR Z ?_;refine Run.fin Z (z3.go ?_);exact .t Z
 ·have e:(b1&&b2&&decide (d.implements.length<=64))=true:=by
   revert h;rw [z2];generalize decide (d.implements.length<=64)=b7;cases b7<;>cases b1<;>cases b2<;>simp
  rw [e] at hR;simp only [Bool.true_and] at hR;refine fR Z ?_;refine zD d.implements (fun i (_:Unit)=>{env:=[(1,.ptr 0 0),(3,.t (.int .i64 i))],s:=⟨[(0,.cells [.t (.int .i64 d.kind),.t (.str d.name),.t (.lst (d.implements.map sE)),.t (.lst (d.zX.map Dir.enc)),.t (.lst (d.fields.map Field.enc)),.t (.lst (d.members.map zN.enc)),.t (.lst (d.ze.map Input.enc))])],1⟩}) (fun r i _=>d.implements.all zq=(d.implements.drop i).all zq) 1 () Z Z Z Z Z ?_ ?_
  ·intro _ hinv;rw [W4] at hinv;rw [hinv,Bool.true_and] at hR;refine fR Z ?_;refine lM Z Z Z ?_;refine fM Z ?_;refine Run.zj Z Z (by simp) ?_;refine fR Z ?_;refine lM Z Z Z ?_;refine fM Z ?_;refine lM Z Z Z ?_;refine fM Z ?_;refine lM Z Z Z ?_;refine fM Z ?_;refine lM Z Z Z ?_;refine fM Z ?_;refine Run.cond Z Z (fun k1=>?_) (fun k1=>?_)
   ·have h':d.kind=1:=by simpa using k1
    rw [if_pos h'] at hR;refine fR Z ?_;refine Mid.call (hfl) Z Z Z Z ?_;refine fM Z ?_;refine Run.fin Z (z3.go ?_);exact .t (by rw [hR];try simp only [z0,z1])
   have n1:¬ d.kind=1:=by simpa using k1
   rw [if_neg n1] at hR;refine fR Z ?_;refine Run.cond Z Z (fun k1=>?_) (fun k1=>?_)
   ·have h':d.kind=2:=by simpa using k1
    rw [if_pos h'] at hR;refine fR Z ?_;refine caG Z Z (fun hg=>⟨_,rfl,hfl,rfl⟩) Z Z ?_;refine fM Z ?_;refine Run.fin Z (z3.go ?_);exact .t (by rw [hR];try simp only [z0,z1])
   have n2:¬ d.kind=2:=by simpa using k1
   rw [if_neg n2] at hR;refine fR Z ?_;refine Run.cond Z Z (fun k1=>?_) (fun k1=>?_)
   ·have h':d.kind=3:=by simpa using k1
    rw [if_pos h'] at hR;refine fR Z ?_;refine caG Z Z (fun hg=>⟨_,rfl,hm1,rfl⟩) Z Z ?_;refine fM Z ?_;refine Run.fin Z (z3.go ?_);exact .t (by rw [hR];try simp only [z0,z1])
   have n3:¬ d.kind=3:=by simpa using k1
   rw [if_neg n3] at hR;refine fR Z ?_;refine Run.cond Z Z (fun k1=>?_) (fun k1=>?_)
   ·have h':d.kind=4:=by simpa using k1
    rw [if_pos h'] at hR;refine fR Z ?_;refine caG Z Z (fun hg=>⟨_,rfl,hm2,rfl⟩) Z Z ?_;refine fM Z ?_;refine Run.fin Z (z3.go ?_);exact .t (by rw [hR];try simp only [z0,z1])
   have n4:¬ d.kind=4:=by simpa using k1
   rw [if_neg n4] at hR;refine fR Z ?_;refine Run.cond Z Z (fun k1=>?_) (fun k1=>?_)
   ·have h':d.kind=5:=by simpa using k1
    rw [if_pos h'] at hR;refine fR Z ?_;refine lMG Z Z Z Z ?_;refine fM Z ?_;refine caG Z Z (fun hg=>⟨_,rfl,hin,rfl⟩) Z Z ?_;refine fM Z ?_;refine Run.fin Z (z3.go ?_);exact .t (by rw [hR];try simp only [z0,z1])
   have n5:¬ d.kind=5:=by simpa using k1
   rw [if_neg n5] at hR;refine fR Z ?_;refine Run.fin Z (z3.go ?_);exact .t (by rw [hR];try simp only [z0,z1])
  ·intro i x r _ h1 hi hd2 hinv ih;have hc:=K.nm x;rw [qw h1] at hinv;generalize zq x=b8 at hc hinv;refine fR Z ?_;refine lM Z Z Z ?_;refine fM Z ?_;refine Run.zm Z Z (by simp;omega) ?_;refine fR Z ?_;refine Mid.zg Z Z Z h1 Z Z ?_;refine fM Z ?_;refine Mid.call (hc) Z Z Z Z ?_;refine fM Z ?_
   cases b8 with
   |false=>
    rw [Bool.false_and] at hinv;rw [hinv,Bool.false_and] at hR;subst hR;refine Run.zm Z Z Z ?_;refine fR Z ?_;refine Run.fin Z (z3.go ?_);exact .t Z
   |true=>
    rw [Bool.true_and] at hinv;refine Run.zj Z Z Z ?_;refine fR Z ?_;refine aL Z Z Z Z Z ?_;refine fM Z ?_;exact zn 1 Z (ih () hinv) Z Z Z
theorem z2P (H:PrR P) (K:R6 P zq litF refF) (ds:List Def) (hD:Z8 ds):z7 P 35 [yS ds] ⟨[],0⟩ {v:= .t (.bool (z2e zq litF refF ds))}:=by
 by_cases hb:1<=ds.length/\ds.length<=64
 ·have hR:z2e zq litF refF ds=ds.all (z3m zq litF refF):=by simp [z2e,hb.1,hb.2]
  rw [hR];generalize hR2:ds.all (z3m zq litF refF)=R;refine z7.run H.i35 H.mixed Z Z ?_;refine fR Z ?_;refine lM Z Z Z ?_;refine fM Z ?_;refine lMG Z Z Z Z ?_;refine fM Z ?_;refine Run.zj Z Z (by simp;omega) ?_;refine fR Z ?_;refine zD ds (fun i (_:Unit)=>{env:=[(1,.ptr 0 0),(3,.t (.int .i64 i))],s:=⟨[(0,.cells [.t (.lst (ds.map Def.enc))])],1⟩}) (fun r i _=>(ds.drop i).all (z3m zq litF refF)=R) 1 () Z hR2 Z Z Z ?_ ?_
  ·intro _ hinv;rw [W4] at hinv;subst hinv;refine fR Z ?_;refine lM Z Z Z ?_;refine fM Z ?_;refine Run.zj Z Z (by simp) ?_;refine fR Z ?_;refine Run.fin Z (z3.go ?_);exact .t Z
  ·intro i x r _ h1 hi hd hinv ih;have hc:=zeZ H K x (hD.d x (zMG h1));rw [qw h1] at hinv;generalize z3m zq litF refF x=b1 at hc hinv;refine fR Z ?_;refine lM Z Z Z ?_;refine fM Z ?_;refine Run.zm Z Z (by simp;omega) ?_;refine fR Z ?_;refine Mid.zg Z Z Z h1 Z Z ?_;refine fM Z ?_;refine Mid.call (hc) Z Z Z Z ?_;refine fM Z ?_
   cases b1 with
   |false=>
    rw [Bool.false_and] at hinv;subst hinv;refine Run.zm Z Z Z ?_;refine fR Z ?_;refine Run.fin Z (z3.go ?_);exact .t Z
   |true=>
    rw [Bool.true_and] at hinv;refine Run.zj Z Z Z ?_;refine fR Z ?_;refine aL Z Z Z Z Z ?_;refine fM Z ?_;exact zn 1 Z (ih () hinv) Z Z Z
 ·have hR:z2e zq litF refF ds=false:=by
   simp only [z2e,Bool.and_eq_false_iff,decide_eq_false_iff_not];omega
  rw [hR];refine z7.run H.i35 H.mixed Z Z ?_;refine fR Z ?_;refine lM Z Z Z ?_;refine fM Z ?_;refine lMG Z Z Z Z ?_;refine fM Z ?_;refine Run.zm Z Z (by simp;omega) ?_;refine fR Z ?_;refine Run.fin Z (z3.go ?_);exact .t Z
end Go.GB.C29
namespace Go.GB.C29
open Go.GB Go.GB.C11 Go.GB.C18
structure PrP (P:Program):Prop where
 s:PrS P
 r:PrR P
 c:C35.Pr P
 p29:wa P
 mixed:P.follows .mixedOrders=true
 i17:zd P 17=some (n17,c17.bare,r17)
 i19:zd P 19=some (n19,c19.bare,r19)
 i20:zd P 20=some (n20,c20.bare,r20)
 i38:zd P 38=some (n38,c38.bare,r38)
 i66:zd P 66=some (n66,c66.bare,r66)
 i67:zd P 67=some (n67,c67.bare,r67)
 i100:zd P 100=some (n100,c100.bare,r100)
 i102:zd P 102=some (n102,c102.bare,r102)
 i128:zd P 128=some (n128,c128.bare,r128)
variable {P:Program}
section
variable {n m:Nat} {R:St->Prop} {draw:Bool} {all:List AO} {after:List (List Nat)} {live:List Nat} {k:List It} {b:Nat} {fl:List (Bool×Bool)} {ops:List AO} {st st':St} {d:Option Nat}
theorem _root_.Go.GB.Mid.zbh {α:Type} {f:α->List T} {l:List α} {sz j:Nat} {s:Nat} {want gc:Bool} {x i:Ar} {v:V} {kd:IntKind} {p1 p2:List Bool} (hg:ZU want (look st.env s)=some gc) (hf:gc=false) (hx:rd gc st x=(v,p1)) (hv:v.zA=some (.lst (l.map f))) (hi:rd gc st i=(.t (.int kd j),p2)) (hc:l[j]?=none)
  (hs:zO st d (.gd false .top) some=some st') (h':Mid P n m R draw all after live k b ((false,false)::fl) ops st'):Mid P n m R draw all after live k b fl (⟨d,some (s,want),.ia sz x i⟩::ops) st:=by
 refine Mid.W7 hg hf ?_ (by simp only [Za];exact Y2 hx hv) hs h';simp only [zh,hx,hi]
 have hn:(l.map f)[((j:Int)).toNat]?=none:=by simp;simpa using hc
 cases v<;>simp_all [V.zA]
end
theorem z6e (H:Pr P) (s:Str):z7 P 86 [.t (.str s)] ⟨[],0⟩ {v:= .t (.bool (zq s))}:=by
 by_cases h':s.length<=140737488355328
 ·exact Q5 H s h'
 ·have e:zq s=false:=by unfold zq;rw [show decide (1<=s.length/\s.length<=64)=false from by simp;omega];rfl
  rw [e];refine z7.run H.i86 H.mixed Z Z ?_;refine fR Z ?_;refine Run.zm Z Z (by simp;omega) ?_;refine fR Z ?_;refine Run.fin Z (z3.go ?_);exact .t Z
theorem zdb (H:Pr P) (s:Str):z7 P 99 [.t (.str s)] ⟨[],0⟩ {v:= .t (.bool (zdC s))}:=by
 match s with
 |[]=>exact qP H [] (by decide)
 |[a]=>exact qP H [a] (by simp)
 |a::b::r=>
  refine z7.run H.i99 H.mixed Z Z ?_;refine fR Z ?_;refine gr Z ?_;refine fM Z ?_;refine gr Z ?_;refine fM Z ?_
  refine Run.fin Z (z3.go ?_);exact .t (by
   have:decide (((a::b::r).length:Int)≥2)=true:=by simp;omega
   rw [this];rfl)
theorem zem (H:PrS P):R6 P zq C11.Qy YR:=⟨z6e H.w.p18.toPr13.toPr,C11.z71 H.w.p18.toPr13,C11.z2P H.w.p18.toPr13.toPr⟩
def z8v:Ref:=⟨[83,116,114,105,110,103],[1]⟩
theorem zgf (H:PrP P):z7 P 100 [] ⟨[],0⟩ {v:=z8v.v}:=by
 refine z7.run H.i100 H.mixed Z Z ?_;refine fR Z ?_;refine Run.fin Z (z3.go ?_);exact .agg (.cons (.t Z) (.cons (.own Z) .nil))
theorem z7l (H:PrP P) (l:List Str) (hl:l.length<=140737488355328) (s:Str):z7 P 66 [.t (.lst (l.map sE)),.t (.str s)] ⟨[],0⟩ {v:= .t (.int .i64 (Zc s l 0))}:=by
 refine z7.run H.i66 H.mixed Z Z ?_;refine fR Z ?_;refine zD l (fun i (_:Unit)=>{env:=[(0,.t (.lst (l.map sE))),(1,.t (.str s)),(5,.t (.int .i64 i))],s:=⟨[],0⟩}) (fun r i _=>Zc s l 0=Zc s r i) 0 () Z Z Z Z Z ?_ ?_
 ·intro _ hinv;refine fR Z ?_;refine lM Z Z Z ?_;refine fM Z ?_;refine Run.zj Z Z (by simp) ?_;refine fR Z ?_;refine Run.fin Z (z3.go ?_);exact .t (by rw [hinv];rfl)
 ·intro i x r _ h1 hi hd hinv ih;refine fR Z ?_;refine lM Z Z Z ?_;refine fM Z ?_;refine Run.zm Z Z (by simp;omega) ?_;refine fR Z ?_;refine Mid.zg Z Z Z h1 Z Z ?_;refine fM Z ?_;refine Run.cond Z Z (fun h=>?_) (fun h=>?_)
  ·have h':(s==x)=true:=by rw [beq_iff_eq] at h⊢;exact h.symm
   refine fR Z ?_;refine Run.fin Z (z3.go ?_);exact .t (by rw [hinv];simp only [Zc];rw [if_pos h'])
  ·have h':¬ (s==x)=true:=by intro e;rw [beq_iff_eq] at e;rw [e] at h;simp at h
   refine fR Z ?_;refine aL Z Z Z Z Z ?_;refine fM Z ?_;exact zn 0 Z (ih () (by rw [hinv];simp only [Zc];rw [if_neg h'];rfl)) Z Z Z
def zfY (v:Val):Bool:=(decide (szV v<=4096)&&decide (dpV v<=24))&&z2y false v
theorem z7b (H:PrP P) (v:Val) (hv:v.Ok):z7 P 128 [v.v] ⟨[],0⟩ {v:= .t (.bool (zfY v))}:=by
 have h1:=z0I H.s.w.p18.toPr13 v hv;have h2:=QR H.s.w.p18.toPr13 v hv;have h3:=QD H.s.w.p18.toPr13 false v hv;unfold SzC at h1;unfold DpC at h2;unfold WhC at h3;refine z7.run H.i128 H.mixed Z Z ?_;refine fR Z ?_;refine Mid.call (h1) Z Z Z Z ?_;refine fM Z ?_;refine caG Z Z (fun hg=>⟨_,rfl,h2,rfl⟩) Z Z ?_;refine fM Z ?_;refine caG Z Z (fun hg=>⟨_,rfl,h3,rfl⟩) Z Z ?_;refine fM Z ?_;refine Run.fin Z (z3.go ?_);exact .t Z
def CoK (F:Co):Prop:=∀lit t v w,t.Ok->v.Ok->(F lit t v w).1.Ok
theorem z6p {rec:Val->W2->Val×W2} (h:∀x w,x.Ok->(rec x w).1.Ok):∀(l:List Val) (w:W2),(∀x,x∈l->x.Ok)->(YH rec l w).1.length<=l.length/\∀x,x∈(YH rec l w).1->x.Ok
 |[],w,_=>by simp [YH]
 |y::r,w,ho=>by
  simp only [YH];split
  ·obtain ⟨i1,i2⟩:=z6p h r (rec y w).2 fun x hx=>ho x (by simp [hx])
   refine ⟨by simp only [List.length_cons];omega,fun x hx=>?_⟩
   simp only [List.mem_cons] at hx
   rcases hx with rfl|hx
   ·exact h y w (ho y (by simp))
   ·exact i2 x hx
  ·simp
theorem z9o {v:Val} (hv:v.Ok):(Yk v).length*80<=B47/\∀x,x∈Yk v->x.Ok:=by
 unfold Yk;split
 ·exact ⟨hv.il,hv.it⟩
 ·exact ⟨by show 1*80<=140737488355328;decide,by intro x hx;simp at hx;subst hx;exact hv⟩
theorem zdz {rec:Val->W2->Val×W2} (h:∀x w,x.Ok->(rec x w).1.Ok) {v:Val} (hv:v.Ok) (w:W2):(z5O rec v w).1.Ok:=by
 obtain ⟨i1,i2⟩:=z9o hv;obtain ⟨j1,j2⟩:=z6p h (Yk v) w i2;unfold z5O;exact .mk (by have:B47=140737488355328:=rfl;omega) (by simp) j2 (by simp) (by simp)
theorem zd9 {n:Str} {v:Val} (hv:v.Ok):((z5t n v).getD Val.zero).Ok:=by
 unfold z5t;split
 ·exact hv
 ·split
  ·exact hv
  ·split
   ·exact .mk (by decide) (by decide) (by simp) (by have:=zbi v.int;omega) (by simp)
   ·exact Val.ZD
theorem zdy {t:Def} {lit:Bool} {v:Val} (hv:v.Ok):((z63 t lit v).getD Val.zero).Ok:=by
 unfold z63;split
 ·exact .mk (by decide) (by decide) (by simp) hv.tl (by simp)
 ·exact Val.ZD
theorem zex {v:Val} (hv:v.Ok) {n:Str}:((Wd v n).getD Val.zero).Ok:=by
 cases hg:Wd v n with
 |none=>exact Val.ZD
 |some y=>exact z8Z hv hg
theorem z9R {F:Co} (h:CoK F) {lit:Bool} {v:Val} (hv:v.Ok) {x:Input} (hx:x.Ok) {w:W2} {y:Val×W2} (he:wS F lit v x w=some y):y.1.Ok:=by
 unfold wS at he;split at he
 ·simp only [Option.some.injEq] at he;subst he;exact h _ _ _ _ hx.t (zex hv)
 ·split at he
  ·simp only [Option.some.injEq] at he;subst he;exact h _ _ _ _ hx.t hx.v
  ·split at he
   ·simp only [Option.some.injEq] at he;subst he;exact Val.ZD
   ·cases he
theorem z5u {F:Co} (h:CoK F) {lit:Bool} {t:List Input} {v:Val} (hv:v.Ok):∀(l:List Input) (i:Nat) (w:W2),(∀x,x∈l->x.Ok)->(Y6 F lit t v i l w).1.length<=l.length/\∀y,y∈(Y6 F lit t v i l w).1->y.1.length<=140737488355328/\y.2.Ok
 |[],i,w,_=>by simp [Y6]
 |x::r,i,w,ho=>by
  have hr:∀(i:Nat) (w:W2),(Y6 F lit t v i r w).1.length<=(x::r).length/\∀y,y∈(Y6 F lit t v i r w).1->y.1.length<=140737488355328/\y.2.Ok:=fun i w=>by
   obtain ⟨i1,i2⟩:=z5u h hv r i w fun x hx=>ho x (by simp [hx])
   exact ⟨by simp only [List.length_cons];omega,i2⟩
  simp only [Y6];split
  ·split
   ·exact hr _ _
   ·split
    ·exact hr _ _
    ·rename_i y he;obtain ⟨i1,i2⟩:=z5u (lit:=lit) (t:=t) h hv r (i+1) y.2 fun x hx=>ho x (by simp [hx])
     refine ⟨by simp only [List.length_cons];omega,fun z hz=>?_⟩
     simp only [List.mem_cons] at hz
     rcases hz with rfl|hz
     ·exact ⟨(ho x (by simp)).nm,z9R h hv (ho x (by simp)) he⟩
     ·exact i2 z hz
  ·simp
theorem zdF {F:Co} (h:CoK F) {lit:Bool} {t:Def} (ht:t.Ok) (hni:t.ze.length<=1099511627776) {v:Val} (hv:v.Ok) (w:W2):(z3r F lit t v w).1.Ok:=by
 unfold z3r;split
 ·obtain ⟨i1,i2⟩:=z5u h (lit:=lit) (t:=t.ze) hv t.ze 0 (w.1,z2r t.ze v.keys w.2) ht.n;refine .mk (by have:B47=140737488355328:=rfl;simp;omega) (by have:B47=140737488355328:=rfl;simp;omega) (fun x hx=>?_) (by simp) (fun x hx=>?_)
  ·obtain ⟨y,hy,rfl⟩:=List.mem_map.1 hx;exact (i2 y hy).2
  ·obtain ⟨y,hy,rfl⟩:=List.mem_map.1 hx;exact (i2 y hy).1
 ·exact Val.ZD
theorem zaB {ds:List Def} (hD:Z8 ds) (hni:∀d,d∈ds->d.ze.length<=1099511627776) {F:Co} (h:CoK F) (l:Int):CoK (coB ds l F):=by
 intro lit t v w ht hv
 have hfo:((zf t.name ds).getD Def.zero).Ok/\((zf t.name ds).getD Def.zero).ze.length<=1099511627776:=by
  cases hg:zf t.name ds with
  |none=>exact ⟨Def.ZD,by simp [Def.zero]⟩
  |some y=>exact ⟨hD.d y (ZG hg),hni y (ZG hg)⟩
 unfold coB
 repeat' split
 all_goals first
  |exact Val.ZD
  |exact zdz (fun x w hx=>h _ _ _ _ (z4K ht) hx) hv _
  |exact zd9 hv
  |exact zdy hv
  |exact zdF h hfo.1 hfo.2 hv _
theorem zcw {ds:List Def} (hD:Z8 ds) (hni:∀d,d∈ds->d.ze.length<=1099511627776):∀k,CoK (coN ds k)
 |0=>zaB hD hni (fun _ _ _ _ _ _=>Val.ZD) _
 |k+1=>zaB hD hni (zcw hD hni k) _
theorem zfn {ds:List Def} (hD:Z8 ds) (hni:∀d,d∈ds->d.ze.length<=1099511627776) {t:Ref} (ht:t.Ok) {v:Val} (hv:v.Ok):(qq ds t v).1.Ok:=by
 unfold qq z6N;split
 ·exact zcw hD hni 24 _ _ _ _ ht hv
 ·exact Val.ZD
def z2v (ds:List Def) (x:Input) (a:Arg):Bool:=((qq ds x.ty a.val).2 !=0||!zfY a.val)||!C35.z88 (qq ds x.ty a.val).1 a.val
def w5 (ds:List Def):List Input->List Arg->Bool
 |[],l=>l.isEmpty
 |x::r,[]=>if (x.has||nnF x.ty.zr)=true then false else w5 ds r []
 |x::r,a::l=>if (a.name==x.name)=true then (if z2v ds x a=true then false else w5 ds r l) else if (x.has||nnF x.ty.zr)=true then false else w5 ds r (a::l)
theorem zaa (H:PrP P) (ds:List Def) (hD:Z8 ds) (hni:∀d,d∈ds->d.ze.length<=1099511627776) (xs:List Input) (hx:xs.length<=140737488355328) (hxo:∀x,x∈xs->x.Ok) (l:List Arg) (hl:l.length<=140737488355328) (hlo:∀a,a∈l->a.Ok):
  z7 P 102 [yS ds,.t (.lst (xs.map Input.enc)),.t (.lst (l.map Arg.enc))] ⟨[],0⟩ {v:= .t (.bool (w5 ds xs l))}:=by
 generalize hR:w5 ds xs l=R;refine z7.run H.i102 H.mixed Z Z ?_;refine fR Z ?_;refine zD xs (fun i (k:Nat)=>{env:=[(1,.t (.lst (xs.map Input.enc))),(2,.t (.lst (l.map Arg.enc))),(3,.ptr 0 0),(7,.t (.int .i64 k)),(8,.t (.int .i64 i))],s:=⟨[(0,.cells [.t (.lst (ds.map Def.enc))])],1⟩}) (fun r i k=>k<=l.length/\w5 ds r (l.drop k)=R) 1 0 Z ⟨Nat.zero_le _,hR⟩ Z Z Z ?_ ?_
 ·rintro k ⟨hk,hinv⟩;have hk':k<=l.length:=hk
  have e:((k:Int)==(l.length:Int))=R:=by
   rw [←hinv,w5];by_cases hkl:k=l.length
   ·rw [hkl,List.drop_length];simp
   ·have h1:((k:Int)==(l.length:Int))=false:=by simp;omega
    have h2:(l.drop k).isEmpty=false:=by
     rw [List.drop_eq_getElem_cons (by omega:k<l.length)];rfl
    rw [h1,h2]
  refine fR Z ?_;refine lM Z Z Z ?_;refine fM Z ?_;refine Run.zj Z Z (by simp) ?_;refine fR Z ?_;refine lM Z Z Z ?_;refine fM Z ?_;refine Run.fin Z (z3.go ?_);exact .t (by rw [e])
 ·rintro i x r k k1 hi hd ⟨hk,hinv⟩ ih;have hk':k<=l.length:=hk;have hxx:=hxo x (zMG k1);by_cases hlt:k<l.length
  ·have ha:l[k]?=some l[k]:=List.getElem?_eq_getElem hlt;have hdr:l.drop k=l[k]::l.drop (k+1):=List.drop_eq_getElem_cons hlt;generalize l[k]=a at ha hdr;have hao:=hlo a (zMG ha);rw [hdr] at hinv;simp only [w5] at hinv
   have hdt:decide ((k:Int)<(l.length:Int))=true:=by simp;omega
   refine fR Z ?_;refine lM Z Z Z ?_;refine fM Z ?_;refine Run.zm Z Z (by simp;omega) ?_;refine fR Z ?_;refine lM Z Z Z ?_;refine fM Z ?_;refine elG Z Z Z Z ha Z Z ?_;refine fM Z ?_;refine elG Z Z Z Z k1 Z Z ?_;refine fM Z ?_;refine Run.cond Z Z (fun h1=>?_) (fun h1=>?_)
   ·have h1':(a.name==x.name)=true:=by rw [hdt,Bool.true_and] at h1;exact h1
    rw [if_pos h1'] at hinv;refine fR Z ?_;refine Mid.zg Z Z Z k1 Z Z ?_;refine fM Z ?_;refine Mid.zg Z Z Z ha Z Z ?_;refine fM Z ?_;refine Mid.call (z6Z H.s.w ds hD hni x.ty hxx.t a.val hao) Z Z Z Z ?_;refine fM Z ?_;refine elG Z Z Z Z ha Z Z ?_;refine fM Z ?_;refine caG Z Z (fun hg=>⟨_,rfl,z7b H a.val hao,rfl⟩) Z Z ?_;refine fM Z ?_;refine elG Z Z Z Z ha Z Z ?_;refine fM Z ?_;refine caG Z Z (fun hg=>⟨_,rfl,C35.zbX H.c (qq ds x.ty a.val).1 a.val (zfn hD hni hxx.t hao) hao,rfl⟩) Z Z ?_;refine fM Z ?_;refine Run.cond Z Z (fun h2=>?_) (fun h2=>?_)
    ·have h2':z2v ds x a=true:=h2;rw [if_pos h2'] at hinv;subst hinv;refine fR Z ?_;refine Run.fin Z (z3.go ?_);exact .t Z
    ·have h2':z2v ds x a=false:=h2;rw [if_neg (by rw [h2'];simp)] at hinv;refine fR Z ?_;refine aL Z Z Z Z Z ?_;refine fM Z ?_;refine aL Z Z Z Z Z ?_;refine fM Z ?_;exact zn 1 Z (ih (k+1) ⟨by omega,hinv⟩) rfl rfl rfl
   ·have h1':(a.name==x.name)=false:=by rw [hdt,Bool.true_and] at h1;exact h1
    rw [if_neg (by rw [h1'];simp)] at hinv;refine fR Z ?_;refine Mid.zg Z Z Z k1 Z Z ?_;refine fM Z ?_;refine elG Z Z Z Z k1 Z Z ?_;refine fM Z ?_;refine caG Z Z (fun hg=>⟨_,rfl,z61 H.s.w.p18.toPr13.toPr x.ty hxx.t,rfl⟩) Z Z ?_;refine fM Z ?_;refine Run.cond Z Z (fun h3=>?_) (fun h3=>?_)
    ·rw [if_pos h3] at hinv;subst hinv;refine fR Z ?_;refine Run.fin Z (z3.go ?_);exact .t Z
    ·rw [if_neg (by rw [h3];simp),←hdr] at hinv;refine fR Z ?_;refine aL Z Z Z Z Z ?_;refine fM Z ?_;exact zn 1 Z (ih k ⟨by omega,hinv⟩) rfl rfl rfl
  ·have hdr:l.drop k=[]:=List.drop_eq_nil_of_le (by omega);rw [hdr] at hinv;simp only [w5] at hinv
   have hdf:decide ((k:Int)<(l.length:Int))=false:=by simp;omega
   refine fR Z ?_;refine lM Z Z Z ?_;refine fM Z ?_;refine Run.zm Z Z (by simp;omega) ?_;refine fR Z ?_;refine lM Z Z Z ?_;refine fM Z ?_;rw [hdf];refine Mid.zbh Z Z Z Z Z (by simp;omega) Z ?_;refine Mid.W7 Z Z Z Z Z ?_;refine Mid.W7 Z Z Z Z Z ?_;refine fM Z ?_;refine elG Z Z Z Z k1 Z Z ?_;refine fM Z ?_;refine Mid.W7 Z Z Z Z Z ?_;refine fM Z ?_;refine Run.zj Z Z Z ?_;refine fR Z ?_;refine Mid.zg Z Z Z k1 Z Z ?_;refine fM Z ?_;refine elG Z Z Z Z k1 Z Z ?_;refine fM Z ?_;refine caG Z Z (fun hg=>⟨_,rfl,z61 H.s.w.p18.toPr13.toPr x.ty hxx.t,rfl⟩) Z Z ?_;refine fM Z ?_;refine Run.cond Z Z (fun h3=>?_) (fun h3=>?_)
   ·rw [if_pos h3] at hinv;subst hinv;refine fR Z ?_;refine Run.fin Z (z3.go ?_);exact .t Z
   ·rw [if_neg (by rw [h3];simp),←hdr] at hinv;refine fR Z ?_;refine aL Z Z Z Z Z ?_;refine fM Z ?_;exact zn 1 Z (ih k ⟨by omega,hinv⟩) rfl rfl rfl
end Go.GB.C29
namespace Go.GB.C29
open Go.GB Go.GB.C11 Go.GB.C18
variable {P:Program}
def zck (P:Program) (l:List za):Prop:=z7 P 17 [.t (.lst (l.map za.enc))] ⟨[],0⟩ {v:= .t (.int .i64 ((za.zQ l:Nat):Int))}
theorem z06 {p:za}:∀{l:List za},p∈l->za.zQ p.z5<za.zQ l
 |[],h=>by simp at h
 |q::r,h=>by
  simp only [List.mem_cons] at h;simp only [za.zQ]
  rcases h with rfl|h
  ·have:=za.WD p;omega
  ·have:=z06 h;omega
theorem z6U (H:PrP P) (l:List za) (hb:za.zQ l<=1099511627776) (hrec:∀p,p∈l->zck P p.z5):zck P l:=by
 have hl:=za.z2W l;unfold zck;refine z7.run H.i17 H.mixed Z Z ?_;refine fR Z ?_;refine lM Z Z Z ?_;refine fM Z ?_;refine zD l (fun i (n:Nat)=>{env:=[(0,.t (.lst (l.map za.enc))),(3,.t (.int .i64 n)),(4,.t (.int .i64 i))],s:=⟨[],0⟩}) (fun r i n=>n+za.zQ r=za.zQ l+r.length) 0 l.length Z (Nat.add_comm _ _) Z Z Z ?_ ?_
 ·intro n hn;simp only [za.zQ,List.length_nil,Nat.add_zero] at hn;have hn':n=za.zQ l:=hn;refine fR Z ?_;refine lM Z Z Z ?_;refine fM Z ?_;refine Run.zj Z Z (by simp) ?_;refine fR Z ?_;refine Run.fin Z (z3.go ?_);exact .t (by rw [hn'])
 ·intro i x r n h1 hi hd hn ih;have hc:=hrec x (zMG h1);unfold zck at hc;have hx:=za.WD x;have hxm:=z06 (zMG h1);have hlr:=za.z2W r
  have hlr2:r.length<=l.length:=by rw [←hd];simp
  simp only [za.zQ,List.length_cons] at hn;refine fR Z ?_;refine lM Z Z Z ?_;refine fM Z ?_;refine Run.zm Z Z (by simp;omega) ?_;refine fR Z ?_;refine Mid.Zl (za.zw x) Z Z Z h1 Z Z ?_;refine fM Z ?_;refine Mid.call (hc) Z Z Z Z ?_;refine aN Z Z Z ?_;refine fM Z ?_;refine aL Z Z Z Z Z ?_;refine fM Z ?_;exact zn 0 Z (ih (n+za.zQ x.z5) (by omega)) Z Z Z
theorem z3Y (H:PrP P):∀(k:Nat) (l:List za),za.zQ l<k->za.zQ l<=1099511627776->zck P l
 |0,l,h,_=>by omega
 |k+1,l,h,hb=>z6U H l hb fun p hp=>z3Y H k p.z5 (by have:=z06 hp;omega) (by have:=z06 hp;omega)
theorem z2z (H:PrP P) (l:List za) (hb:za.zQ l<=1099511627776):z7 P 17 [.t (.lst (l.map za.enc))] ⟨[],0⟩ {v:= .t (.int .i64 ((za.zQ l:Nat):Int))}:=z3Y H _ l (Nat.lt_succ_self _) hb
structure SzF (x:Field):Prop where
 a:x.args.length<=1048576
 d:x.zX.length<=1048576
structure SzD (t:Def):Prop where
 i:t.implements.length<=1048576
 d:t.zX.length<=1048576
 f:t.fields.length<=1048576
 m:t.members.length<=1048576
 n:t.ze.length<=1048576
 x:∀x,x∈t.fields->SzF x
def szF:List Field->Nat->Nat
 |[],n=>n
 |x::r,n=>if n<=400 then szF r (n+x.args.length+x.zX.length) else n
def szD:List Def->Nat->Nat
 |[],n=>n
 |t::r,n=>if n<=400 then szD r (szF t.fields (n+t.implements.length+t.zX.length+t.fields.length+t.members.length+t.ze.length)) else n
theorem z9B (H:PrP P) (ds:List Def) (hl:ds.length<=1048576) (hs:∀t,t∈ds->SzD t):z7 P 19 [yS ds,.t (.int .i64 400)] ⟨[],0⟩ {v:= .t (.int .i64 ((szD ds ds.length:Nat):Int))}:=by
 refine z7.run H.i19 H.mixed Z Z ?_;refine fR Z ?_;refine lM Z Z Z ?_;refine fM Z ?_
 refine zD ds (fun i (n:Nat)=>{env:=[(1,.t (.int .i64 400)),(2,.ptr 0 0),(5,.t (.int .i64 n)),(6,.t (.int .i64 i))],s:=⟨[(0,.cells [.t (.lst (ds.map Def.enc))])],1⟩}) (fun r i n=>szD ds ds.length=szD r n/\n<=10000000) 1 ds.length Z ⟨rfl,by omega⟩ rfl rfl rfl ?_ ?_
 ·rintro n ⟨hn,_⟩;have hn':szD ds ds.length=n:=hn;refine fR Z ?_;refine lM Z Z Z ?_;refine fM Z ?_;refine Run.zj Z Z (by simp) ?_;refine fR Z ?_;refine Run.fin Z (z3.go ?_);exact .t (by rw [hn'])
 ·rintro i t r n h1 hi hd ⟨hn,hn2⟩ ih;have ht:=hs t (zMG h1);have t1:=ht.i;have t2:=ht.d;have t3:=ht.f;have t4:=ht.m;have t5:=ht.n;refine fR Z ?_;refine lM Z Z Z ?_;refine fM Z ?_;by_cases hc:n<=400
  ·rw [szD,if_pos hc] at hn;refine Run.zm Z Z (by simp;omega) ?_;refine fR Z ?_;refine Mid.zg Z Z Z h1 Z Z ?_;refine fM Z ?_;refine lM Z Z Z ?_;refine aN Z Z Z ?_;refine fM Z ?_;refine lM Z Z Z ?_;refine aN Z Z Z ?_;refine fM Z ?_;refine lM Z Z Z ?_;refine aN Z Z Z ?_;refine fM Z ?_;refine lM Z Z Z ?_;refine aN Z Z Z ?_;refine fM Z ?_;refine lM Z Z Z ?_;refine aN Z Z Z ?_;refine fM Z ?_
   refine zD t.fields (fun j (m:Nat)=>{env:=[(1,.t (.int .i64 400)),(2,.ptr 0 0),(5,.t (.int .i64 m)),(6,.t (.int .i64 i)),(7,.ptr 1 0),(8,.t (.int .i64 j))],s:=⟨[(0,.cells [.t (.lst (ds.map Def.enc))]),(1,(.cells [.t (.int .i64 t.kind),.t (.str t.name),.t (.lst (t.implements.map sE)),.t (.lst (t.zX.map Dir.enc)),.t (.lst (t.fields.map Field.enc)),.t (.lst (t.members.map zN.enc)),.t (.lst (t.ze.map Input.enc))]))],2⟩}) (fun r2 j m=>szD ds ds.length=szD r (szF r2 m)/\m<=10000000) 2 (n+t.implements.length+t.zX.length+t.fields.length+t.members.length+t.ze.length) Z ⟨hn,by omega⟩ rfl rfl rfl ?_ ?_
   ·rintro m ⟨hm,hm2⟩;refine fR Z ?_;refine lM Z Z Z ?_;refine fM Z ?_;refine Run.zj Z Z (by simp) ?_;refine fR Z ?_;refine aL Z Z Z Z Z ?_;refine fM Z ?_;exact zn 1 Z (ih m ⟨hm,hm2⟩) Z Z Z
   ·rintro j x r2 m h2 hj hjd ⟨hm,hm2⟩ ih2;have hx:=ht.x x (zMG h2);have x1:=hx.a;have x2:=hx.d;refine fR Z ?_;refine lM Z Z Z ?_;refine fM Z ?_;by_cases hc2:m<=400
    ·rw [szF,if_pos hc2] at hm;refine Run.zm Z Z (by simp;omega) ?_;refine fR Z ?_;refine Mid.zg Z Z Z h2 Z Z ?_;refine fM Z ?_;refine lM Z Z Z ?_;refine aN Z Z Z ?_;refine fM Z ?_;refine Mid.zg Z Z Z h2 Z Z ?_;refine fM Z ?_;refine lM Z Z Z ?_;refine aN Z Z Z ?_;refine fM Z ?_;refine aL Z Z Z Z Z ?_;refine fM Z ?_;exact zn 2 Z (ih2 (m+x.args.length+x.zX.length) ⟨hm,by omega⟩) rfl rfl rfl
    ·rw [szF,if_neg hc2] at hm;refine Run.zj Z Z (by simp;omega) ?_;refine fR Z ?_;refine aL Z Z Z Z Z ?_;refine fM Z ?_;exact zn 1 Z (ih m ⟨hm,hm2⟩) Z Z Z
  ·rw [szD,if_neg hc] at hn;refine Run.zj Z Z (by simp;omega) ?_;refine fR Z ?_;refine Run.fin Z (z3.go ?_);exact .t (by rw [hn])
def tTn:Str:=[95,95,116,121,112,101,110,97,109,101]
def z1g (ds:List Def) (on nm:Str):Option Field:=Zb nm ((zf on ds).getD Def.zero).fields
def z1O (ds:List Def) (p:za):Bool:=
 if (decide (p.initial< -1)||(decide (p.initial≥0)&&!Wu p.ty.zr))=true then false
 else if (!zq p.key||(zdC p.key&&(!(p.key==tTn)||!(p.name==tTn))))=true then false
 else if (p.name==tTn)=true then (z3d p.ty z8v&&((p.args.length:Int)==0))&&((p.z5.length:Int)==0)
 else if ((!(z1g ds p.on p.name).isSome||!z3d ((z1g ds p.on p.name).getD Field.zero).ty p.ty)||!w5 ds ((z1g ds p.on p.name).getD Field.zero).args p.args)=true then false
 else ((p.z5.length:Int)==0)||!zbM ds p.ty.name
theorem zaL {ds:List Def} (hD:Z8 ds) (on nm:Str):((z1g ds on nm).getD Field.zero).Ok:=by
 unfold z1g
 cases hg:Zb nm ((zf on ds).getD Def.zero).fields with
 |none=>exact Field.ZD
 |some y=>
  have hm:=w7 hg
  cases ht:zf on ds with
  |none=>rw [ht] at hm;simp [Def.zero] at hm
  |some t=>rw [ht] at hm;exact (hD.d t (ZG ht)).f y hm
theorem zbC {ds:List Def} (hD:Z8 ds) (on:Str):((zf on ds).getD Def.zero).Ok:=by
 cases ht:zf on ds with
 |none=>exact Def.ZD
 |some t=>exact hD.d t (ZG ht)
theorem zbn:z8v.Ok:=⟨by decide,by decide⟩
theorem z9A (H:PrP P) (ds:List Def) (hD:Z8 ds) (hni:∀d,d∈ds->d.ze.length<=1099511627776) (p:za) (hp:p.Ok):z7 P 67 [yS ds,p.v] ⟨[],0⟩ {v:= .t (.bool (z1O ds p))}:=by
 have hal:=hp.al;have hpl:=hp.pl;have hdo:=zbC hD p.on;have hfo:=zaL hD p.on p.name;have hfa:=hfo.al;have hff:=qK H.s.w.p18.toPr13.toPr ((zf p.on ds).getD Def.zero) hdo.fl p.name;generalize hR:z1O ds p=R;unfold z1O tTn at hR;change z7 P 101 _ _ {v:= .tup [((z1g ds p.on p.name).getD Field.zero).v,.t (.bool (z1g ds p.on p.name).isSome)]} at hff;generalize z1g ds p.on p.name=fo at hR hff hfo hfa;refine z7.run H.i67 H.mixed Z Z ?_;refine fR Z ?_;refine caG Z Z (fun hg=>⟨_,rfl,QH H.s.w.p18.toPr13.toPr p.ty hp.t,rfl⟩) Z Z ?_;refine fM Z ?_;refine Run.cond Z Z (fun h1=>?_) (fun h1=>?_)
 ·rw [if_pos h1] at hR;subst hR;refine fR Z ?_;refine Run.fin Z (z3.go ?_);exact .t Z
 rw [if_neg (by rw [h1];simp)] at hR;refine fR Z ?_;refine Mid.call (z6e H.s.w.p18.toPr13.toPr p.key) Z Z Z Z ?_;refine fM Z ?_;refine caG Z Z (fun hg=>⟨_,rfl,zdb H.s.w.p18.toPr13.toPr p.key,rfl⟩) Z Z ?_;refine fM Z ?_;refine Run.cond Z Z (fun h2=>?_) (fun h2=>?_)
 ·rw [if_pos h2] at hR;subst hR;refine fR Z ?_;refine Run.fin Z (z3.go ?_);exact .t Z
 rw [if_neg (by rw [h2];simp)] at hR;refine fR Z ?_;refine Run.cond Z Z (fun h3=>?_) (fun h3=>?_)
 ·rw [if_pos h3] at hR;subst hR;refine fR Z ?_;refine Mid.call (zgf H) Z Z Z Z ?_;skip;refine Mid.call (qx H.s.w.p18.toPr13 p.ty z8v hp.t zbn) Z Z Z Z ?_;refine fM Z ?_;refine lMG Z Z Z Z ?_;refine fM Z ?_;refine lMG Z Z Z Z ?_;refine fM Z ?_;refine Run.fin Z (z3.go ?_);exact .t Z
 rw [if_neg (by rw [h3];simp)] at hR;refine fR Z ?_;refine Mid.call (yh H.s.w.p18.toPr13.toPr ds hD.l p.on) Z Z Z Z ?_;refine fM Z ?_;refine Mid.call (hff) Z Z Z Z ?_;refine fM Z ?_;refine caG Z Z (fun hg=>⟨_,rfl,qx H.s.w.p18.toPr13 (fo.getD Field.zero).ty p.ty hfo.t hp.t,rfl⟩) Z Z ?_;refine fM Z ?_;refine caG Z Z (fun hg=>⟨_,rfl,zaa H ds hD hni (fo.getD Field.zero).args hfa hfo.a p.args (by omega) hp.aa,rfl⟩) Z Z ?_;refine fM Z ?_;refine Run.cond Z Z (fun h4=>?_) (fun h4=>?_)
 ·rw [if_pos h4] at hR;subst hR;refine fR Z ?_;refine Run.fin Z (z3.go ?_);exact .t Z
 rw [if_neg (by rw [h4];simp)] at hR;subst hR;refine fR Z ?_;refine lM Z Z Z ?_;refine fM Z ?_;refine caG Z Z (fun hg=>⟨_,rfl,z8j H.s.w.p18.toPr13.toPr ds hD p.ty.name,rfl⟩) Z Z ?_;refine fM Z ?_;refine Run.fin Z (z3.go ?_);exact .t Z
def zdx (pre:List za) (p:za):Bool:=pre.any fun q=>q.on==p.on&&q.key==p.key
def lrL (ds:List Def) (lv:Nat) (rec:Str->List za->Bool) (ts:List Str) (l0:List za):Nat->Int->List za->Bool
 |_,_,[]=>true
 |i,last,p::r=>if (((decide ((lv:Int)>24)||decide (Zc p.on ts 0<last))||!z1O ds p)||!rec p.ty.name p.z5)=true then false
   else if zdx (l0.take i) p=true then false else lrL ds lv rec ts l0 (i+1) (Zc p.on ts 0) r
def lrB (ds:List Def) (lv:Nat) (rec:Str->List za->Bool):Str->List za->Bool:=fun nm l=>lrL ds lv rec (y4 ds nm) l 0 0 l
def LrC (P:Program) (ds:List Def) (lv:Nat) (F:Str->List za->Bool):Prop:=∀(nm:Str) (l:List za),l.length*160<=140737488355328->(∀x,x∈l->x.Ok)->
 z7 P 38 [yS ds,.t (.str nm),.t (.lst (l.map za.enc)),.t (.int .i64 lv)] ⟨[],0⟩ {v:= .t (.bool (F nm l))}
theorem z6X (ds:List Def) (hD:Z8 ds) (nm:Str):(y4 ds nm).length<=140737488355328:=by
 exact Nat.le_trans (qM ds nm) hD.l
theorem z4g (H:PrP P) (ds:List Def) (hD:Z8 ds) (hni:∀d,d∈ds->d.ze.length<=1099511627776) (lv:Nat) (hlv:lv<=100) (rec:Str->List za->Bool) (hrec:lv<=24->LrC P ds (lv+1) rec):LrC P ds lv (lrB ds lv rec):=by
 intro nm l hl ho;generalize hR:lrB ds lv rec nm l=R;unfold lrB at hR;have hpos:=z6X ds hD nm;refine z7.run H.i38 H.mixed Z Z ?_;refine fR Z ?_;refine Mid.call (z0i H.s.w.p18.toPr13.toPr ds hD nm) Z Z Z Z ?_;refine fM Z ?_;generalize y4 ds nm=ts at hR hpos;refine zD l (fun i (n:Int)=>{env:=[(2,.t (.lst (l.map za.enc))),(3,.t (.int .i64 lv)),(4,.ptr 0 0),(9,.t (.lst (ts.map sE))),(10,.t (.int .i64 n)),(11,.t (.int .i64 i))],s:=⟨[(0,.cells [.t (.lst (ds.map Def.enc))])],1⟩}) (fun r i n=>lrL ds lv rec ts l i n r=R) 1 0 Z hR Z Z Z ?_ ?_
 ·intro n hn;have hR':R=true:=hn.symm;subst hR';refine fR Z ?_;refine lM Z Z Z ?_;refine fM Z ?_;refine Run.zj Z Z (by simp) ?_;refine fR Z ?_;refine Run.fin Z (z3.go ?_);exact .t Z
 ·intro i p r n k1 hi hd hn ih;have hpo:=ho p (zMG k1);have hppl:=hpo.pl;simp only [lrL] at hn;refine fR Z ?_;refine lM Z Z Z ?_;refine fM Z ?_;refine Run.zm Z Z (by simp;omega) ?_;refine fR Z ?_;refine Mid.Zl (za.zw p) Z Z Z k1 Z Z ?_;refine fM Z ?_;refine Mid.call (z7l H ts hpos p.on) Z Z Z Z ?_;refine fM Z ?_;generalize Zc p.on ts 0=at_ at hn
  refine Mid.wB (za.zw p) Z Z Z Z k1 Z (by (repeat' (first |exact trivial|exact Bool.not_or_self _|exact yK _|exact yJ _|exact grd3 _ _|exact yL _ _|refine And.intro ?_ ?_|exact rfl|(simp;done)|(simp<;>omega)));done) (by (repeat' (first |exact trivial|exact Bool.not_or_self _|exact yK _|exact yJ _|exact grd3 _ _|exact yL _ _|refine And.intro ?_ ?_|exact rfl|(simp;done)|(simp<;>omega)));done) Z ?_
  refine fM Z ?_;refine caG Z Z (fun hg=>⟨_,rfl,z9A H ds hD hni p hpo,rfl⟩) Z Z ?_;refine fM Z ?_
  refine Mid.wB (za.zw p) Z Z Z Z k1 Z (by (repeat' (first |exact trivial|exact Bool.not_or_self _|exact yK _|exact yJ _|exact grd3 _ _|exact yL _ _|refine And.intro ?_ ?_|exact rfl|(simp;done)|(simp<;>omega)));done) (by (repeat' (first |exact trivial|exact Bool.not_or_self _|exact yK _|exact yJ _|exact grd3 _ _|exact yL _ _|refine And.intro ?_ ?_|exact rfl|(simp;done)|(simp<;>omega)));done) Z ?_
  refine fM Z ?_
  refine Mid.wB (za.zw p) Z Z Z Z k1 Z (by (repeat' (first |exact trivial|exact Bool.not_or_self _|exact yK _|exact yJ _|exact grd3 _ _|exact yL _ _|refine And.intro ?_ ?_|exact rfl|(simp;done)|(simp<;>omega)));done) (by (repeat' (first |exact trivial|exact Bool.not_or_self _|exact yK _|exact yJ _|exact grd3 _ _|exact yL _ _|refine And.intro ?_ ?_|exact rfl|(simp;done)|(simp<;>omega)));done) Z ?_
  refine fM Z ?_;refine aLG Z Z Z Z Z Z ?_;refine caG Z Z (fun hg=>⟨_,rfl,hrec (by simp at hg;omega) p.ty.name p.z5 hppl hpo.p,rfl⟩) Z Z ?_;refine fM Z ?_;refine Run.cond Z Z (fun h1=>?_) (fun h1=>?_)
  ·rw [if_pos h1] at hn;subst hn;refine fR Z ?_;refine Run.fin Z (z3.go ?_);exact .t Z
  rw [if_neg (by rw [h1];simp)] at hn
  have hl2:(l.take i).length=i:=by simp;omega
  refine fR Z ?_;generalize hD2:zdx (l.take i) p=D2 at hn;refine zD (l.take i) (fun k (_:Unit)=>{env:=[(2,.t (.lst (l.map za.enc))),(3,.t (.int .i64 lv)),(4,.ptr 0 0),(9,.t (.lst (ts.map sE))),(10,.t (.int .i64 at_)),(11,.t (.int .i64 i)),(13,.t (.int .i64 k))],s:=⟨[(0,.cells [.t (.lst (ds.map Def.enc))])],1⟩}) (fun r2 k _=>zdx r2 p=D2) 1 () Z hD2 Z Z Z ?_ ?_
  ·intro _ hinv;have hinv':D2=false:=hinv.symm;rw [if_neg (by rw [hinv'];simp)] at hn;rw [hl2];refine fR Z ?_;refine Run.zj Z Z (by simp) ?_;refine fR Z ?_;refine aL Z Z Z Z Z ?_;refine fM Z ?_;exact zn 1 Z (ih at_ hn) Z Z Z
  ·intro k q r2 _ j1 hk hd2 hinv ih2
   have hki:k<i:=by omega
   have j2:l[k]?=some q:=by rw [List.getElem?_take,if_pos hki] at j1;exact j1
   have hinv':(q.on==p.on&&q.key==p.key||zdx r2 p)=D2:=hinv;refine fR Z ?_;refine Run.zm Z Z (by simp;omega) ?_;refine fR Z ?_;refine Mid.Zl (za.zw q) Z Z Z j2 Z Z ?_;refine fM Z ?_;refine Mid.Zl (za.zw p) Z Z Z k1 Z Z ?_;refine fM Z ?_
   refine Mid.wB (za.zw q) Z Z Z Z j2 Z (by (repeat' (first |exact trivial|exact Bool.not_or_self _|exact yK _|exact yJ _|exact grd3 _ _|exact yL _ _|refine And.intro ?_ ?_|exact rfl|(simp;done)|(simp<;>omega)));done) (by (repeat' (first |exact trivial|exact Bool.not_or_self _|exact yK _|exact yJ _|exact grd3 _ _|exact yL _ _|refine And.intro ?_ ?_|exact rfl|(simp;done)|(simp<;>omega)));done) Z ?_
   refine fM Z ?_
   refine Mid.wB (za.zw p) Z Z Z Z k1 Z (by (repeat' (first |exact trivial|exact Bool.not_or_self _|exact yK _|exact yJ _|exact grd3 _ _|exact yL _ _|refine And.intro ?_ ?_|exact rfl|(simp;done)|(simp<;>omega)));done) (by (repeat' (first |exact trivial|exact Bool.not_or_self _|exact yK _|exact yJ _|exact grd3 _ _|exact yL _ _|refine And.intro ?_ ?_|exact rfl|(simp;done)|(simp<;>omega)));done) Z ?_
   refine fM Z ?_;refine Run.cond Z Z (fun h2=>?_) (fun h2=>?_)
   ·rw [h2,Bool.true_or] at hinv';rw [if_pos hinv'.symm] at hn;subst hn;refine fR Z ?_;refine Run.fin Z (z3.go ?_);exact .t Z
   ·rw [h2,Bool.false_or] at hinv';refine fR Z ?_;refine aL Z Z Z Z Z ?_;refine fM Z ?_;exact zn 1 Z (ih2 () hinv') Z Z Z
def lrN (ds:List Def):Nat->Str->List za->Bool
 |0=>lrB ds 25 fun _ _=>false
 |k+1=>lrB ds (24 - k) (lrN ds k)
theorem zbS (H:PrP P) (ds:List Def) (hD:Z8 ds) (hni:∀d,d∈ds->d.ze.length<=1099511627776):∀(k:Nat),k<=24->LrC P ds (25 - k) (lrN ds k)
 |0,_=>z4g H ds hD hni 25 (by omega) _ (fun h=>by omega)
 |k+1,hk=>by
  have h:=zbS H ds hD hni k (by omega)
  have e:25 - (k+1)=24 - k:=by omega
  rw [e]
  have e2:25 - k=24 - k+1:=by omega
  rw [e2] at h;exact z4g H ds hD hni (24 - k) (by omega) (lrN ds k) (fun _=>h)
def qT (ds:List Def) (kind:Int) (l:List za):Bool:=
 (((zf (yz kind) ds).isSome&&(((zf (yz kind) ds).getD Def.zero).kind==1))&&decide (((za.zQ l:Nat):Int)<=2048))&&lrN ds 24 ((zf (yz kind) ds).getD Def.zero).name l
theorem z7i (H:PrP P) (ds:List Def) (hD:Z8 ds) (hni:∀d,d∈ds->d.ze.length<=1099511627776) (kind:Int) (l:List za) (hl:l.length*160<=140737488355328) (ho:∀x,x∈l->x.Ok) (hc:za.zQ l<=1099511627776):
  z7 P 20 [yS ds,.agg [.t (.int .i64 kind),.t (.lst (l.map za.enc))]] ⟨[],0⟩ {v:= .t (.bool (qT ds kind l))}:=by
 have h24:=zbS H ds hD hni 24 (Nat.le_refl _) ((zf (yz kind) ds).getD Def.zero).name l hl ho;refine z7.run H.i20 H.mixed Z Z ?_;refine fR Z ?_;refine Mid.call (zb0 H.p29 kind) Z Z Z Z ?_;skip;refine Mid.call (yh H.s.w.p18.toPr13.toPr ds hD.l (yz kind)) Z Z Z Z ?_;refine fM Z ?_;refine caG Z Z (fun hg=>⟨_,rfl,z2z H l hc,rfl⟩) Z Z ?_;refine fM Z ?_;refine caG Z Z (fun hg=>⟨_,rfl,h24,rfl⟩) Z Z ?_;refine fM Z ?_;refine Run.fin Z (z3.go ?_);exact .t Z
end Go.GB.C29
namespace Go.GB.C29
open Go.GB Go.GB.C26
structure PrL (P:Program):Prop where
 r:zfX P
 p:PrP P
 mixed:P.follows .mixedOrders=true
 i7:zd P 7=some (n7,c7.bare,r7)
 i18:zd P 18=some (n18,c18.bare,r18)
variable {P:Program}
def zbU (n:Int) (k:zJ):Bool:=(decide (k.graph<0)||decide (k.graph≥n))||decide ((k.fields.length:Int)>10)
def z4e (n:Int) (j:zx):Bool:=((decide (j.graph<0)||decide (j.graph≥n))||decide ((j.req.length:Int)>10))||decide ((j.yc.length:Int)>10)
def z9d (s:zH) (ds:List Def):Bool:=
 if ((((!z2e C11.zq C11.Qy C11.YR ds||decide (((z9K ds).length:Int)>0))||decide ((s.z4.length:Int)>8))||decide ((s.keys.length:Int)>100))||decide ((s.zE.length:Int)>300))=true then false
 else !(s.keys.any (zbU s.z4.length))&&!(s.zE.any (z4e s.z4.length))
structure zdh (ds:List Def):Prop where
 ok:Z8 ds
 ni:∀d,d∈ds->d.ze.length<=1099511627776
 nf:∀d,d∈ds->∀f,f∈d.fields->f.args.length<=1099511627776
 c:(C11.Yi ds true).length<=4398046511104
 f:z2e C11.zq C11.Qy C11.YR ds=true->(C11.WS ds).length<=4398046511104
 d:(wQ ds ds).length<=1000000000000
 l:ds.length<=1048576
 sz:∀t,t∈ds->SzD t
theorem z5C (H:PrL P) (s:zH) (ds:List Def) (hD:zdh ds) (hd:s.doc= .lst (ds.map Def.enc)) (hg:s.z4.length<=140737488355328) (hk:s.keys.length<=140737488355328) (hj:s.zE.length<=140737488355328)
  (hkf:∀k,k∈s.keys->k.fields.length<=140737488355328) (hjf:∀j,j∈s.zE->j.req.length<=140737488355328/\j.yc.length<=140737488355328):z7 P 18 [s.v] ⟨[],0⟩ {v:= .t (.bool (z9d s ds))}:=by
 have hr:=z2P H.p.r (zem H.p.s) ds hD.ok;have hs:z2e C11.zq C11.Qy C11.YR ds=true->z7 P 36 [yS ds] ⟨[],0⟩ {v:= .t (.lst ((z9K ds).map C11.zk.enc))}:=fun h=>zah H.p.s ds hD.ok hD.ni hD.nf hD.c (hD.f h) hD.d;unfold yS at hr hs;rw [←hd] at hr hs;generalize hR:z9d s ds=R;unfold z9d at hR;generalize z2e C11.zq C11.Qy C11.YR ds=dr at hr hs hR;generalize z9K ds=sc at hs hR;refine z7.run H.i18 H.mixed Z Z ?_;refine fR Z ?_;refine lM Z Z Z ?_;refine fM Z ?_;refine Mid.call (hr) Z Z Z Z ?_;refine fM Z ?_;refine caG Z Z (fun hg=>⟨_,rfl,hs (by simpa using hg),rfl⟩) Z Z ?_;refine lMG Z Z Z Z ?_;refine fM Z ?_;refine lMG Z Z Z Z ?_;refine fM Z ?_;refine lMG Z Z Z Z ?_;refine fM Z ?_;refine Run.cond Z Z (fun h1=>?_) (fun h1=>?_)
 ·rw [if_pos h1] at hR;subst hR;refine fR Z ?_;refine Run.fin Z (z3.go ?_);exact .t Z
 rw [if_neg (by rw [h1];simp)] at hR;refine fR Z ?_;refine zD s.keys (fun i (_:Unit)=>{env:=[(1,.ptr 0 0),(3,.t (.int .i64 (s.z4.length:Nat))),(4,.t (.int .i64 i))],s:=⟨[(0,.cells [.t (.lst (s.z4.map sE)),.t s.doc,.t (.lst (s.keys.map zJ.enc)),.t (.lst (s.zE.map zx.enc))])],1⟩}) (fun r i _=>(!(r.any (zbU s.z4.length))&&!(s.zE.any (z4e s.z4.length)))=R) 1 () Z hR Z Z Z ?_ ?_
 ·intro _ hinv;simp only [List.any_nil,Bool.not_false,Bool.true_and] at hinv;refine fR Z ?_;refine lM Z Z Z ?_;refine fM Z ?_;refine Run.zj Z Z (by simp) ?_;refine fR Z ?_;refine zD s.zE (fun i (_:Unit)=>{env:=[(1,.ptr 0 0),(3,.t (.int .i64 (s.z4.length:Nat))),(5,.t (.int .i64 i))],s:=⟨[(0,.cells [.t (.lst (s.z4.map sE)),.t s.doc,.t (.lst (s.keys.map zJ.enc)),.t (.lst (s.zE.map zx.enc))])],1⟩}) (fun r i _=>(!(r.any (z4e s.z4.length)))=R) 1 () Z hinv Z Z Z ?_ ?_
  ·intro _ hinv;simp only [List.any_nil,Bool.not_false] at hinv;refine fR Z ?_;refine lM Z Z Z ?_;refine fM Z ?_;refine Run.zj Z Z (by simp) ?_;refine fR Z ?_;refine Run.fin Z (z3.go ?_);exact .t (by rw [←hinv])
  ·intro i j r _ k1 hi hd _ ih;have hjj:=hjf j (zMG k1);obtain ⟨hj1,hj2⟩:=hjj;rename_i hinv;refine fR Z ?_;refine lM Z Z Z ?_;refine fM Z ?_;refine Run.zm Z Z (by simp;omega) ?_;refine fR Z ?_;refine Mid.zg Z Z Z k1 Z Z ?_;refine fM Z ?_;refine elG Z Z Z Z k1 Z Z ?_;refine fM Z ?_;refine elG Z Z Z Z k1 Z Z ?_;refine fM Z ?_;refine lMG Z Z Z Z ?_;refine fM Z ?_;refine elG Z Z Z Z k1 Z Z ?_;refine fM Z ?_;refine lMG Z Z Z Z ?_;refine fM Z ?_;refine Run.cond Z Z (fun h2=>?_) (fun h2=>?_)
   ·have h2':z4e s.z4.length j=true:=h2;simp only [List.any_cons,h2',Bool.true_or,Bool.not_true] at hinv;subst hinv;refine fR Z ?_;refine Run.fin Z (z3.go ?_);exact .t Z
   ·have h2':z4e s.z4.length j=false:=h2;simp only [List.any_cons,h2',Bool.false_or] at hinv;refine fR Z ?_;refine aL Z Z Z Z Z ?_;refine fM Z ?_;exact zn 1 Z (ih () hinv) Z Z Z
 ·intro i k r _ k1 hi hd hinv ih;have hkk:=hkf k (zMG k1);refine fR Z ?_;refine lM Z Z Z ?_;refine fM Z ?_;refine Run.zm Z Z (by simp;omega) ?_;refine fR Z ?_;refine Mid.zg Z Z Z k1 Z Z ?_;refine fM Z ?_;refine elG Z Z Z Z k1 Z Z ?_;refine fM Z ?_;refine elG Z Z Z Z k1 Z Z ?_;refine fM Z ?_;refine lMG Z Z Z Z ?_;refine fM Z ?_;refine Run.cond Z Z (fun h2=>?_) (fun h2=>?_)
  ·have h2':zbU s.z4.length k=true:=h2;simp only [List.any_cons,h2',Bool.true_or,Bool.not_true,Bool.false_and] at hinv;subst hinv;refine fR Z ?_;refine Run.fin Z (z3.go ?_);exact .t Z
  ·have h2':zbU s.z4.length k=false:=h2;simp only [List.any_cons,h2',Bool.false_or] at hinv;refine fR Z ?_;refine aL Z Z Z Z Z ?_;refine fM Z ?_;exact zn 1 Z (ih () hinv) Z Z Z
def wi (s:zH) (ds:List Def) (kind:Int) (z5:List za):Bool:=
 ((!z9d s ds||decide (((szD ds ds.length:Nat):Int)>400))||decide (((za.zQ z5:Nat):Int)>200))||!qT ds kind z5
theorem z2x (H:PrL P) (s:zH) (ds:List Def) (hD:zdh ds) (hd:s.doc= .lst (ds.map Def.enc)) (hg:s.z4.length<=140737488355328) (hk:s.keys.length<=140737488355328) (hj:s.zE.length<=140737488355328)
  (hkf:∀k,k∈s.keys->k.fields.length<=140737488355328) (hjf:∀j,j∈s.zE->j.req.length<=140737488355328/\j.yc.length<=140737488355328)
  (kind:Int) (z5:List za) (hl:z5.length*160<=140737488355328) (ho:∀x,x∈z5->x.Ok) (hc:za.zQ z5<=1099511627776):
  z7 P 7 [s.v,.agg [.t (.int .i64 kind),.t (.lst (z5.map za.enc))]] ⟨[],0⟩ {v:= .t (.bool (wi s ds kind z5))}:=by
 have h1:=z5C H s ds hD hd hg hk hj hkf hjf;have h2:=z9B H.p ds hD.l hD.sz;have h3:=z2z H.p z5 hc;have h4:=z7i H.p ds hD.ok hD.ni kind z5 hl ho hc;unfold yS at h2 h4;rw [←hd] at h2 h4;generalize hR:wi s ds kind z5=R;unfold wi at hR;refine z7.run H.i7 H.mixed Z Z ?_;refine fR Z ?_;refine Mid.call (h1) Z Z Z Z ?_;refine fM Z ?_;refine caG Z Z (fun hg=>⟨_,rfl,h2,rfl⟩) Z Z ?_;refine fM Z ?_;refine caG Z Z (fun hg=>⟨_,rfl,h3,rfl⟩) Z Z ?_;refine fM Z ?_;refine caG Z Z (fun hg=>⟨_,rfl,h4,rfl⟩) Z Z ?_;refine fM Z ?_;refine Run.fin Z (z3.go ?_);exact .t (by rw [hR])
end Go.GB.C29
namespace Go.GB.C26
open Go.GB
section
variable {s:zH} {name:Str} {here:List zp} {F:List (Str×Int)} {A D A':List Int}
end
section
variable {n:Nat} {sp:List zp} {js:List zx} {ks:List zJ}
end
end Go.GB.C26
namespace Go.GB.C26
open Go.GB
theorem z2E {n:Nat} {sp:List zp} {ks:List zJ} {F:List (Str×Int)} {A:List Int} (f:Str) (g:Int):∀(l:List zx) (acc:List zp),(∀j,j∈l->j.yc.length<=100)->(∀x,x∈acc->x.yc.length<=100)->∀x,x∈yW n sp ks F A f g l acc->x.yc.length<=100
 |[],acc,_,h,x,hx=>h x hx
 |j::r,acc,hl,h,x,hx=>by
  simp only [yW] at hx;refine z2E f g r _ (fun y hy=>hl y (List.mem_cons_of_mem _ hy)) (fun y hy=>?_) x hx;split at hy
  ·exact h y hy
  ·split at hy
   ·rcases List.mem_append.1 hy with hy|hy
    ·exact h y hy
    ·simp at hy;subst hy;exact hl j (List.mem_cons_self ..)
   ·exact h y hy
theorem z2h {n:Nat} {sp:List zp} {js:List zx} {ks:List zJ} {F:List (Str×Int)} {A:List Int} (f:Str) (hj:∀j,j∈js->j.yc.length<=100):∀(c i:Nat) (acc:List zp),(∀x,x∈acc->x.yc.length<=100)->(∀x,x∈y6 n sp js ks F A f i c acc->x.yc.length<=100)/\(y6 n sp js ks F A f i c acc).length<=acc.length+c*js.length
 |0,i,acc,h=>⟨h,by simp [y6]⟩
 |c+1,i,acc,h=>by
  have h1:=z2E (n:=n) (sp:=sp) (ks:=ks) (F:=F) (A:=A) f i js acc hj h;have h2:=z2A n sp ks F A f i js acc;obtain ⟨h3,h4⟩:=z2h (n:=n) (sp:=sp) (js:=js) (ks:=ks) (F:=F) (A:=A) f hj c (i+1) _ h1;refine ⟨h3,?_⟩;simp only [y6];rw [Nat.succ_mul];omega
theorem z25 (name:Str) (js:List zx):∀(c i:Nat) (acc:List zp),(∀x,x∈acc->x.yc.length<=100)->(∀x,x∈YM name js i c acc->x.yc.length<=100)/\(YM name js i c acc).length<=acc.length+c
 |0,i,acc,h=>⟨h,by simp [YM]⟩
 |c+1,i,acc,h=>by
  obtain ⟨h3,h4⟩:=z25 name js c (i+1) (if js.any (z13 name i)=true then acc++[⟨i,1,[]⟩] else acc) (fun x hx=>by
   split at hx
   ·rcases List.mem_append.1 hx with hx|hx
    ·exact h x hx
    ·simp at hx;subst hx;simp
   ·exact h x hx)
  refine ⟨h3,?_⟩;simp only [YM];refine Nat.le_trans h4 ?_
  split<;>simp<;>omega
end Go.GB.C26
namespace Go.GB.C29
open Go.GB Go.GB.C26
variable {P:Program}
structure zai (s:zH):Prop where
 g:s.z4.length<=8
 j:s.zE.length<=300
 k:s.keys.length<=100
 jr:∀j,j∈s.zE->j.req.length<=10/\j.yc.length<=10
 kf:∀k,k∈s.keys->k.fields.length<=10
def GG (here:List zp):Prop:=here.length<=4000/\∀x,x∈here->x.yc.length<=100
theorem zai.small {s:zH} (h:zai s) {here:List zp} (hg:GG here):Small s here:=
 ⟨by have:=h.g;omega,h.j,h.k,hg.1,h.jr,h.kf,fun x hx=>by have:=hg.2 x hx;unfold zp.ok;omega⟩
theorem GG.yT {s:zH} {t:Str} {l:List zp} (h:GG l):GG (yT s t l):=
 ⟨Nat.le_trans (List.length_filter_le _ _) h.1,fun x hx=>h.2 x (List.mem_filter.1 hx).1⟩
theorem z8S (s:zH) (ds:List Def) (hK:zai s) (hd:s.doc= .lst (ds.map Def.enc)) (hD:Z8 ds):∃Ch Lv,Env s ds GG Ch/\zeS s GG Lv:=by
 have hg:=hK.g;have hj:=hK.j;have hk:=hK.k
 have key:∀(ty:Str) (here:List zp),∃FA:List (Str×Int)×List Int,GG here->
   Sol s ty here (YE s.z4.length here) (Yg s ty) (wo s ty) FA.1 FA.2:=fun ty here=>by
  by_cases h:GG here
  ·obtain ⟨F,A,a1,a2,a3,a4⟩:=zeX (name:=ty) (hK.small h);exact ⟨(F,A),fun _=>a1⟩
  ·exact ⟨([],[]),fun h'=>absurd h' h⟩
 let FA:=fun ty here=>Classical.choose (key ty here)
 have hFA:∀ty here,GG here->_:=fun ty here=>Classical.choose_spec (key ty here)
 have hch:∀ty here f,GG here->GG (y6 s.z4.length (YE s.z4.length here) (Yg s ty) (wo s ty) (FA ty here).1 (FA ty here).2 f 0 s.z4.length []):=fun ty here f h=>by
  obtain ⟨c1,c2⟩:=z2h (n:=s.z4.length) (sp:=YE s.z4.length here) (js:=Yg s ty) (ks:=wo s ty) (F:=(FA ty here).1) (A:=(FA ty here).2) f (fun j hj=>by have:=Qu (hK.small h) hj;omega) s.z4.length 0 [] (fun x hx=>by cases hx)
  have hjl:=W5 s ty;have c3:s.z4.length*(Yg s ty).length<=8*300:=Nat.mul_le_mul hg (by omega);simp only [List.length_nil,Nat.zero_add] at c2
  exact ⟨by omega,c1⟩
 refine ⟨fun ty here f=>y6 s.z4.length (YE s.z4.length here) (Yg s ty) (wo s ty) (FA ty here).1 (FA ty here).2 f 0 s.z4.length [],fun ty here f=>Z3 s.z4.length (FA ty here).1 (FA ty here).2 f,⟨hd,hD,by omega,fun ty here f h=>?_,fun ty here f t h=>(hch ty here f h).yT,fun ty here f h=>by have:=(hch ty here f h).1;omega⟩,⟨fun ty here f h=>⟨_,_,_,_,_,(hFA ty here h),rfl⟩⟩⟩
 ·have hjl:=W5 s ty
  exact ⟨_,_,_,_,_,(hFA ty here h),by omega,rfl⟩
theorem z0j {s:zH} (hK:zai s) (kind:Int) (z5:List za):GG (yy s kind z5).Zd:=by
 obtain ⟨d1,d2⟩:=z25 (yz kind) s.zE s.z4.length 0 [] (fun x hx=>by cases hx)
 have:=hK.g;simp only [List.length_nil,Nat.zero_add] at d2
 exact ⟨by show (YM (yz kind) s.zE 0 s.z4.length []).length<=4000;omega,d1⟩
section
variable {s:zH} {ds:List Def} {Ch:Str->List zp->Str->List zp}
abbrev child (s:zH) (Ch:Str->List zp->Str->List zp) (n:Nat) (p:Place) (x:za) (t:Str):Place:=⟨(n:Nat),⟨p.ty,x.key⟩,t,yT s t (Ch p.ty p.Zd x.name),onF x.z5 t⟩
theorem z1U {Q:List Place->Prop} (h:∀(o:List Place) (n:Nat) (p:Place) (x:za) (t:Str),Q o->o[n]?=some p->x∈p.z5->t∈C11.y4 ds x.ty.name->onF x.z5 t≠[]->Q (o++[child s Ch n p x t])):
  ∀(k:Nat) (p:Place) (o:List Place),Q (o++[p])->Q (WE s ds Ch (k+1) p o)/\∃l,WE s ds Ch (k+1) p o=o++[p]++l:=by
 intro k
 induction k with
 |zero=>
  intro p o hq
  have hz:∀(xs:List za) (o':List Place),(∀x,x∈xs->x∈p.z5)->Q o'->xs.foldl (yq s ds Ch 0 p o.length) o'=o':=by
   intro xs
   induction xs with
   |nil=>intro o' _ _;rfl
   |cons x r ih=>
    intro o' hx hq'
    have:yq s ds Ch 0 p o.length o' x=o':=by
     unfold yq;generalize C11.y4 ds x.ty.name=ts
     induction ts with
     |nil=>rfl
     |cons t r ih2=>
      rw [List.foldl_cons]
      have:stepT s ds Ch 0 p o.length x o' t=o':=by unfold stepT;split<;>rfl
      rw [this,ih2]
    rw [List.foldl_cons,this];exact ih o' (fun y hy=>hx y (List.mem_cons_of_mem _ hy)) hq'
  rw [wI,hz p.z5 (o++[p]) (fun x hx=>hx) hq]
  exact ⟨hq,[],by simp⟩
 |succ k ih=>
  intro p o hq;rw [wI]
  have hT:∀(x:za),x∈p.z5->∀(ts:List Str) (o':List Place),(∀t,t∈ts->t∈C11.y4 ds x.ty.name)->(Q o'/\∃l,o'=o++[p]++l)->Q (ts.foldl (stepT s ds Ch (k+1) p o.length x) o')/\∃l,ts.foldl (stepT s ds Ch (k+1) p o.length x) o'=o++[p]++l:=by
   intro x hx ts
   induction ts with
   |nil=>intro o' _ h';exact h'
   |cons t r ih2=>
    intro o' ht ⟨hq',l',hl'⟩;rw [List.foldl_cons];refine ih2 _ (fun u hu=>ht u (List.mem_cons_of_mem _ hu)) ?_;unfold stepT;split
    ·exact ⟨hq',l',hl'⟩
    ·rename_i hne
     have hat:o'[o.length]?=some p:=by rw [hl'];simp
     have hpush:=h o' o.length p x t hq' hat hx (ht t (List.mem_cons_self ..)) (fun e=>hne (by rw [e];rfl));obtain ⟨g1,l2,g2⟩:=ih (child s Ch o.length p x t) o' hpush;refine ⟨g1,l'++[child s Ch o.length p x t]++l2,?_⟩;rw [g2,hl'];simp
  have hX:∀(xs:List za) (o':List Place),(∀x,x∈xs->x∈p.z5)->(Q o'/\∃l,o'=o++[p]++l)->Q (xs.foldl (yq s ds Ch (k+1) p o.length) o')/\∃l,xs.foldl (yq s ds Ch (k+1) p o.length) o'=o++[p]++l:=by
   intro xs
   induction xs with
   |nil=>intro o' _ h';exact h'
   |cons x r ih2=>
    intro o' hx h';rw [List.foldl_cons];exact ih2 _ (fun y hy=>hx y (List.mem_cons_of_mem _ hy)) (hT x (hx x (List.mem_cons_self ..)) _ _ (fun t ht=>ht) h')
  exact hX p.z5 (o++[p]) (fun x hx=>hx) ⟨hq,[],by simp⟩
def ZW:List Place->Nat
 |[]=>0
 |p::r=>p.z5.length+ZW r
theorem WQ:∀a b:List Place,ZW (a++b)=ZW a+ZW b
 |[],b=>by simp [ZW]
 |p::a,b=>by simp only [List.cons_append,ZW,WQ a b];omega
theorem z8V (t:Str) (l:List za):za.zQ (onF l t)<=za.zQ l:=qV _ l
theorem z20:∀(ts:List Str) (l:List za),ts.Nodup->(ts.map fun t=>za.zQ (onF l t)).sum<=za.zQ l
 |ts,[],_=>by
  have:(ts.map fun t=>za.zQ (onF [] t))=ts.map fun _=>0:=by congr
  rw [this]
  induction ts with
  |nil=>simp
  |cons t r ih=>simp_all [za.zQ]
 |ts,x::r,hn=>by
  have ih:=z20 ts r hn
  have key:∀ts:List Str,ts.Nodup->(ts.map fun t=>za.zQ (onF (x::r) t)).sum<=(ts.map fun t=>za.zQ (onF r t)).sum+(if x.on∈ts then x.cnt else 0):=by
   intro ts
   induction ts with
   |nil=>intro _;simp
   |cons t r2 ih2=>
    intro hn;have hn':=List.nodup_cons.1 hn;have:=ih2 hn'.2;simp only [List.map_cons,List.sum_cons];by_cases e:x.on=t
    ·have h1:onF (x::r) t=x::onF r t:=by unfold onF;rw [List.filter_cons,if_pos (by simp [e])]
     have h2:¬ x.on∈r2:=by rw [e];exact hn'.1
     rw [if_neg h2] at this;rw [h1,if_pos (by simp [e])];simp only [za.zQ];omega
    ·have h1:onF (x::r) t=onF r t:=by unfold onF;rw [List.filter_cons,if_neg (by simp [e])]
     have h2:(x.on∈t::r2)=(x.on∈r2):=by simp [e]
     rw [h1];simp only [h2];omega
  have:=key ts hn;simp only [za.zQ]
  split at this<;>omega
theorem z2b (t:Def) (nm:Str):∀(r pre:List Def),(C11.Yr t nm pre r).Nodup/\∀n,n∈C11.Yr t nm pre r->C11.ZA pre n=true
 |[],pre=>by simp [C11.Yr]
 |o::r,pre=>by
  obtain ⟨h1,h2⟩:=z2b t nm r (pre++[o])
  have h3:∀n,C11.ZA (pre++[o]) n=true->C11.ZA pre n=true/\¬ n=o.name:=fun n h=>by
   simp only [C11.ZA,List.any_append,List.any_cons,List.any_nil,Bool.or_false,Bool.not_eq_true',Bool.or_eq_false_iff,beq_eq_false_iff_ne,ne_eq] at h⊢;exact ⟨h.1,fun e=>h.2 e.symm⟩
  simp only [C11.Yr];split
  ·rename_i hc;simp only [Bool.and_eq_true] at hc;refine ⟨List.nodup_cons.2 ⟨fun hm=>(h3 _ (h2 _ hm)).2 Z,h1⟩,fun n hn=>?_⟩
   rcases List.mem_cons.1 hn with rfl|hn
   ·exact hc.1.2
   ·exact (h3 n (h2 n hn)).1
  ·exact ⟨h1,fun n hn=>(h3 n (h2 n hn)).1⟩
theorem z2g (ds:List Def) (nm:Str):(C11.y4 ds nm).Nodup:=by
 unfold C11.y4;split
 ·simp
 ·exact (z2b _ _ _ _).1
theorem z5W:∀(k:Nat) (p:Place) (o:List Place),ZW (WE s ds Ch k p o)<=ZW o+za.zQ p.z5
 |0,p,o=>by simp [WE]
 |k+1,p,o=>by
  rw [wI]
  have hT:∀(x:za) (ts:List Str) (o':List Place),ZW (ts.foldl (stepT s ds Ch k p o.length x) o')<=ZW o'+(ts.map fun t=>za.zQ (onF x.z5 t)).sum:=by
   intro x ts
   induction ts with
   |nil=>intro o';simp
   |cons t r ih=>
    intro o';rw [List.foldl_cons];refine Nat.le_trans (ih _) ?_;simp only [List.map_cons,List.sum_cons]
    have:ZW (stepT s ds Ch k p o.length x o' t)<=ZW o'+za.zQ (onF x.z5 t):=by
     unfold stepT;split
     ·omega
     ·exact z5W k _ _
    omega
  have hX:∀(xs:List za) (o':List Place),ZW (xs.foldl (yq s ds Ch k p o.length) o')+xs.length<=ZW o'+za.zQ xs:=by
   intro xs
   induction xs with
   |nil=>intro o';simp [za.zQ]
   |cons x r ih=>
    intro o';rw [List.foldl_cons];have h1:=ih (yq s ds Ch k p o.length o' x);have h2:=hT x (C11.y4 ds x.ty.name) o';have h3:=z20 (C11.y4 ds x.ty.name) x.z5 (z2g ds x.ty.name);have h4:=za.WD x;simp only [za.zQ,List.length_cons];unfold yq at h1⊢;omega
  have:=hX p.z5 (o++[p]);rw [WQ] at this;simp only [ZW] at this;omega
theorem z8c:∀l:List Place,(∀p,p∈l->p.z5≠[])->l.length<=ZW l
 |[],_=>by simp
 |p::r,h=>by
  have:=z8c r fun q hq=>h q (List.mem_cons_of_mem _ hq);have h1:=h p (List.mem_cons_self ..)
  have:1<=p.z5.length:=by cases hp:p.z5 with|nil=>exact absurd hp h1|cons a b=>simp
  simp only [List.length_cons,ZW];omega
theorem z36 (s:zH) (ds:List Def) (Ch:Str->List zp->Str->List zp) (kind:Int) (z5:List za):(Zk s ds Ch kind z5).length<=za.zQ z5+1:=by
 obtain ⟨h1,l,h2⟩:=z1U (s:=s) (ds:=ds) (Ch:=Ch) (Q:=fun o=>∀p,p∈o.tail->p.z5≠[]) (fun o n p x t hq hn hx ht hne q hq2=>by
  cases o with
  |nil=>simp at hn
  |cons a b=>
   simp only [List.cons_append,List.tail_cons,List.mem_append,List.mem_singleton] at hq hq2
   rcases hq2 with h|rfl
   ·exact hq q h
   ·exact hne) (za.zQ z5) (yy s kind z5) [] (by simp)
 have h3:=z5W (s:=s) (ds:=ds) (Ch:=Ch) (za.zQ z5+1) (yy s kind z5) [];unfold Zk;rw [h2] at h1 h3⊢;simp only [List.nil_append,List.cons_append,List.tail_cons,ZW,List.length_cons] at h1 h3⊢;have:=z8c l h1;have e:(yy s kind z5).z5=z5:=rfl;rw [e] at h3;omega
theorem z5T (hcl:∀ty here f t,GG here->GG (yT s t (Ch ty here f))) (kind:Int) (z5:List za) (hl:z5.length<=140737488355328) (ho:∀x,x∈z5->x.Ok) (hg:GG (yy s kind z5).Zd):
  ∀p,p∈Zk s ds Ch kind z5->GG p.Zd/\p.z5.length<=140737488355328/\∀x,x∈p.z5->x.Ok:=by
 refine (z1U (s:=s) (ds:=ds) (Ch:=Ch) (Q:=fun o=>∀p,p∈o->GG p.Zd/\p.z5.length<=140737488355328/\∀x,x∈p.z5->x.Ok) (fun o n p x t hq hn hx ht hne q hq2=>?_) (za.zQ z5) (yy s kind z5) [] ?_).1
 ·rcases List.mem_append.1 hq2 with h|h
  ·exact hq q h
  ·simp only [List.mem_singleton] at h;subst h;obtain ⟨g1,g2,g3⟩:=hq p (zMG hn);have hxo:=g3 x hx
   exact ⟨hcl _ _ _ _ g1,by have:=z8M x.z5 t;have:=hxo.pl;show (onF x.z5 t).length<=_;omega,fun y hy=>hxo.p y (z5q hy)⟩
 ·intro p hp;simp only [List.nil_append,List.mem_singleton] at hp;subst hp;exact ⟨hg,hl,ho⟩
end
end Go.GB.C29
namespace Go.GB.C29
open Go.GB Go.GB.C26
variable {P:Program}
structure zci (s:zH) (ds:List Def) (z5:List za):Prop where
 d:zdh ds
 e:s.doc= .lst (ds.map Def.enc)
 g:s.z4.length<=140737488355328
 k:s.keys.length<=140737488355328
 j:s.zE.length<=140737488355328
 kf:∀k,k∈s.keys->k.fields.length<=140737488355328
 jf:∀j,j∈s.zE->j.req.length<=140737488355328/\j.yc.length<=140737488355328
 pl:z5.length*160<=140737488355328
 p:∀x,x∈z5->x.Ok
 c:za.zQ z5<=1099511627776
theorem z8x {α:Type} {p:α->Bool} {l:List α} (h:l.any p=false) {x:α} (hx:x∈l):p x=false:=by
 cases e:p x with
 |false=>rfl
 |true=>
  have:l.any p=true:=List.any_eq_true.2 ⟨x,hx,e⟩;rw [h] at this;cases this
theorem zcB {s:zH} {ds:List Def} (h:z9d s ds=true):zai s:=by
 unfold z9d at h;split at h
 ·cases h
 ·rename_i hn;simp only [Bool.or_eq_true,decide_eq_true_eq,not_or] at hn;simp only [Bool.and_eq_true,Bool.not_eq_true'] at h;obtain ⟨⟨⟨⟨h1,h2⟩,h3⟩,h4⟩,h5⟩:=hn
  refine ⟨by omega,by omega,by omega,fun j hj=>?_,fun k hk=>?_⟩
  ·have:=z8x h.2 hj;simp only [z4e,Bool.or_eq_false_iff,decide_eq_false_iff_not] at this;omega
  ·have:=z8x h.1 hk;simp only [zbU,Bool.or_eq_false_iff,decide_eq_false_iff_not] at this;omega
structure Lrg (s:zH) (ds:List Def) (kind:Int) (z5:List za):Prop where
 k:zai s
 c:za.zQ z5<=200
 r:qT ds kind z5=true
theorem zc1 {s:zH} {ds:List Def} {kind:Int} {z5:List za} (h:wi s ds kind z5=false):Lrg s ds kind z5:=by
 unfold wi at h;simp only [Bool.or_eq_false_iff,Bool.not_eq_false',decide_eq_false_iff_not] at h;obtain ⟨⟨⟨h1,h2⟩,h3⟩,h4⟩:=h
 exact ⟨zcB h1,by omega,h4⟩
structure PrN (P:Program):Prop where
 l:PrL P
 mixed:P.follows .mixedOrders=true
 i3:zd P 3=some (n3,c3.bare,r3)
 i4:zd P 4=some (n4,c4.bare,r4)
end Go.GB.C29
namespace Go.GB.C29
open Go.GB Go.GB.C26
inductive Tr (ds:List Def):za->Prop
 |mk (p:za) (h:∀y,y∈p.z5->y.on∈C11.y4 ds p.ty.name) (h2:∀y,y∈p.z5->Tr ds y):Tr ds p
theorem Tr.at {ds:List Def} {p:za} (h:Tr ds p):∀y,y∈p.z5->y.on∈C11.y4 ds p.ty.name/\Tr ds y:=by
 cases h with|mk _ h h2=>exact fun y hy=>⟨h y hy,h2 y hy⟩
theorem z2I {α β:Type} {f g:α->List β}:∀{l:List α},(∀x,x∈l->f x=g x)->l.flatMap f=l.flatMap g
 |[],_=>rfl
 |x::r,h=>by
  rw [List.flatMap_cons,List.flatMap_cons,h x (List.mem_cons_self ..),z2I fun y hy=>h y (List.mem_cons_of_mem _ hy)]
theorem z2a {s:Str}:∀{l:List Str} {i:Int},¬ s∈l->C11.Zc s l i=-1
 |[],i,_=>rfl
 |x::r,i,h=>by
  simp only [List.mem_cons,not_or] at h;simp only [C11.Zc];rw [if_neg (by simpa using h.1)];exact z2a h.2
theorem z5v {ds:List Def} {lv:Nat} {rec:Str->List za->Bool} {ts:List Str} {l0:List za}:∀{l:List za} {i:Nat} {last:Int},0<=last->lrL ds lv rec ts l0 i last l=true->
  ∀p,p∈l->lv<=24/\p.on∈ts/\rec p.ty.name p.z5=true
 |[],i,last,_,_,p,hp=>by cases hp
 |x::r,i,last,h0,h,p,hp=>by
  simp only [lrL] at h;split at h
  ·cases h
  ·rename_i hn;split at h
   ·cases h
   ·simp only [Bool.or_eq_true,decide_eq_true_eq,not_or,Bool.not_eq_true,Bool.not_eq_false',Bool.not_eq_true'] at hn;obtain ⟨⟨⟨g1,g2⟩,g3⟩,g4⟩:=hn
    have g5:0<=C11.Zc x.on ts 0:=by omega
    rcases List.mem_cons.1 hp with rfl|hp
    ·refine ⟨by omega,?_,by simpa using g4⟩
     by_cases hm:p.on∈ts
     ·exact hm
     ·rw [z2a hm] at g5;omega
    ·exact z5v g5 h p hp
theorem z5s {ds:List Def}:∀{k:Nat} {nm:Str} {l:List za},lrN ds k nm l=true->∀p,p∈l->p.on∈C11.y4 ds nm/\Tr ds p
 |0,nm,l,h,p,hp=>by
  have:=z5v (Int.le_refl 0) h p hp;omega
 |k+1,nm,l,h,p,hp=>by
  obtain ⟨h1,h2,h3⟩:=z5v (Int.le_refl 0) h p hp;exact ⟨h2,.mk p (fun y hy=>(z5s h3 y hy).1) (fun y hy=>(z5s h3 y hy).2)⟩
theorem z28 {t:Def} {nm:Str} (hk:t.kind=1):∀(r pre:List Def) (n:Str),n∈C11.Yr t nm pre r->n=nm
 |[],pre,n,h=>by simp [C11.Yr] at h
 |o::r,pre,n,h=>by
  simp only [C11.Yr] at h;split at h
  ·rename_i hc
   rcases List.mem_cons.1 h with rfl|h
   ·simp only [Bool.and_eq_true,C11.isP,Bool.or_eq_true,hk] at hc;simpa using hc.2
   ·exact z28 hk r _ n h
  ·exact z28 hk r _ n h
theorem z79 {ds:List Def} {kind:Int} {z5:List za} (h:qT ds kind z5=true):∀p,p∈z5->p.on=yz kind/\Tr ds p:=by
 intro p hp;unfold qT at h;simp only [Bool.and_eq_true] at h;obtain ⟨⟨⟨h1,h2⟩,_⟩,h4⟩:=h
 cases hf:C11.zf (yz kind) ds with
 |none=>rw [hf] at h1;cases h1
 |some t=>
  rw [hf] at h2 h4;simp only [Option.getD_some] at h2 h4;have hn:=C11.WH hf;obtain ⟨g1,g2⟩:=z5s h4 p hp;refine ⟨?_,g2⟩;rw [hn] at g1;unfold C11.y4 at g1;rw [hf] at g1;exact z28 (by simpa using h2) _ _ _ g1
section
variable {s:zH} {ds:List Def} {Ch:Str->List zp->Str->List zp}
theorem Qk:∀(ts:List Str) (l:List za),ts.Nodup->(∀y,y∈l->y.on∈ts)->(ts.map fun t=>za.zQ (onF l t)).sum=za.zQ l
 |ts,[],_,_=>by
  have:(ts.map fun t=>za.zQ (onF [] t))=ts.map fun _=>0:=by congr
  rw [this]
  induction ts with
  |nil=>simp [za.zQ]
  |cons t r ih=>simp_all [za.zQ]
 |ts,x::r,hn,hm=>by
  have ih:=Qk ts r hn fun y hy=>hm y (List.mem_cons_of_mem _ hy)
  have key:∀ts:List Str,ts.Nodup->(ts.map fun t=>za.zQ (onF (x::r) t)).sum=(ts.map fun t=>za.zQ (onF r t)).sum+(if x.on∈ts then x.cnt else 0):=by
   intro ts
   induction ts with
   |nil=>intro _;simp
   |cons t r2 ih2=>
    intro hn;have hn':=List.nodup_cons.1 hn;have:=ih2 hn'.2;simp only [List.map_cons,List.sum_cons];by_cases e:x.on=t
    ·have h1:onF (x::r) t=x::onF r t:=by unfold onF;rw [List.filter_cons,if_pos (by simp [e])]
     have h2:¬ x.on∈r2:=by rw [e];exact hn'.1
     rw [if_neg h2] at this;rw [h1,if_pos (by simp [e])];simp only [za.zQ];omega
    ·have h1:onF (x::r) t=onF r t:=by unfold onF;rw [List.filter_cons,if_neg (by simp [e])]
     have h2:(x.on∈t::r2)=(x.on∈r2):=by simp [e]
     rw [h1];simp only [h2];omega
  have:=key ts hn;rw [if_pos (hm x (List.mem_cons_self ..))] at this;simp only [za.zQ];omega
theorem z1w:∀(k:Nat) (p:Place) (o:List Place),za.zQ p.z5<k->(∀x,x∈p.z5->Tr ds x)->ZW (WE s ds Ch k p o)=ZW o+za.zQ p.z5
 |0,p,o,h,_=>by omega
 |k+1,p,o,hc,ht=>by
  rw [wI]
  have hT:∀(x:za),x∈p.z5->∀(ts:List Str) (o':List Place),ZW (ts.foldl (stepT s ds Ch k p o.length x) o')=ZW o'+(ts.map fun t=>za.zQ (onF x.z5 t)).sum:=by
   intro x hx ts
   induction ts with
   |nil=>intro o';simp
   |cons t r ih=>
    intro o';rw [List.foldl_cons,ih];simp only [List.map_cons,List.sum_cons]
    have:ZW (stepT s ds Ch k p o.length x o' t)=ZW o'+za.zQ (onF x.z5 t):=by
     unfold stepT;split
     ·rename_i he;rw [List.isEmpty_iff.1 he];simp [za.zQ]
     ·refine z1w k _ _ ?_ fun y hy=>((ht x hx).at y (z5q hy)).2;have h1:=Wt hx;have h2:=z8V t x.z5;have h3:=za.WD x;show za.zQ (onF x.z5 t)<k;omega
    omega
  have hX:∀(xs:List za) (o':List Place),(∀x,x∈xs->x∈p.z5)->ZW (xs.foldl (yq s ds Ch k p o.length) o')+xs.length=ZW o'+za.zQ xs:=by
   intro xs
   induction xs with
   |nil=>intro o' _;simp [za.zQ]
   |cons x r ih=>
    intro o' hm;rw [List.foldl_cons];have hx:=hm x (List.mem_cons_self ..);have h1:=ih (yq s ds Ch k p o.length o' x) fun y hy=>hm y (List.mem_cons_of_mem _ hy);have h2:=hT x hx (C11.y4 ds x.ty.name) o';have h3:=Qk (C11.y4 ds x.ty.name) x.z5 (z2g ds x.ty.name) fun y hy=>((ht x hx).at y hy).1;have h4:=za.WD x;simp only [za.zQ,List.length_cons];unfold yq at h1⊢;omega
  have:=hX p.z5 (o++[p]) fun x hx=>hx;rw [WQ] at this;simp only [ZW] at this;omega
structure zfV (ds:List Def) (o:List Place) (i:Nat) (q:Place):Prop where
 on:∀y,y∈q.z5->y.on=q.ty/\Tr ds y
 root:i=0->q.parent=-1
 up:0<i->q.z5≠[]/\∃(n:Nat) (p:Place),q.parent=(n:Int)/\n<i/\o[n]?=some p/\q.hop.on=p.ty/\∃x,x∈p.z5/\x.key=q.hop.key/\x.on=p.ty/\q.ty∈C11.y4 ds x.ty.name
theorem z6r (kind:Int) (z5:List za) (hr:∀p,p∈z5->p.on=yz kind/\Tr ds p):
  (∀i q,(Zk s ds Ch kind z5)[i]?=some q->zfV ds (Zk s ds Ch kind z5) i q)/\Zk s ds Ch kind z5≠[]/\ZW (Zk s ds Ch kind z5)=za.zQ z5:=by
 obtain ⟨h1,l,h2⟩:=z1U (s:=s) (ds:=ds) (Ch:=Ch) (Q:=fun o=>∀i q,o[i]?=some q->zfV ds o i q) (fun o n p x t hq hn hx ht hne i q hi=>by
  have hnl:n<o.length:=(List.getElem?_eq_some_iff.1 hn).1;have hp:=hq n p hn;have hxo:=hp.on x hx
  rcases Nat.lt_or_ge i o.length with h|h
  ·rw [List.getElem?_append_left h] at hi;have ha:=hq i q hi;refine ⟨ha.on,ha.root,fun h0=>?_⟩;obtain ⟨g1,m,u,g2,g3,g4,g5⟩:=ha.up h0
   exact ⟨g1,m,u,g2,g3,by rw [List.getElem?_append_left (by omega)];exact g4,g5⟩
  ·have hi2:i<o.length+1:=by have:=(List.getElem?_eq_some_iff.1 hi).1;simpa using this
   have e:i=o.length:=by omega
   subst e;simp at hi;subst hi
   refine ⟨fun y hy=>?_,fun h0=>by omega,fun _=>⟨hne,n,p,rfl,hnl,by rw [List.getElem?_append_left hnl];exact hn,rfl,x,hx,rfl,hxo.1,ht⟩⟩
   have hy1:=List.mem_filter.1 hy
   exact ⟨by simpa using hy1.2,(hxo.2.at y hy1.1).2⟩) (za.zQ z5) (yy s kind z5) [] (fun i q hi=>by
  cases i with
  |zero=>simp at hi;subst hi;exact ⟨hr,fun _=>rfl,fun h=>by omega⟩
  |succ i=>simp at hi)
 refine ⟨h1,?_,?_⟩
 ·unfold Zk;rw [h2];simp
 ·have:=z1w (s:=s) (ds:=ds) (Ch:=Ch) (za.zQ z5+1) (yy s kind z5) [] (Nat.lt_succ_self _) fun x hx=>(hr x hx).2;unfold Zk;rw [this];simp only [ZW,Nat.zero_add];rfl
abbrev View:=Str×List zp×List za
def Place.view (p:Place):View:=(p.ty,p.Zd,p.z5)
variable (s) (ds) (Ch) in
def vwF:Nat->View->List View
 |0,_=>[]
 |k+1,v=>v::v.2.2.flatMap fun x=>(C11.y4 ds x.ty.name).flatMap fun t=>if (onF x.z5 t).isEmpty then [] else vwF k (t,yT s t (Ch v.1 v.2.1 x.name),onF x.z5 t)
theorem z21 {α:Type} {f:List Place->α->List Place} {g:α->List View} (l:List α) (h:∀x,x∈l->∀o,(f o x).map Place.view=o.map Place.view++g x):∀o,(l.foldl f o).map Place.view=o.map Place.view++l.flatMap g:=by
 induction l with
 |nil=>intro o;simp
 |cons x r ih=>
  intro o;rw [List.foldl_cons,ih (fun y hy=>h y (List.mem_cons_of_mem _ hy)),h x (List.mem_cons_self ..)];simp
theorem z3P:∀(k:Nat) (p:Place) (o:List Place),(WE s ds Ch k p o).map Place.view=o.map Place.view++vwF s ds Ch k p.view
 |0,p,o=>by simp [WE,vwF]
 |k+1,p,o=>by
  rw [wI];rw [z21 (g:=fun x=>(C11.y4 ds x.ty.name).flatMap fun t=>if (onF x.z5 t).isEmpty then [] else vwF s ds Ch k (t,yT s t (Ch p.ty p.Zd x.name),onF x.z5 t)) p.z5 (fun x _ o'=>?_)]
  ·simp [vwF,Place.view]
  ·unfold yq;rw [z21 (g:=fun t=>if (onF x.z5 t).isEmpty then [] else vwF s ds Ch k (t,yT s t (Ch p.ty p.Zd x.name),onF x.z5 t)) _ (fun t _ o2=>?_)];unfold stepT;split
   ·simp
   ·rw [z3P k];rfl
theorem z6D:∀(k m:Nat) (v:View),za.zQ v.2.2<k->za.zQ v.2.2<m->vwF s ds Ch k v=vwF s ds Ch m v
 |0,m,v,h,_=>by omega
 |k+1,0,v,_,h=>by omega
 |k+1,m+1,v,h1,h2=>by
  simp only [vwF];congr 1;refine z2I ?_;intro x hx;refine z2I ?_;intro t _;split
  ·rfl
  ·have a:=Wt hx;have b:=z8V t x.z5;have c:=za.WD x;exact z6D k m _ (by show za.zQ (onF x.z5 t)<k;omega) (by show za.zQ (onF x.z5 t)<m;omega)
def z9Q (Lv:Str->List zp->Str->Int) (v:View):List Int:=v.2.2.map fun x=>Lv v.1 v.2.1 x.name
def mx:List Int->Int->Option Int
 |[],m=>some m
 |n::r,m=>if n>0 then mx r (if n>m then n else m) else none
theorem z45:∀(a b:List Int) (m:Int),mx (a++b) m=match mx a m with|some m'=>mx b m'|none=>none
 |[],b,m=>rfl
 |n::r,b,m=>by
  simp only [List.cons_append,mx];split
  ·exact z45 r b _
  ·rfl
theorem z8k (Lv:Str->List zp->Str->Int) (ty:Str) (sp:List zp):∀(l:List za) (m:Int),z81 Lv ty sp l m=mx (l.map fun x=>Lv ty sp x.name) m
 |[],m=>rfl
 |x::r,m=>by
  simp only [z81,List.map_cons,mx];split
  ·exact z8k Lv ty sp r _
  ·rfl
theorem z5b (Lv:Str->List zp->Str->Int):∀(l:List Place) (m:Int),qb Lv l m=mx ((l.map Place.view).flatMap (z9Q Lv)) m
 |[],m=>rfl
 |p::r,m=>by
  simp only [qb,List.map_cons,List.flatMap_cons];rw [z45,z8k]
  show (match mx (z9Q Lv p.view) m with|some m'=>qb Lv r m'|none=>none)=_
  cases mx (z9Q Lv p.view) m with
  |none=>rfl
  |some m'=>exact z5b Lv r m'
theorem z72:∀{l:List Int} {m:Int},(∀n,n∈l->n>0)->mx l m=some (l.foldl max m)
 |[],m,_=>rfl
 |n::r,m,h=>by
  simp only [mx,List.foldl_cons];rw [if_pos (h n (List.mem_cons_self ..)),z72 fun k hk=>h k (List.mem_cons_of_mem _ hk)];congr 2
  split<;>omega
theorem z4A:∀{l:List Int} {m:Int},¬ (∀n,n∈l->n>0)->mx l m=none
 |[],m,h=>absurd (fun n hn=>by cases hn) h
 |n::r,m,h=>by
  simp only [mx];split
  ·rename_i hn
   exact z4A fun h'=>h fun k hk=>by
    rcases List.mem_cons.1 hk with rfl|hk
    ·exact hn
    ·exact h' k hk
  ·rfl
theorem Q2:∀(l:List Int) (m:Int),m<=l.foldl max m/\∀n,n∈l->n<=l.foldl max m
 |[],m=>⟨Int.le_refl _,fun n h=>by cases h⟩
 |n::r,m=>by
  obtain ⟨h1,h2⟩:=Q2 r (max m n);rw [List.foldl_cons]
  refine ⟨by omega,fun k hk=>?_⟩
  rcases List.mem_cons.1 hk with rfl|hk
  ·omega
  ·exact h2 k hk
theorem qS:∀(l:List Int) (m:Int),l.foldl max m=m∨l.foldl max m∈l
 |[],m=> .inl rfl
 |n::r,m=>by
  rw [List.foldl_cons]
  rcases qS r (max m n) with h|h
  ·rw [h]
   rcases Int.le_total m n with h'|h'
   ·right;rw [Int.max_eq_right h'];exact List.mem_cons_self ..
   ·left;exact Int.max_eq_left h'
  ·right;exact List.mem_cons_of_mem _ h
theorem z8D {a b:List Int} {m:Int} (h:∀n,n∈a↔n∈b):a.foldl max m=b.foldl max m:=by
 obtain ⟨a1,a2⟩:=Q2 a m;obtain ⟨b1,b2⟩:=Q2 b m;refine Int.le_antisymm ?_ ?_
 ·rcases qS a m with e|e
  ·omega
  ·exact b2 _ ((h _).1 e)
 ·rcases qS b m with e|e
  ·omega
  ·exact a2 _ ((h _).2 e)
theorem z7g {m:Int} (hm:0<=m) (l:List Int):max m (l.foldl max 0)=l.foldl max m:=by
 obtain ⟨a1,a2⟩:=Q2 l m;obtain ⟨b1,b2⟩:=Q2 l 0;refine Int.le_antisymm ?_ ?_
 ·rcases qS l 0 with e|e
  ·omega
  ·have:=a2 _ e;omega
 ·rcases qS l m with e|e
  ·omega
  ·have:=b2 _ e;omega
def zaX (s:zH) (ds:List Def) (Ch:Str->List zp->Str->List zp) (Lv:Str->List zp->Str->Int) (rt:Str) (sp:List zp) (k:Nat) (x:za):List Int:=
 Lv rt sp x.name::((C11.y4 ds x.ty.name).flatMap fun t=>if (onF x.z5 t).isEmpty then [] else vwF s ds Ch k (t,yT s t (Ch rt sp x.name),onF x.z5 t)).flatMap (z9Q Lv)
theorem z2w (Lv:Str->List zp->Str->Int) (kind:Int) (z5:List za) (K:Nat) (hk:za.zQ z5<=K):∃l,qb Lv (Zk s ds Ch kind z5) 0=mx l 0/\
  ∀n,n∈l↔n∈z5.flatMap (zaX s ds Ch Lv (yz kind) (yy s kind z5).Zd K):=by
 have e:(Zk s ds Ch kind z5).map Place.view=vwF s ds Ch (K+1) (yy s kind z5).view:=by
  unfold Zk;rw [z3P];simp only [List.map_nil,List.nil_append];exact z6D _ _ _ (Nat.lt_succ_self _) (by show za.zQ z5<K+1;omega)
 refine ⟨_,by rw [z5b,e],fun n=>?_⟩
 simp only [vwF,List.flatMap_cons,List.mem_append,List.mem_flatMap,z9Q,List.mem_map,zaX,List.mem_cons,Place.view,yy];constructor
 ·rintro (⟨x,hx,rfl⟩|⟨v,⟨x,hx,h⟩,h2⟩)
  ·exact ⟨x,hx,.inl Z⟩
  ·exact ⟨x,hx,.inr ⟨v,h,h2⟩⟩
 ·rintro ⟨x,hx,rfl|⟨v,h,h2⟩⟩
  ·exact .inl ⟨x,hx,rfl⟩
  ·exact .inr ⟨v,⟨x,hx,h⟩,h2⟩
theorem z4C (s:zH) (kind:Int) (a b:List za):(yy s kind a).Zd=(yy s kind b).Zd:=rfl
def WW (o:Option Int) (w:Int×Bool):Int×Bool:=(if o.getD 0>w.1 then o.getD 0 else w.1,w.2&&((if o.isSome then (0:Int) else 60)==0))
def Wa (s:zH) (ds:List Def) (Ch:Str->List zp->Str->List zp) (Lv:Str->List zp->Str->Int) (kind:Int):List za->Int×Bool->Int×Bool
 |[],w=>w
 |x::r,w=>Wa s ds Ch Lv kind r (WW (qb Lv (Zk s ds Ch kind [x]) 0) w)
theorem z7N (Lv:Str->List zp->Str->Int) (kind:Int) (z5:List za):
  qb Lv (Zk s ds Ch kind z5) 0=if (Wa s ds Ch Lv kind z5 (0,true)).2=true then some (Wa s ds Ch Lv kind z5 (0,true)).1 else none:=by
 have hl:=Nat.le_refl (za.zQ z5);generalize hK:za.zQ z5=K at hl;obtain ⟨l,h1,h2⟩:=z2w (s:=s) (ds:=ds) (Ch:=Ch) Lv kind z5 K (by omega);generalize hN:zaX s ds Ch Lv (yz kind) (yy s kind z5).Zd K=N at h2
 have hone:∀x,x∈z5->qb Lv (Zk s ds Ch kind [x]) 0=if (∀n,n∈N x->n>0) then some ((N x).foldl max 0) else none:=by
  intro x hx
  have hc:za.zQ [x]<=K:=by have:=Wt hx;simp only [za.zQ];omega
  obtain ⟨l',g1,g2⟩:=z2w (s:=s) (ds:=ds) (Ch:=Ch) Lv kind [x] K hc;rw [z4C s kind [x] z5,hN] at g2;simp only [List.flatMap_cons,List.flatMap_nil,List.append_nil] at g2;rw [g1];split
  ·rename_i h;rw [z72 fun n hn=>h n ((g2 n).1 hn),z8D g2]
  ·rename_i h;exact z4A fun h'=>h fun n hn=>h' n ((g2 n).2 hn)
 have hfold:∀(r:List za),(∀x,x∈r->x∈z5)->∀(w:Int×Bool),0<=w.1->
   ((Wa s ds Ch Lv kind r w).2=true↔w.2=true/\∀n,n∈r.flatMap N->n>0)/\((∀n,n∈r.flatMap N->n>0)->(Wa s ds Ch Lv kind r w).1=(r.flatMap N).foldl max w.1):=by
  intro r
  induction r with
  |nil=>intro _ w _;simp [Wa]
  |cons x r ih=>
   intro hm w hw;have hx:=hm x (List.mem_cons_self ..);simp only [Wa,hone x hx];by_cases hp:∀n,n∈N x->n>0
   ·rw [if_pos hp];have hge:=(Q2 (N x) 0).1
    obtain ⟨i1,i2⟩:=ih (fun y hy=>hm y (List.mem_cons_of_mem _ hy)) (WW (some ((N x).foldl max 0)) w) (by simp only [WW,Option.getD_some];split<;>omega)
    have e2:(WW (some ((N x).foldl max 0)) w).2=w.2:=by simp [WW]
    have e1:(WW (some ((N x).foldl max 0)) w).1=(N x).foldl max w.1:=by
     rw [←z7g hw];simp only [WW,Option.getD_some]
     split<;>omega
    rw [e2] at i1;rw [e1] at i2;refine ⟨i1.trans ⟨fun ⟨a,b⟩=>⟨a,fun n hn=>?_⟩,fun ⟨a,b⟩=>⟨a,fun n hn=>b n (by simp only [List.flatMap_cons,List.mem_append];exact .inr hn)⟩⟩,fun h=>?_⟩
    ·simp only [List.flatMap_cons,List.mem_append] at hn
     rcases hn with hn|hn
     ·exact hp n hn
     ·exact b n hn
    ·rw [i2 fun n hn=>h n (by simp only [List.flatMap_cons,List.mem_append];exact .inr hn)];simp only [List.flatMap_cons,List.foldl_append]
   ·rw [if_neg hp]
    obtain ⟨i1,i2⟩:=ih (fun y hy=>hm y (List.mem_cons_of_mem _ hy)) (WW none w) (by simp only [WW,Option.getD_none];split<;>omega)
    have e2:(WW none w).2=false:=by simp [WW]
    rw [e2] at i1;refine ⟨⟨fun h=>absurd (i1.1 h).1 (by simp),fun ⟨_,h⟩=>absurd (fun n hn=>h n (by simp only [List.flatMap_cons,List.mem_append];exact .inl hn)) hp⟩,fun h=>absurd (fun n hn=>h n (by simp only [List.flatMap_cons,List.mem_append];exact .inl hn)) hp⟩
 obtain ⟨f1,f2⟩:=hfold z5 (fun x hx=>hx) (0,true) (Int.le_refl 0);rw [h1];split
 ·rename_i h;have hp:=(f1.1 h).2;rw [z72 fun n hn=>hp n ((h2 n).1 hn),z8D h2,f2 hp]
 ·rename_i h;exact z4A fun h'=>h (f1.2 ⟨rfl,fun n hn=>h' n ((h2 n).2 hn)⟩)
theorem zdY:∀{l:List Int} {m v:Int},mx l m=some v->m<=v
 |[],m,v,h=>by simp only [mx,Option.some.injEq] at h;omega
 |n::r,m,v,h=>by
  simp only [mx] at h;split at h
  ·have:=zdY h;split at this<;>omega
  ·cases h
theorem zeG (Lv:Str->List zp->Str->Int) (l:List Place):0<=(qb Lv l 0).getD 0:=by
 rw [z5b]
 cases h:mx ((l.map Place.view).flatMap (z9Q Lv)) 0 with
 |none=>simp
 |some v=>exact zdY h
end
end Go.GB.C29
namespace Go.GB.C29
open Go.GB Go.GB.C26
section
variable {P:Program} {n m:Nat} {R:St->Prop} {draw:Bool} {all:List AO} {after:List (List Nat)} {live:List Nat} {k:List It} {b:Nat} {fl:List (Bool×Bool)} {ops:List AO} {st st':St} {d:Option Nat}
theorem _root_.Go.GB.Mid.z9s {α:Type} {f:α->List T} {l:List α} {e:α} {sz:Nat} {z:Int} {s:Nat} {want gc:Bool} {x i:Ar} {v:V} {kd:IntKind} {p1 p2:List Bool} (hg:ZU want (look st.env s)=some gc) (hx:rd gc st x=(v,p1)) (hv:v.zA=some (.lst (l.map f))) (hi:rd gc st i=(.t (.int kd z),p2)) (hc:l[z.toNat]?=some e) (hz:gc=true->0<=z) (hl:(Nat.beq (f e).length sz&&!(Nat.beq sz 0))=true)
  (hp1:Z7 (p1.map fun p=>!gc||p)) (hp2:Z7 (p2.map fun p=>!gc||p)) (hs:zO st d (.gd gc (.t (.ptr (f e)))) some=some st') (h':Mid P n m R draw all after live k b ((false,false)::fl) ops st'):Mid P n m R draw all after live k b fl (⟨d,some (s,want),.ia sz x i⟩::ops) st:=by
 have hl1:(f e).length=sz/\sz≠0:=by
  simp only [Bool.and_eq_true] at hl;refine ⟨Nat.eq_of_beq_eq_true hl.1,?_⟩;rintro rfl;simp at hl
 have hn:(l.map f)[z.toNat]?=some (f e):=by rw [List.getElem?_map,hc];rfl
 have hev:zh gc st (.ia sz x i)=some (.t (.ptr (f e)),p1++(p2++[decide (0<=z)])):=by
  simp only [zh,hx,hi]
  cases v<;>simp_all [V.zA]
 refine Mid.z82 hg hev (by simp only [Za];exact Y2 hx hv) ?_ hs h';simp only [List.map_append,w8];refine ⟨hp1,hp2,?_⟩
 cases gc with
 |false=>simp [Z7]
 |true=>simp [Z7,hz rfl]
end
structure PrT (P:Program):Prop where
 n:PrN P
 mixed:P.follows .mixedOrders=true
 i5:zd P 5=some (n5,c5.bare,r5)
 i6:zd P 6=some (n6,c6.bare,r6)
 i16:zd P 16=some (n16,c16.bare,r16)
variable {P:Program}
def z1C (ds:List Def) (x:Place) (up:Place) (q:za):Bool:=(q.key==x.hop.key&&q.on==up.ty)&&(C11.y4 ds q.ty.name).any (· ==x.ty)
theorem zeR (H:PrT P) (ds:List Def) (hD:Z8 ds) (up x:Place) (hl:up.z5.length<=140737488355328) (ho:x.hop.on=up.ty):z7 P 16 [yS ds,up.v,x.v] ⟨[],0⟩ {v:= .t (.bool (up.z5.any (z1C ds x up)))}:=by
 refine z7.run H.i16 H.mixed Z Z ?_;refine fR Z ?_;refine Run.zj Z Z (by simp [ho]) ?_;refine fR Z ?_;refine zD up.z5 (fun i (_:Unit)=>{env:=[(3,.ptr 0 0),(4,.ptr 1 0),(5,.ptr 2 0),(7,.t (.int .i64 i))],s:=⟨[(0,.cells [.t (.lst (ds.map Def.enc))]),(1,.cells [.t (.int .i64 up.parent),.t (.str up.hop.on),.t (.str up.hop.key),.t (.str up.ty),.t (.lst (up.Zd.map zp.enc)),.t (.lst (up.z5.map za.enc))]),(2,.cells [.t (.int .i64 x.parent),.t (.str x.hop.on),.t (.str x.hop.key),.t (.str x.ty),.t (.lst (x.Zd.map zp.enc)),.t (.lst (x.z5.map za.enc))])],3⟩}) (fun r i _=>up.z5.any (z1C ds x up)=r.any (z1C ds x up)) 3 () Z Z Z Z Z ?_ ?_
 ·intro _ hinv;refine fR Z ?_;refine lM Z Z Z ?_;refine fM Z ?_;refine Run.zj Z Z (by simp) ?_;refine fR Z ?_;refine Run.fin Z (z3.go ?_);exact .t (by rw [hinv];rfl)
 ·intro i q r _ h1 hi hd hinv ih;rw [List.any_cons] at hinv;have hpos:=C11.z16 H.n.l.r.p29.p11 ds hD q.ty.name;have hts:=qM ds q.ty.name;have hdl:=hD.l;refine fR Z ?_;refine lM Z Z Z ?_;refine fM Z ?_;refine Run.zm Z Z (by simp;omega) ?_;refine fR Z ?_;refine Mid.Zl (za.zw q) Z Z Z h1 Z Z ?_;refine fM Z ?_
  refine Mid.wB (za.zw q) Z Z Z Z h1 Z (by (repeat' (first |exact trivial|exact Bool.not_or_self _|exact yK _|exact yJ _|exact grd3 _ _|exact yL _ _|refine And.intro ?_ ?_|exact rfl|(simp;done)|(simp<;>omega)));done) (by (repeat' (first |exact trivial|exact Bool.not_or_self _|exact yK _|exact yJ _|exact grd3 _ _|exact yL _ _|refine And.intro ?_ ?_|exact rfl|(simp;done)|(simp<;>omega)));done) Z ?_
  refine fM Z ?_;refine Run.cond Z Z (fun h2=>?_) (fun h2=>?_)
  ·have hq:z1C ds x up q=(C11.y4 ds q.ty.name).any (· ==x.ty):=by unfold z1C;rw [h2,Bool.true_and]
   rw [hq] at hinv;generalize C11.y4 ds q.ty.name=ts at hpos hts hinv;refine fR Z ?_;refine Mid.Zl (za.zw q) Z Z Z h1 Z Z ?_;refine fM Z ?_;refine Mid.call (hpos) Z Z Z Z ?_;refine fM Z ?_;refine zD ts (fun j (_:Unit)=>{env:=[(3,.ptr 0 0),(4,.ptr 1 0),(5,.ptr 2 0),(7,.t (.int .i64 i)),(8,.t (.lst (ts.map Go.GB.sE))),(9,.t (.int .i64 j))],s:=⟨[(0,.cells [.t (.lst (ds.map Def.enc))]),(1,.cells [.t (.int .i64 up.parent),.t (.str up.hop.on),.t (.str up.hop.key),.t (.str up.ty),.t (.lst (up.Zd.map zp.enc)),.t (.lst (up.z5.map za.enc))]),(2,.cells [.t (.int .i64 x.parent),.t (.str x.hop.on),.t (.str x.hop.key),.t (.str x.ty),.t (.lst (x.Zd.map zp.enc)),.t (.lst (x.z5.map za.enc))])],3⟩}) (fun r2 j _=>up.z5.any (z1C ds x up)=(r2.any (· ==x.ty)||r.any (z1C ds x up))) 3 () Z hinv Z Z Z ?_ ?_
   ·intro _ hinv2;simp only [List.any_nil,Bool.false_or] at hinv2;refine fR Z ?_;refine lM Z Z Z ?_;refine fM Z ?_;refine Run.zj Z Z (by simp) ?_;refine fR Z ?_;refine aL Z Z Z Z Z ?_;refine fM Z ?_;exact zn 3 Z (ih () hinv2) Z Z Z
   ·intro j t r2 _ k1 hj kd hinv2 ih2;rw [List.any_cons] at hinv2;refine fR Z ?_;refine lM Z Z Z ?_;refine fM Z ?_;refine Run.zm Z Z (by simp;omega) ?_;refine fR Z ?_;refine Mid.zg Z Z Z k1 Z Z ?_;refine fM Z ?_;refine Run.cond Z Z (fun h3=>?_) (fun h3=>?_)
    ·refine fR Z ?_;refine Run.fin Z (z3.go ?_);exact .t (by rw [hinv2,h3];rfl)
    ·rw [h3,Bool.false_or] at hinv2;refine fR Z ?_;refine aL Z Z Z Z Z ?_;refine fM Z ?_;exact zn 3 Z (ih2 () hinv2) Z Z Z
  ·have hq:z1C ds x up q=false:=by unfold z1C;rw [h2,Bool.false_and]
   rw [hq,Bool.false_or] at hinv;refine fR Z ?_;refine aL Z Z Z Z Z ?_;refine fM Z ?_;exact zn 3 Z (ih () hinv) Z Z Z
theorem zcn {ds:List Def} {x up:Place} (h:∃q,q∈up.z5/\q.key=x.hop.key/\q.on=up.ty/\x.ty∈C11.y4 ds q.ty.name):up.z5.any (z1C ds x up)=true:=by
 obtain ⟨q,h1,h2,h3,h4⟩:=h;refine List.any_eq_true.2 ⟨q,h1,?_⟩;unfold z1C;simp only [h2,h3,beq_self_eq_true,Bool.and_self,Bool.true_and]
 exact List.any_eq_true.2 ⟨x.ty,h4,by simp⟩
theorem zfH (H:PrT P) (s:zH) (ds:List Def) (kind:Int) (z5:List za) (hA:zci s ds z5):z7 P 5 [s.v,.agg [.t (.int .i64 kind),.t (.lst (z5.map za.enc))]] ⟨[],0⟩ {v:= .t (.bool true)}:=by
 have hlg:=z2x H.n.l s ds hA.d hA.e hA.g hA.k hA.j hA.kf hA.jf kind z5 hA.pl hA.p hA.c;generalize hL:wi s ds kind z5=L at hlg;refine z7.run H.i5 H.mixed Z Z ?_;refine fR Z ?_;refine Mid.call (hlg) Z Z Z Z ?_;refine fM Z ?_
 cases L with
 |true=>
  refine Run.zm Z Z Z ?_;refine fR Z ?_;refine Mid.call (yR H.n.l.r.p29) Z Z Z Z ?_;refine fM Z ?_;refine Run.fin Z (z3.go ?_);exact .t Z
 |false=>
  refine Run.zj Z Z Z ?_;have hK:=zc1 hL;obtain ⟨Ch,Lv,hE,hEL⟩:=z8S s ds hK.k hA.e hA.d.ok;have hpl:=hA.pl;have hc:=hK.c;have hlen:=z36 s ds Ch kind z5;have hg8:=hK.k.g;have hp1:=z0H H.n.l.r.p29 hE kind z5 hpl hA.p (z0j hK.k kind z5) (by omega) (by omega);have hpg:=z5T (s:=s) (ds:=ds) (Ch:=Ch) (fun ty here f t h=>hE.cl ty here f t h) kind z5 (by omega) hA.p (z0j hK.k kind z5);obtain ⟨ht,hne,hsum⟩:=z6r (s:=s) (ds:=ds) (Ch:=Ch) kind z5 (z79 hK.r);generalize Zk s ds Ch kind z5=l at hp1 hpg hlen ht hne hsum
  obtain ⟨p0,hp0⟩:∃p0,l[0]?=some p0:=by cases l with|nil=>exact absurd rfl hne|cons a b=>exact ⟨a,rfl⟩
  have hl1:1<=l.length:=by cases l with|nil=>exact absurd rfl hne|cons a b=>simp
  have hpar:=(ht 0 p0 hp0).root rfl;refine fR Z ?_;refine Mid.call (hp1) Z Z Z Z ?_;refine fM Z ?_;refine lM Z Z Z ?_;refine fM Z ?_;refine lMG Z Z Z Z ?_;refine fM Z ?_;refine elG (j:=0) Z Z Z Z hp0 Z Z ?_;refine fM Z ?_;have a1:((l.length:Int)==0)=false:=beq_eq_false_iff_ne.2 (by omega);have a2:decide ((l.length:Int)>300)=false:=decide_eq_false (by omega);refine Run.zj Z Z (by rw [a1,a2,hpar];rfl) ?_;refine fR Z ?_;refine zD l (fun i (n:Nat)=>{env:=[(2,.ptr 0 0),(3,.ptr 1 0),(5,.t (.lst (l.map Place.enc))),(6,.t (.int .i64 n)),(7,.t (.int .i64 i))],s:=⟨[(0,.cells [.t (.lst (s.z4.map sE)),.t s.doc,.t (.lst (s.keys.map zJ.enc)),.t (.lst (s.zE.map zx.enc))]),(1,.cells [.t (.int .i64 kind),.t (.lst (z5.map za.enc))])],2⟩}) (fun r i n=>n+ZW r=za.zQ z5) 2 0 Z (by rw [hsum];exact Nat.zero_add _) Z Z Z ?_ ?_
  ·intro n hn;simp only [ZW,Nat.add_zero] at hn;have hn':n=za.zQ z5:=hn;subst hn';refine fR Z ?_;refine lM Z Z Z ?_;refine fM Z ?_;refine Run.zj Z Z (by simp) ?_;refine fR Z ?_;refine Mid.call (z2z H.n.l.p z5 (by omega)) Z Z Z Z ?_;refine fM Z ?_;refine caG Z Z (fun hg=>⟨_,rfl,yR H.n.l.r.p29,rfl⟩) Z Z ?_;refine fM Z ?_;refine Run.fin Z (z3.go ?_);exact .t (by simp)
  ·intro i q r n h1 hi hd hn ih;obtain ⟨⟨q1,q2⟩,q3,q4⟩:=hpg q (zMG h1);have hq:=ht i q h1;simp only [ZW] at hn
   have hup:∃up,l[q.parent.toNat]?=some up/\(0<i->0<=q.parent/\q.parent<(i:Int)/\q.z5.length≠0/\q.hop.on=up.ty/\up.z5.any (z1C ds q up)=true):=by
    rcases Nat.eq_zero_or_pos i with h0|h0
    ·have hr:=hq.root h0
     exact ⟨p0,by rw [hr];exact hp0,fun h=>by omega⟩
    ·obtain ⟨g1,m,p,g2,g3,g4,g5,g6⟩:=hq.up h0
     refine ⟨p,by rw [g2];exact g4,fun _=>⟨by omega,by omega,by intro e;exact g1 (List.length_eq_zero_iff.1 e),g5,zcn ?_⟩⟩
     obtain ⟨x,x1,x2,x3,x4⟩:=g6;exact ⟨x,x1,x2,x3,x4⟩
   obtain ⟨up,hup1,hup2⟩:=hup;have hupl:=(hpg up (zMG hup1)).2.1
   have hled:0<i->z7 P 16 [.agg [.t s.doc],up.v,q.v] ⟨[],0⟩ {v:= .t (.bool true)}:=fun h0=>by
    obtain ⟨_,_,_,u4,u5⟩:=hup2 h0;have:=zeR H ds hA.d.ok up q hupl u4;rw [u5] at this;rw [hA.e];exact this
   have hcond:(decide ((i:Int)>0)&&(((decide (q.parent<0)||decide (q.parent≥(i:Int)))||((q.z5.length:Int)==0))||!true))=false:=by
    rcases Nat.eq_zero_or_pos i with h0|h0
    ·simp [h0]
    ·obtain ⟨u1,u2,u3,_⟩:=hup2 h0;have a3:decide (q.parent<0)=false:=decide_eq_false (by omega);have a4:decide (q.parent≥(i:Int))=false:=decide_eq_false (by omega);have a5:((q.z5.length:Int)==0)=false:=beq_eq_false_iff_ne.2 (by omega);rw [a3,a4,a5];simp
   refine fR Z ?_;refine lM Z Z Z ?_;refine fM Z ?_;refine Run.zm Z Z (by simp;omega) ?_;refine fR Z ?_;refine Mid.zg Z Z Z h1 Z Z ?_;refine fM Z ?_;refine lM Z Z Z ?_;refine aN Z Z Z ?_;refine fM Z ?_;refine zD q.z5 (fun j (_:Unit)=>{env:=[(2,.ptr 0 0),(3,.ptr 1 0),(5,.t (.lst (l.map Place.enc))),(6,.t (.int .i64 (n+q.z5.length:Nat))),(7,.t (.int .i64 i)),(8,.t (.int .i64 j))],s:=⟨[(0,.cells [.t (.lst (s.z4.map sE)),.t s.doc,.t (.lst (s.keys.map zJ.enc)),.t (.lst (s.zE.map zx.enc))]),(1,.cells [.t (.int .i64 kind),.t (.lst (z5.map za.enc))])],2⟩}) (fun _ _ _=>True) 2 () Z trivial Z Z Z ?_ ?_
   ·intro _ _;refine fR Z ?_;refine Mid.zg Z Z Z h1 Z Z ?_;refine fM Z ?_;refine lM Z Z Z ?_;refine fM Z ?_;refine Run.zj Z Z (by simp) ?_;refine fR Z ?_;refine elG Z Z Z Z h1 Z Z ?_;refine fM Z ?_;refine elG Z Z Z Z h1 Z Z ?_;refine fM Z ?_;refine elG Z Z Z Z h1 Z Z ?_;refine fM Z ?_;refine lMG Z Z Z Z ?_;refine fM Z ?_;refine elG Z Z Z Z h1 Z Z ?_;refine fM Z ?_
    refine Mid.z9s Z Z Z Z hup1 (fun hg=>(hup2 (by simp at hg;omega)).1) Z (by (repeat' (first |exact trivial|exact Bool.not_or_self _|exact yK _|exact yJ _|exact grd3 _ _|exact yL _ _|refine And.intro ?_ ?_|exact rfl|(simp;done)|(simp<;>omega)));done) (by (repeat' (first |exact trivial|exact Bool.not_or_self _|exact yK _|exact yJ _|exact grd3 _ _|exact yL _ _|refine And.intro ?_ ?_|exact rfl|(simp;done)|(simp<;>omega)));done) Z ?_
    refine fM Z ?_;refine elG Z Z Z Z h1 Z Z ?_;refine fM Z ?_;refine caG Z Z (fun hg=>⟨_,rfl,hled (by simp at hg;omega),rfl⟩) Z Z ?_;refine fM Z ?_;refine Run.zj Z Z hcond ?_;refine fR Z ?_;refine aL Z Z Z Z Z ?_;refine fM Z ?_;exact zn 2 Z (ih (n+q.z5.length) (by omega)) Z Z Z
   ·intro j y r2 _ k1 hj kd _ ih2;have hy:=(hq.on y (zMG k1)).1;refine fR Z ?_;refine Mid.zg Z Z Z h1 Z Z ?_;refine fM Z ?_;refine lM Z Z Z ?_;refine fM Z ?_;refine Run.zm Z Z (by simp;omega) ?_;refine fR Z ?_;refine Mid.zg Z Z Z h1 Z Z ?_;refine fM Z ?_;refine Mid.Zl (za.zw y) Z Z Z k1 Z Z ?_;refine fM Z ?_;refine Mid.zg Z Z Z h1 Z Z ?_;refine fM Z ?_;refine Run.zj Z Z (by simp [hy]) ?_;refine fR Z ?_;refine aL Z Z Z Z Z ?_;refine fM Z ?_;exact zn 2 Z (ih2 () trivial) Z Z Z
theorem zfo (H:PrT P) (s:zH) (ds:List Def) (kind:Int) (z5:List za) (hA:zci s ds z5):z7 P 6 [s.v,.agg [.t (.int .i64 kind),.t (.lst (z5.map za.enc))]] ⟨[],0⟩ {v:= .t (.bool true)}:=by
 have hlg:=z2x H.n.l s ds hA.d hA.e hA.g hA.k hA.j hA.kf hA.jf kind z5 hA.pl hA.p hA.c;generalize hL:wi s ds kind z5=L at hlg;refine z7.run H.i6 H.mixed Z Z ?_;refine fR Z ?_;refine Mid.call (hlg) Z Z Z Z ?_;refine fM Z ?_;refine Run.cond Z Z (fun h0=>?_) (fun h0=>?_)
 ·refine fR Z ?_;refine Mid.call (yR H.n.l.r.p29) Z Z Z Z ?_;refine fM Z ?_;refine Run.fin Z (z3.go ?_);exact .t Z
 ·have hL':wi s ds kind z5=false:=by
   rw [hL]
   cases L with
   |false=>rfl
   |true=>simp at h0
  have hK:=zc1 hL';obtain ⟨Ch,Lv,hE,hEL⟩:=z8S s ds hK.k hA.e hA.d.ok;have hpl:=hA.pl;have hc:=hK.c;have hg8:=hK.k.g
  have hdep:∀pk:List za,pk.length*160<=140737488355328->(∀x,x∈pk->x.Ok)->za.zQ pk<=200->z7 P 14 [s.v,.agg [.t (.int .i64 kind),.t (.lst (pk.map za.enc))]] ⟨[],0⟩ {v:=zdB (qb Lv (Zk s ds Ch kind pk) 0)}:=fun pk g1 g2 g3=>by
   have hlen:=z36 s ds Ch kind pk;have hpg:=z5T (s:=s) (ds:=ds) (Ch:=Ch) (fun ty here f t h=>hE.cl ty here f t h) kind pk (by omega) g2 (z0j hK.k kind pk);exact z66 H.n.l.r.p29 hE hEL kind pk g1 g2 (z0j hK.k kind pk) (by omega) (by omega) (fun p hp=>⟨(hpg p hp).1,(hpg p hp).2.1⟩)
  have hd1:=hdep z5 hpl hA.p hc;rw [z7N] at hd1;generalize hF:Wa s ds Ch Lv kind z5 (0,true)=F at hd1;unfold zdB at hd1;refine fR Z ?_;refine Mid.call (hd1) Z Z Z Z ?_;refine fM Z ?_;refine zD z5 (fun i (w:Int×Bool)=>{env:=[(2,.ptr 0 0),(3,.ptr 1 0),(5,.t (.int .i64 ((if F.2=true then some F.1 else none).getD 0))),(6,.t (.int .i64 (if (if F.2=true then some F.1 else none).isSome then 0 else 60))),(7,.t (.int .i64 w.1)),(8,.t (.bool w.2)),(9,.t (.int .i64 i))],s:=⟨[(0,.cells [.t (.lst (s.z4.map sE)),.t s.doc,.t (.lst (s.keys.map zJ.enc)),.t (.lst (s.zE.map zx.enc))]),(1,.cells [.t (.int .i64 kind),.t (.lst (z5.map za.enc))])],2⟩}) (fun r i w=>Wa s ds Ch Lv kind r w=F) 2 ((0:Int),true) Z hF Z Z Z ?_ ?_
  ·intro w hw;have hw':w=F:=hw;subst hw';obtain ⟨w1,w2⟩:=w;refine fR Z ?_;refine lM Z Z Z ?_;refine fM Z ?_;refine Run.zj Z Z (by simp) ?_;refine fR Z ?_
   cases w2 with
   |false=>
    refine Run.zm Z Z Z ?_;refine fR Z ?_;refine caG Z Z (fun hg=>⟨_,rfl,yR H.n.l.r.p29,rfl⟩) Z Z ?_;refine fM Z ?_;refine Run.fin Z (z3.go ?_);exact .t (by simp)
   |true=>
    refine Run.zj Z Z Z ?_;refine fR Z ?_;refine caG Z Z (fun hg=>⟨_,rfl,yR H.n.l.r.p29,rfl⟩) Z Z ?_;refine fM Z ?_;refine Run.fin Z (z3.go ?_);exact .t (by simp)
  ·intro i x r w h1 hi hd hw ih;have hxm:=zMG h1;have hxc:=Wt hxm
   have hd2:=hdep [x] (by simp) (fun y hy=>by simp at hy;rw [hy];exact hA.p x hxm) (by simp only [za.zQ];omega)
   have hnn:=zeG Lv (Zk s ds Ch kind [x]);simp only [Wa] at hw;generalize qb Lv (Zk s ds Ch kind [x]) 0=o at hd2 hw hnn;unfold zdB at hd2;unfold WW at hw
   have hsl:((z5.map za.enc).take (((i+1:Nat):Int)).toNat).drop ((i:Int)).toNat=[x].map za.enc:=by
    have hl2:(z5.take i).length=i:=by simp;omega
    rw [Int.toNat_natCast,Int.toNat_natCast,←List.map_take,←List.map_drop,List.take_add_one,h1];exact congrArg (List.map za.enc) (List.drop_left' hl2)
   refine fR Z ?_;refine lM Z Z Z ?_;refine fM Z ?_;refine Run.zm Z Z (by simp;omega) ?_;refine fR Z ?_;refine aL Z Z Z Z Z ?_
   refine Mid.val (v:= .t (.lst ([x].map za.enc))) (ps:=[decide (0<=(i:Int)),decide ((i:Int)<=((i+1:Nat):Int)),decide (((i+1:Nat):Int)<=(((z5.map za.enc).length:Nat):Int)),ZF 9 (z5.map za.enc)]) (by rw [←hsl];rfl) Z ⟨by simp,by simp;omega,by simp;omega,Qz (f:=za.enc) (sz:=9) (fun y=>(congrArg List.length (za.zw y)).trans rfl) z5,trivial⟩ rfl ?_
   refine fM Z ?_;refine Mid.call (hd2) Z Z Z Z ?_;refine fM Z ?_
   have hc2:((((if o.isSome=true then (0:Int) else 60)!=0)&&((if o.isSome=true then (0:Int) else 60)!=60))||decide (o.getD 0<0))=false:=by
    have a1:decide (o.getD 0<0)=false:=decide_eq_false (by omega);rw [a1]
    cases o<;>rfl
   refine Run.zj Z Z hc2 ?_;refine fR Z ?_;refine Run.cond Z Z (fun h5=>?_) (fun h5=>?_)
   ·have h5':o.getD 0>w.1:=zDT h5;rw [if_pos h5'] at hw;refine fR Z ?_;refine aL Z Z Z Z Z ?_;refine fM Z ?_;exact zn 2 Z (ih (o.getD 0,w.2&&((if o.isSome=true then (0:Int) else 60)==0)) hw) Z Z Z
   ·have h5':¬ o.getD 0>w.1:=of_decide_eq_false h5;rw [if_neg h5'] at hw;refine fR Z ?_;refine aL Z Z Z Z Z ?_;refine fM Z ?_;exact zn 2 Z (ih (w.1,w.2&&((if o.isSome=true then (0:Int) else 60)==0)) hw) Z Z Z
end Go.GB.C29
namespace Go.GB.C11
open Go.GB
def wFd:List Field->Nat
 |[]=>0
 |f::r=>f.args.length+f.zX.length+wFd r
def wD (d:Def):Nat:=1+d.fields.length+d.members.length+d.ze.length+d.zX.length+d.implements.length+wFd d.fields
def wDs:List Def->Nat
 |[]=>0
 |d::r=>wD d+wDs r
theorem Zo {α:Type} (f:α->List T) (hf:∀x,1<=ZL (f x)):∀l:List α,l.length<=yv (l.map f)
 |[]=>by simp
 |x::r=>by
  have:=hf x;have:=Zo f hf r;simp only [List.map_cons,yv,List.length_cons];omega
theorem zbN (x:T):1<=x.bulk:=by cases x<;>simp [T.bulk]
theorem Zt (x:T) (r:List T):1<=ZL (x::r):=by have:=zbN x;simp only [ZL];omega
theorem z4H:∀l:List Field,l.length+wFd l<=yv (l.map Field.enc)
 |[]=>by simp [wFd]
 |f::r=>by
  have:=z4H r;have h1:=Zo Input.enc (fun x=>Zt _ _) f.args;have h2:=Zo Dir.enc (fun x=>Zt _ _) f.zX;simp only [List.map_cons,yv,List.length_cons,wFd,Field.enc,ZL,T.bulk];omega
theorem zdQ (d:Def):wD d<=ZL d.enc:=by
 have h1:=z4H d.fields;have h2:=Zo zN.enc (fun x=>Zt _ _) d.members;have h3:=Zo Input.enc (fun x=>Zt _ _) d.ze;have h4:=Zo Dir.enc (fun x=>Zt _ _) d.zX;have h5:=Zo sE (fun x=>Zt _ _) d.implements;simp only [wD,Def.enc,ZL,T.bulk];omega
theorem z39:∀ds:List Def,wDs ds<=yv (ds.map Def.enc)
 |[]=>by simp [wDs]
 |d::r=>by have:=zdQ d;have:=z39 r;simp only [wDs,List.map_cons,yv];omega
theorem z2U (ds:List Def) (a b:Str):∀(l p:List Input),(inF ds a b p l).length<=3*l.length
 |[],p=>by simp [inF]
 |x::r,p=>by
  have h1:=z2U ds a b r (p++[x]);have h2:=wN x.name false (zV x.name p).isSome (a++x.name++b);simp only [inF,zaI,List.length_append,List.length_cons];split
  ·simp only [List.length_cons,List.length_nil];omega
  ·split
   ·simp only [List.length_cons,List.length_nil];omega
   ·simp only [List.length_nil];omega
theorem z4m (ds:List Def) (n:Str):∀(l p:List Field),(z0f ds n p l).length<=3*(l.length+wFd l)
 |[],p=>by simp [z0f]
 |x::r,p=>by
  have h1:=z4m ds n r (p++[x]);have h2:=wN x.name false (Zb x.name p).isSome (n++[46]++x.name);have h3:=z2U ds (n++[46]++x.name++[40]) [41] x.args [];simp only [z0f,z7J,List.length_append,List.length_cons,wFd];split
  ·simp only [List.length_cons,List.length_nil];omega
  ·split
   ·simp only [List.length_cons,List.length_nil];omega
   ·simp only [List.length_nil];omega
theorem z4q (n:Str):∀(l p:List zN),(z1B n p l).length<=2*l.length
 |[],p=>by simp [z1B]
 |x::r,p=>by
  have h1:=z4q n r (p++[x]);have h2:=wN x.name (z5f x.name) (wV p x.name) (n++[46]++x.name);simp only [z1B,List.length_append,List.length_cons];omega
theorem z6w (ds:List Def) (i:Nat) (d:Def):(YW ds i d).length<=5:=by
 have:=wN d.name false (z0B ds i d.name) d.name;unfold YW;simp only [List.length_append]
 split<;>split<;>split<;>simp<;>omega
theorem z3S (ds:List Def):∀(l:List Def) (i:Nat),(z4Y ds i l).length<=5*l.length+3*wDs l
 |[],i=>by simp [z4Y]
 |d::r,i=>by
  have h1:=z3S ds r (i+1);have h2:=z6w ds i d
  have h3:(zcW ds d).length<=3*wD d:=by
   have a1:=z4m ds d.name d.fields [];have a2:=z4q d.name d.members [];have a3:=z2U ds (d.name++[46]) [] d.ze [];unfold zcW wD;split
   ·omega
   ·split
    ·omega
    ·split
     ·omega
     ·split
      ·omega
      ·simp
  simp only [z4Y,List.length_append,List.length_cons,wDs];omega
theorem z70 {ds:List Def} (hb:yv (ds.map Def.enc)<=1048576) (q:Bool):(Yi ds q).length<=4398046511104:=by
 have h1:=z3S ds ds 0;have h2:=z39 ds;have h3:=Zo Def.enc (fun x=>Zt _ _) ds;unfold Yi z6o;rw [List.length_append]
 split<;>simp<;>omega
end Go.GB.C11
