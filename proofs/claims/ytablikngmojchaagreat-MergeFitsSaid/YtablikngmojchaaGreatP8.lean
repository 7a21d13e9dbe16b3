/-
  YtablikngmojchaaGreatP8: lemmas. No conditions.
-/
import Derived.Test.YtablikngmojchaaGreatP7
import Derived.Test.YtablikngmojchaaGreatP5
import Derived.Handed
set_option linter.all false
set_option maxRecDepth 100000
set_option maxHeartbeats 16000000
namespace Go.GB.C24
open Go.GB Go.GB.C11
variable {P:Program}
theorem zdX (H:zX P) (gs:List Gr) (hl:gs.length<=140737488355328) (hg:∀g,g∈gs->zV g.doc):z6 P 4 [.t (.lst (gs.map Gr.enc))] ⟨[],0⟩ {v:= .t (.bool true)}:=by
 have f1:=z9y H gs hl hg;have hk:=z3P H
 cases hf:z4F gs with
 |false=>
  rw [hf] at f1;refine z6.run H.i4 H.mixed Z Z ?_;refine fR Z ?_;refine Mid.call (f1) Z Z Z Z ?_;refine fM Z ?_;refine Run.zf Z Z Z ?_;refine fR Z ?_;refine Mid.call (hk) Z Z Z Z ?_;refine fM Z ?_;refine Run.fin Z (z3.go ?_);exact .t Z
 |true=>
  rw [hf] at f1;have hF:=z3s hf;have hN:=hF.gn hg;have g1:=wz H gs hN;have hdo:=z33 hN.toGL;have htl:=z3O hN.toGL;have hlaw:=fun (h:Yt gs=[]) g hg t ht=>@zc8 gs hF h g hg t ht;generalize wm gs=D at g1 hdo hlaw;generalize Yt gs=E at g1 htl hlaw
  obtain ⟨u,hu⟩:∃u:List Gr,(E=[]/\u=gs)∨(¬ E.length=0/\u=[]):=by
   by_cases h:E=[]
   ·exact ⟨gs,.inl ⟨h,rfl⟩⟩
   ·exact ⟨[],.inr ⟨by simpa using h,rfl⟩⟩
  refine z6.run H.i4 H.mixed Z Z ?_;refine fR Z ?_;refine Mid.call (f1) Z Z Z Z ?_;refine fM Z ?_;refine Run.ze Z Z Z ?_;refine fR Z ?_;refine Mid.call (g1) Z Z Z Z ?_;refine fM Z ?_;refine zu u (fun i (_:Unit)=>{env:=[(0,.t (.lst (gs.map Gr.enc))),(3,.ptr 0 0),(4,.t (.lst (E.map z4.enc))),(5,.t (.int .i64 i))],s:=⟨[(0,.cells [.t (.lst (D.map Def.enc))])],1⟩}) (fun r i _=>True) 1 () Z trivial Z Z Z ?_ ?_
  ·intro _ _;refine fR Z ?_;refine lM Z Z Z ?_;refine fM Z ?_;refine lMG Z Z Z Z ?_;refine fM Z ?_
   refine Run.ze Z Z (by rcases hu with ⟨h1,h2⟩|⟨h1,h2⟩<;>simp [h1,h2]) ?_
   refine fR Z ?_;refine Mid.call (hk) Z Z Z Z ?_;refine fM Z ?_;refine Run.fin Z (z3.go ?_);exact .t Z
  ·intro i g r _ h1 hi hdr _ ih
   rcases hu with ⟨hE,rfl⟩|⟨_,rfl⟩
   rotate_left
   ·simp at hi
   subst hE;have hgm:=zMG h1;have hgo:=hg g hgm;have hgl:=hgo.l;refine fR Z ?_;refine lM Z Z Z ?_;refine fM Z ?_;refine lMG Z Z Z Z ?_;refine fM Z ?_;refine Run.zf Z Z (by simp;omega) ?_;refine fR Z ?_;refine zu g.doc (fun k (_:Unit)=>{env:=[(0,.t (.lst (u.map Gr.enc))),(3,.ptr 0 0),(4,.t (.lst (([]:List z4).map z4.enc))),(5,.t (.int .i64 i)),(6,.t (.int .i64 k))],s:=⟨[(0,.cells [.t (.lst (D.map Def.enc))])],1⟩}) (fun r i _=>True) 1 () Z trivial Z Z Z ?_ ?_
   ·intro _ _;refine fR Z ?_;refine Mid.zb Z Z Z h1 Z Z ?_;refine fM Z ?_;refine lM Z Z Z ?_;refine fM Z ?_;refine Run.ze Z Z (by simp) ?_;refine fR Z ?_;refine aL Z Z Z Z Z ?_;refine fM Z ?_;exact zl 1 Z (ih () trivial) Z Z Z
   ·intro k t r2 _ h2 hkk hdk _ ih2;have htm:=zMG h2;have hto:=hgo.d t htm;have htfl:=hto.fl;obtain ⟨v,hv1,hv2,hv3⟩:=hlaw rfl g hgm t htm;have hvo:v.Ok:=hdo.d v (YC hv1);have hcall:=yl H.p13.toPr D hdo.l t.name;rw [hv1] at hcall;refine fR Z ?_;refine Mid.zb Z Z Z h1 Z Z ?_;refine fM Z ?_;refine lM Z Z Z ?_;refine fM Z ?_;refine Run.zf Z Z (by simp;omega) ?_;refine fR Z ?_;refine Mid.zb Z Z Z h1 Z Z ?_;refine fM Z ?_;refine Mid.zb Z Z Z h2 Z Z ?_;refine fM Z ?_;refine Mid.call (hcall) Z Z Z Z ?_;refine fM Z ?_;refine zu t.fields (fun j (_:Unit)=>{env:=[(0,.t (.lst (u.map Gr.enc))),(3,.ptr 0 0),(4,.t (.lst (([]:List z4).map z4.enc))),(5,.t (.int .i64 i)),(6,.t (.int .i64 k)),(7,.ptr 1 0),(8,.ptr 2 0),(9,.t (.bool true)),(10,.t (.int .i64 j))],s:=⟨[(0,.cells [.t (.lst (D.map Def.enc))]),(1,(TCo t)),(2,(TCo v))],3⟩}) (fun r3 k _=>True) 3 () Z trivial Z Z Z ?_ ?_
    ·intro _ _;refine fR Z ?_;refine lM Z Z Z ?_;refine fM Z ?_;refine Run.ze Z Z (by simp) ?_;refine fR Z ?_;refine Run.ze Z Z (by simp [hv2]) ?_;refine fR Z ?_;refine aL Z Z Z Z Z ?_;refine fM Z ?_;exact zl 1 Z (ih2 () trivial) Z Z Z
    ·intro j x r3 _ h3 hj hdj _ ih3;have hxm:=zMG h3;have hxo:=hto.f x hxm;obtain ⟨y,hy1,hy2⟩:=hv3 x hxm;have hyo:=hvo.f y (Z0 hy1);have hc2:=WQ H.p13.toPr v hvo.fl x.name;rw [hy1] at hc2;have hc3:=zeI H x.ty y.ty hxo.t hyo.t;rw [hy2] at hc3;refine fR Z ?_;refine lM Z Z Z ?_;refine fM Z ?_;refine Run.zf Z Z (by simp;omega) ?_;refine fR Z ?_;refine Mid.zb Z Z Z h3 Z Z ?_;refine fM Z ?_;refine Mid.call (hc2) Z Z Z Z ?_;refine fM Z ?_;refine elG Z Z Z Z h3 Z Z ?_;refine fM Z ?_;refine caG Z Z (fun hg=>⟨_,rfl,hc3,rfl⟩) Z Z ?_;refine fM Z ?_;refine Run.ze Z Z Z ?_;refine fR Z ?_;refine aL Z Z Z Z Z ?_;refine fM Z ?_;exact zl 3 Z (ih3 () trivial) Z Z Z
end Go.GB.C24
namespace Go.GB
open Go.RowKit Go.WideShapes Go.ChangeShapes
theorem yO {H:Type} {enc:TypeId×Value->H} {a:Assume} {C:Checked} {os:Os} {f:FuncId} {fn:Func} {s:ChangeSpec} {conds:List PathCond} {apart fresh handsOn again:Bool}
  (own:ownKnob C.prog.godebug=none) (started:os.Started) (noInit:C.prog.inits.idxOf? f=none) (hfn:C.prog.funcs[f]?=some fn)
  (witness:∃(w:World) (tape:Tape) (i:Go.Input),w.os=os/\(w.forCall tape i).Shaped C.prog/\i.vars=[]/\Go.Input.okWide C.prog (w.forCall tape i) .any w.heap.size f i/\
   s.pre6 enc C.prog fn conds apart (w.forCall tape i).memory i.args/\a.holds C.prog (lone (Frame.enter C.prog f i.args .normal) [] (w.forCall tape i)))
  (contract:∀(W:World) (base:Nat) (args:Array Value) (ds gs:List (DataW H)) (before:List MemPlace),
   (∀(j:Nat) t v,fn.params[j]?=some t->args[j]?=some v->Value.okWide C.prog W .any base t v)->
   DataW.Whole enc C.prog fn.params.toList s.vars apart W args.toList ds gs before->
   (DataW.weightsEach C.prog (fn.params.toList++s.plain.varTypes C.prog) (ds++gs)).all (· <=reachBytes)=true->
   Calls C.prog f args W fun e W'=>∃v,e= .returned v/\s.post enc C.prog fn apart fresh handsOn again W args v W'):
  ReturnsInHanded a C os f .any (s.pre6 enc C.prog fn conds apart) (s.post enc C.prog fn apart fresh handsOn again):=by
 have e:(fun (w:World) (args:Array Value)=>(s.pre enc C.prog fn conds apart w args/\True)/\sizedMet enc C.prog fn (OpenSpec.ofChange s) apart w args)=s.pre6 enc C.prog fn conds apart:=by
  funext w args;simp only [and_true];rfl
 rw [←e];obtain ⟨w,tape,i,h1,h2,h3,h4,h5,h6⟩:=witness;exact returnsInHanded_of_change_and (X:=fun _ _=>True) (fun _ _ _ _ _=>trivial) own started noInit hfn ⟨w,tape,i,h1,h2,h3,h4,⟨⟨h5.1,trivial⟩,h5.2⟩,h6⟩ (fun W base args ds gs before a1 a2 _ a4 _ _=>contract W base args ds gs before a1 a2 a4)
end Go.GB
