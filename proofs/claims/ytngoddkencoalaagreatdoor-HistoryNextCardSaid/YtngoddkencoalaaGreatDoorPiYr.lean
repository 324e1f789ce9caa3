/- The text PiYr. -/
import Derived.Test.YtngoddkencoalaaGreatDoorPiY
import Derived.RangeFuncOwn
namespace Pi
open Go
theorem x7 (w:World) (o:Go.Obj) {k:Nat} (h:k<w.heap.size):(w.alloc o).heap[k]?=w.heap[k]?:=by
 show(w.heap.push o)[k]?=w.heap[k]?
 rw[Array.getElem?_push]
 split
 ·omega
 ·rfl
def kg (R:List (Nat×En)):List Nat->List (Nat×En)
 | []=>R
 |n::ns=>kg (match lk R n with |some e=>ins n ⟨e.aX,e.tag,.gone⟩ R |none=>R) ns
section
variable {Q:Program} {T:Tg} {F:Nat->Prop} {G:Nat->Value} {w:World} {a:Act} {s:S}
theorem nM: ∀(ns:List Nat) (s:S),aC Q T F G w a s->aC Q T F G w a {s with rg:=kg s.rg ns}/\
  ∀m e,lk (kg s.rg ns) m=some e->e.obj.live=true->m∉ns/\lk s.rg m=some e
 | [],s,h=>⟨h,fun m e he _=>⟨by simp,he⟩⟩
 |n::ns,s,h=>by
  cases hn:lk s.rg n with
  |none=>
   obtain⟨h1,h2⟩:=nM ns s h
   unfold kg
   simp only[hn]
   refine⟨h1,fun m e he hl=> ?_⟩
   obtain⟨k1,k2⟩:=h2 m e he hl
   refine⟨fun hm=> ?_,k2⟩
   rcases zav.1 hm with rfl |hm
   ·rw[hn] at k2;cases k2
   ·exact k1 hm
  |some e0=>
   obtain⟨g1,_⟩:=h.mY (n:=n) (e1:=⟨e0.aX,e0.tag,.gone⟩) (g1:=G n) (w':=w) (fun e he=>by
    rw[hn] at he
    cases he
    exact .inr ⟨rfl,fun hl=>(by cases hl)⟩) (fun _ _ _=>rfl) (zaj _) rfl rfl rfl (fun b hb=>by cases hb) trivial (fun i _ hl=>by cases hl)
   rw[bW] at g1
   obtain⟨h1,h2⟩:=nM ns _ g1
   unfold kg
   simp only[hn]
   refine⟨h1,fun m e he hl=> ?_⟩
   obtain⟨k1,k2⟩:=h2 m e he hl
   by_cases hm:n=m
   ·subst hm
    simp only[bA] at k2
    cases k2
    cases hl
   ·simp only at k2
    rw[bU _ _ hm] at k2
    exact⟨fun h=>(zav.1 h).elim (fun e=>hm e.symm) k1,k2⟩
theorem u7 {ns:List Nat} (h:aC Q T F G w a s) {b:Nat} (hb:Own G (kg s.rg ns) b): ∃m e,m∉ns/\lk s.rg m=some e/\bF (G m) e.obj=some b:=by
 obtain⟨m,e,he,ho⟩:=hb
 have hl:e.obj.live=true:=by
  cases qhY:e.obj with
  |gone=>rw[qhY] at ho;cases ho
  |_=>rfl
 obtain⟨k1,k2⟩:=(nM ns s h).2 m e he hl
 exact⟨m,e,k1,k2,ho⟩
structure Setup (B:nJ Q) (Ti:Tg) (yt:Nat) (w0:World) (ps:Array Tmp) (assign body:Code):Prop where
 w0i:Ti.w0=w0
 w0b:B.T.w0=w0
 O1:Ti.O1=false
 yv:Ti.val yt= .func (.yield B.l) #[] #[]
 lp:B.lp.state= .ready/\B.lp.pending=none/\B.lp.tmps=B.a.tmps
 ps:B.lp.params=ps
 asg:B.lp.assign=assign
 body:B.lp.body=body
def Il (Q:Program) (kf:KF) (ps:List Nat) (base:Nat) (keep:Option (List Nat×List Nat)) (asg body:S->(PX×S->Prop)->Prop) (hk:FuncId->Nat->List (Nat×(S×(PX×S)->K (PX×S×(PX×S))))) (dc:FuncId->Nat->Nat) (g:Operand) (s:S):K (PX×S):=
 match s.ev g with
 | .fn f cG=>
        match Q.funcs[f]? with
  |some fn=>match fn.body with
   |some c=>
        if fn.name== "runtime.NumGoroutine" || !fn.results.toList.isEmpty then K.fail else
    let ns:=reach s.rg 1000 cG []
    if dU ns then(match sub s.rg (toPos s.rg ns) true 0 ns with
     |some R0=>(match cr keep {s with rg:=kg s.rg ns} with
      |none=>K.fail
      |some s0=>fun post=>eF Q kf ns.length (kc ps base keep asg body) (hk f ns.length) (dc f) c (⟨fn.ntmps,fD 0 (.mp ns.length 0::mz (toPos s.rg ns) cG),ins ns.length ⟨0,some ns.length,.ew⟩ R0⟩,(.normal,s0))
       (fun y=>match y.1 with
        | .exit _=>False
        |_=>post y.2.2))
     |none=>K.fail)
    else K.fail
   |none=>K.fail
  |none=>K.fail
 |_=>K.fail
variable {kp:pZ}
theorem TW.rangeFunc {kf:KF} (hJ:zT kf (fc Q kp)) (hX:dt Q T.w0 kp.X) (hdr:Q.follows .mixedOrders=true) (hm:T.O1=true) {dc:FuncId->Nat->Nat} (Mu:nv dc 0 Q.funcs.toList=true) {ps:Array Tmp} {assign bd:Code}
  {base:Nat} {keep:Option (List Nat×List Nat)} {asg body:S->(PX×S->Prop)->Prop} (oz: ∀val lo s post,asg s post->TW Q ⟨val,T.w0,lo,false⟩ assign s post) (cE: ∀val lo s post,body s post->TW Q ⟨val,T.w0,lo,false⟩ bd s post)
  {hk:FuncId->Nat->List (Nat×(S×(PX×S)->K (PX×S×(PX×S))))}
  (hl: ∀f fn c,Q.funcs[f]?=some fn->fn.body=some c-> ∀d∈aR c,∀yt h,lk (hk f yt) (Code.rX d)=some h-> ∀(B:nJ Q) (Ti:Tg),Setup B Ti yt T.w0 ps assign bd-> ∀x post,h x post->qd B Ti (.loop d) x.2 x.1 post)
  {g:Operand} {post:PX×S->Prop} (hp:Il Q kf ps.toList base keep asg body hk dc g s post):TW Q T (.rangeFunc g ps assign bd) s post:=by
 intro r tv F G w a Q' h hK
 obtain rfl:=tv hm
 have hv:=wV h g
 unfold Il at hp
 generalize s.ev g=gp at hp hv
 cases gp with
 |fn f cG=>
  simp only at hp
  have hv:aF F w G s.rg (a.eval g) (.fn f cG):=hv
  cases fX:Q.funcs[f]? with
  |none=>simp only[fX] at hp;exact hp.elim
  |some fn=>
  cases hc:fn.body with
  |none=>simp only[fX,hc] at hp;exact hp.elim
  |some c=>
  cases E5:(fn.name== "runtime.NumGoroutine" || !fn.results.toList.isEmpty) with
  |true=>simp only[fX,hc,E5,zba] at hp;exact hp.elim
  |false=>
  simp only[fX,hc,E5,zaz,zbd] at hp
  simp only[Bool.or_eq_false_iff,zcP] at E5
  obtain⟨jr,Fe⟩:=E5
  have Fe:fn.results.toList=[]:=by simpa using Fe
  generalize EB:reach s.rg 1000 cG []=ns at hp
  cases ky:dU ns with
  |false=>simp only[ky,zaz,zbd] at hp;exact hp.elim
  |true=>
  cases jL:sub s.rg (toPos s.rg ns) true 0 ns with
  |none=>simp only[ky,zba,jL] at hp;exact hp.elim
  |some R0=>
  simp only[ky,zba,jL] at hp
  cases hhd:cr keep {s with rg:=kg s.rg ns} with
  |none=>simp only[hhd] at hp;exact hp.elim
  |some s0=>
  simp only[hhd] at hp
  generalize hval:a.eval g=gv at hv
  cases hv with
  |fn _ cs _ GU jG=>
  generalize Fp:(Value.func (.yield (w.heap.size+1)) #[] #[])=yv
  have ij:yv.oneCell'=true:=by subst Fp;rfl
  refine wpIn_rangeFunc fun fn0 _=> ?_
  obtain⟨lp,Fq⟩: ∃lp:Loop,lp={state:= .ready,pending:=none,fn:=fn0,tmps:=a.tmps,params:=ps,assign,body:=bd,defers:=w.heap.size}:=⟨_,rfl⟩
  obtain⟨W1,hW1⟩: ∃W1,(w.alloc (.deferred (some []))).alloc (.loop lp)=W1:=⟨_,rfl⟩
  have hL1:W1.heap[w.heap.size+1]?=some (.loop lp):=by
   rw[<-hW1];have:=World.alloc_heap_new (w.alloc (.deferred (some []))) (.loop lp);rwa [World.size_alloc] at this
  have hK1:W1.heap[w.heap.size]?=some (.deferred (some [])):=by
   rw[<-hW1];exact(x7 _ _ (by simp)).trans (World.alloc_heap_new w _)
  have qje:W1.heap.size=w.heap.size+2:=by rw[<-hW1];simp
  have hold: ∀b,b<w.heap.size->W1.heap[b]?=w.heap[b]?:=fun b hb=>by
   rw[<-hW1];exact(x7 _ _ (by simp;omega)).trans (x7 _ _ hb)
  have Fs:W1.drawn=w.drawn/\W1.os=w.os/\W1.tape=w.tape/\W1.output=w.output:=by rw[<-hW1];exact⟨rfl,rfl,rfl,rfl⟩
  have qbV:(callFunc f (#[yv]++⟨cs⟩)).run Q W1= .ok (.enter f (#[yv]++⟨cs⟩)) W1:=by simp[callFunc,fX,hc];simpa using jr
  refine⟨w.heap.size+1,[{target:= .collected w.heap.size,args:= #[]}],W1,{target:= .fn (.func f) ⟨cs⟩,args:= #[yv]},W1,f, #[yv]++⟨cs⟩,W1,?_,?_,fun _ _=>trivial,?_,fun hd=>(by cases hd),xq (kX fX hc ?_)⟩
  ·rw[<-hW1,Fq];exact run_enterLoop_outer _ _ _ _ _
  ·simp only[resolve,hval,Fp]
   simp[go_sem,<-Fp]
  ·simp only[invoke]
   simpa [go_sem] using qbV
  have pd: ∀{T':Tg} {G':Nat->Value} {a':Act} {s':S},T'.w0=T.w0->a'.defers=[]->aC Q T' F G' w a' s'->aC Q T' F G' W1 a' s':=fun hw hd h'=>h'.other (fun b hb=>hold b (h'.jm b hb)) (fun b hb=>hold b (h'.mE hb)) (fun d Qr=>by rw[hd] at Qr;cases Qr) (by omega) (by rw[hw,Fs.1];exact h.dr)
  obtain⟨b1,b2,b3⟩:=h.heap.sub jL ky
  simp only[zba] at b1
  obtain⟨Gi,hGi⟩: ∃Gi:Nat->Value,Gi=fun i=>G (ns.getD i 0):=⟨_,rfl⟩
  rw[<-hGi] at b1 b2 b3
  have Ce:=fun j e' (hj:lk R0 j=some e')=>HV s.rg (toPos s.rg ns) true ns 0 R0 jL j e' hj
  have hyk:lk R0 ns.length=none:=by
   cases hx:lk R0 ns.length with
   |none=>rfl
   |some e=>
    obtain⟨n,e0,_,h2,_⟩:=Ce _ _ hx
    simp at h2
  obtain⟨Ti,hTi⟩: ∃Ti:Tg,Ti=⟨fun i=>if i=ns.length then yv else Gi i,T.w0,0,false⟩:=⟨_,rfl⟩
  have oM:fG Q Ti F Gi w R0:=by
   subst hTi
   refine⟨.nil,za5 _,fun t p hp=>by simp[lk] at hp,b1.rg,b1.own,b1.mq,b1.jm,fun n e i he hi hlv=> ?_,b1.z,b1.dr,za5 _⟩
   have ht:=b1.tag n e i he hi hlv
   obtain⟨n',e0,_,h2,_,_,rfl⟩:=Ce _ _ he
   simp only[zba,zal] at hi
   subst hi
   have:n<ns.length:=by have:=(zad.1 h2).1;omega
   show Gi n=if n=ns.length then yv else Gi n
   rw[zam (by omega)]
  obtain⟨N9,Ch⟩:=(pd (by rw[hTi]) rfl oM).mY (n:=ns.length) (e1:=⟨0,some ns.length,.ew⟩) (g1:=yv) (w':=W1) (fun e he=>by
   have he:lk R0 ns.length=some e:=he
   rw[hyk] at he
   cases he) (fun _ _ _=>rfl) (zaj _) rfl rfl rfl (fun b hb=>by cases hb) trivial (fun i hi _=>by
    cases hi
    rw[hTi]
    show yv=if ns.length=ns.length then yv else _
    simp)
  have EM:(#[yv]++⟨cs⟩:Array Value)=⟨yv::cs⟩:=by apply zbq.1;simp
  rw[EM]
  have cN: ∀(i:Nat) (v:Value) (p:P),(yv::cs)[i]?=some v->(P.mp ns.length 0::mz (toPos s.rg ns) cG)[i]?=some p->aF F W1 (mY Gi ns.length yv) (ins ns.length ⟨0,some ns.length,.ew⟩ R0) v p:=fun i v p h1 h2=>by
   cases i with
   |zero=>
    simp only[List.getElem?_cons_zero,zal] at h1 h2
    subst h1
    subst h2
    exact .mp _ _ _ ij ⟨_,bA _ _ _,zaj _,fun _ _=>(a8 _ _ _).symm⟩
   |succ i=>
    simp only[zcu] at h1 h2
    rw[jn,zaw] at h2
    obtain⟨q,hq,rfl⟩:=h2
    exact aF.mono (fun _ h=>h) (fun b hb=>hold b (h.jm b hb)) (gF fun e he=>by rw[hyk] at he;cases he) (nB b2 (jG i v q h1 hq))
  have hlen:(yv::cs).length=(P.mp ns.length 0::mz (toPos s.rg ns) cG).length:=by simp[jo,GU]
  have xT:aC Q Ti F (mY Gi ns.length yv) W1 {tmps:=(⟨yv::cs⟩:Array Value)++Array.replicate (fn.ntmps-(⟨yv::cs⟩:Array Value).size) undef,defers:=[]} ⟨fn.ntmps,fD 0 (.mp ns.length 0::mz (toPos s.rg ns) cG),ins ns.length ⟨0,some ns.length,.ew⟩ R0⟩:=by
   refine fG.state (R:=ins ns.length ⟨0,some ns.length,.ew⟩ R0) N9 rfl .nil (by simp;omega) (fun t p hp=> ?_)
   obtain⟨_,h2⟩:=nG _ 0 t p hp
   simp only[Nat.sub_zero] at h2
   have bG:t<(yv::cs).length:=by have:=(zad.1 h2).1;omega
   have e:((⟨yv::cs⟩:Array Value)++Array.replicate (fn.ntmps-(⟨yv::cs⟩:Array Value).size) undef).getD t undef=(yv::cs)[t]:=by
    rw[fF]
    simp only[Array.toList_append]
    rw[zaM bG,zae bG]
    rfl
   rw[e]
   exact ct.of (cN t _ p (zae bG) h2)
  obtain⟨q0,_⟩:=nM ns s h
  obtain⟨G5,q1,v5⟩:=fI q0 hhd
  have qaH: ∀b,Own G5 s0.rg b->Own G (kg s.rg ns) b:=fun b hb=>by
   rcases v5.lD b hb with h' |h'
   ·exact h'
   ·have:=q1.mE hb
    omega
  have AY: ∀d∈a.defers,∃D,d={target:= .collected D,args:= #[]}/\D<w.heap.size/\ ¬Own G s.rg D:=fun d hd=>by
   obtain⟨D,k1,_,k2,_,k3⟩:=h.rf.2 d hd
   exact⟨D,k1,(zar.1 k2).1,k3⟩
  have E5: ∀b,w.heap.size<=b-> ∀d∈a.defers,d≠{target:= .collected b,args:= #[]}:=fun b hb d hd e=>by
   obtain⟨D,k1,k2,_⟩:=AY d hd
   rw[k1] at e
   injection e with e1 e2
   injection e1 with e1
   omega
  have q2:aC Q T F G5 W1 a s0:=q1.other (fun b hb=>hold b (q1.jm b hb)) (fun b hb=>hold b (q1.mE hb)) (fun d hd D hD=>by
   obtain⟨D',k1,k2,_⟩:=AY d hd
   rw[k1] at hD
   injection hD with e1 e2
   injection e1 with e1
   subst e1
   exact hold _ k2) (by omega) (by rw[Fs.1];exact h.dr)
  have q3:aC Q T F G5 W1 {a with defers:={target:= .collected w.heap.size,args:= #[]}::a.defers} s0:=by
   refine⟨⟨za7.2 ⟨fun hd=>E5 _ (zaj _) _ hd rfl,q2.rf.1⟩,fun d hd=> ?_⟩,q2.size,q2.tm,q2.rg,q2.own,q2.mq,q2.jm,q2.tag,q2.z,q2.dr,q2.sz⟩
   rcases zav.1 hd with rfl |hd
   ·exact⟨_,rfl,⟨h.sz,hm⟩,hK1,fun hf=>Nat.lt_irrefl _ (h.jm _ hf),fun ho=>Nat.lt_irrefl _ (q1.mE ho)⟩
   ·exact q2.rf.2 d hd
  obtain⟨B,hB⟩: ∃B:nJ Q,B=⟨T,{a with defers:={target:= .collected w.heap.size,args:= #[]}::a.defers},w.heap.size+1,lp,Own G s.rg,F,W1⟩:=⟨_,rfl⟩
  have jK:Setup B Ti ns.length T.w0 ps assign bd:=by
   subst hB
   subst hTi
   subst Fq
   exact⟨rfl,rfl,rfl,by show(if ns.length=ns.length then yv else _)=_;rw[zao rfl,<-Fp],⟨rfl,rfl,rfl⟩,rfl,rfl,rfl⟩
  have Ez:B.at (.normal,s0) W1 F (Own (mY Gi ns.length yv) (ins ns.length ⟨0,some ns.length,.ew⟩ R0)):=by
   subst hB
   show od Q T {a with defers:={target:= .collected w.heap.size,args:= #[]}::a.defers} (w.heap.size+1) lp (Own G s.rg) F W1 (.normal,s0) W1 F _
   refine⟨by subst Fq;exact hL1,F,G5,q3,⟨fun hf=>(by have:=h.jm _ hf;omega),fun ho=>(by have:=q1.mE ho;omega),fun d hd e=> ?_⟩,fun _ h=>h,fun b hb=> ?_,⟨fun _ h=>h,fun _ h=> .inl h,fun b hb=> .inl ?_,fun _ _ _=>rfl,zaj _,rfl,rfl,rfl⟩⟩
   ·rcases zav.1 hd with rfl |hd
    ·injection e with e1 e2
     injection e1 with e1
     omega
    ·exact E5 _ (by omega) d hd e
   ·have Cl:Own Gi R0 b:=by
     rcases Ch.lD b hb with h' |h'
     ·exact h'
     ·have:=N9.mE hb
      omega
    obtain⟨n,e,h1,h2,h3⟩:=b3 b Cl
    have bG:b<w.heap.size:=h.mE ⟨n,e,h2,h3⟩
    refine⟨h.mq n e b h2 h3,fun ho=> ?_,(by show b≠w.heap.size+1;omega),.inl ⟨n,e,h2,h3⟩,fun d hd e'=> ?_⟩
    ·obtain⟨m,e',k1,k2,k3⟩:=u7 h (qaH _ ho)
     exact k1 (h.own m n e' e b k2 h2 k3 h3▸h1)
    ·rcases zav.1 hd with rfl |hd
     ·injection e' with e1 e2
      injection e1 with e1
      omega
     ·obtain⟨D,k1,k2,k3⟩:=AY d hd
      rw[k1] at e'
      injection e' with e1 e2
      injection e1 with e1
      subst e1
      exact k3 ⟨n,e,h2,h3⟩
   ·obtain⟨m,e,_,k2,k3⟩:=u7 h (qaH _ hb)
    exact⟨m,e,k2,k3⟩
  have hTW:=gH (B:=B) (Ti:=Ti) hJ (by rw[jK.w0i];exact hX) hdr (jK.w0i.trans jK.w0b.symm) jK.O1 jK.yv jK.lp (asg:=asg) (body:=body) (base:=base) (keep:=keep) (fun val lo s post hp=>by rw[jK.w0b,jK.asg];exact oz val lo s post hp) (fun val lo s post hp=>by rw[jK.w0b,jK.body];exact cE val lo s post hp)
   (hk:=hk f ns.length) (dc:=dc f) c (kA Mu f fn c fX hc) (fun d hd h' hh x post hp=>hl f fn c fX hc d hd ns.length h' hh B Ti jK x post hp) _ _ (by rw[jK.ps];exact hp)
  refine hTW F _ W1 _ _ xT Ez fun e s1 c1 a1 w1 wo ⟨F',G',k1,k2⟩=> ?_
  have Im:a1.defers=[]:=by
   cases Qr:a1.defers with
   |nil=>rfl
   |cons d ds=>
    obtain⟨_,_,h0,_⟩:=k1.rf.2 d (by rw[Qr];simp)
    rw[jK.O1] at h0
    cases h0.2
  have fin:post c1->LeavesInM Fence.wide 0 Q fn a1.tmps (rangePost (wd none) 0 Q (w.heap.size+1) Q' {a with defers:=[{target:= .collected w.heap.size,args:= #[]}]++a.defers}) a1.defers .returning w1:=fun eV=>by
   rw[Im]
   obtain⟨us,u1,_⟩:=rv k1 (fn:=fn) (ps:=[]) (by rw[Fe];rfl)
   refine⟨_,u1,?_⟩
   subst hB
   have k2:od Q T {a with defers:={target:= .collected w.heap.size,args:= #[]}::a.defers} (w.heap.size+1) lp (Own G s.rg) F W1 c1 w1 F' (Own G' s1.rg):=k2
   obtain⟨l1,F2,G2,m1,m2,m3,m4,m5⟩:=k2
   refine⟨_,_,run_endLoop l1 (by simp only[KA];split<;>simp),?_⟩
   have qjf:w.heap.size+1<w1.heap.size:=(zar.1 l1).1
   have final:Q' c1.1.fo {a with defers:=[{target:= .collected w.heap.size,args:= #[]}]++a.defers} (w1.putObj (w.heap.size+1) (.loop {KA lp c1.1 with state:= .exhausted})):=by
    refine hK c1.1 c1.2 _ _ eV ⟨F2,G2,m1.CU m2 _,m5.kN,fun b hb=> ?_,fun b hb=> ?_,fun b hb bZ=> ?_,?_,m5.os.trans Fs.2.1,m5.tape.trans Fs.2.2.1,m5.output.trans Fs.2.2.2⟩
    ·rcases m5.mD b hb with h' |h' |h'
     ·exact .inl h'
     ·exact .inr (.inl h')
     ·simp at h'
      exact .inr (.inr (by omega))
    ·rcases m5.lD b hb with h' |h'
     ·exact .inl h'
     ·simp at h'
      exact .inr (by omega)
    ·have h':=m5.keep b (by simp;omega) bZ
     rw[eR _ _ _ (by omega),eR _ _ _ (by omega)] at h'
     rw[eR _ _ _ (by omega),h']
     exact hold b hb
    ·simp
     omega
   obtain⟨c1x,c1s⟩:=c1
   cases c1x with
   |normal=>exact final
   |exit id=>exact wpIn_exit final
   |ret=>exact wpIn_ret final
  cases e with
  |normal=>exact fin wo
  |ret=>exact fin wo
  |exit id=>exact wo.elim
 |_=>exact hp.elim
def Wv (m:S×(PX×S)->K (PX×S×(PX×S))) (keep:Option (List Nat×List Nat)) (y:S×(PX×S)):K (PX×S×(PX×S)):=
 K.bind (m y) fun x=>match x.1 with
  | .normal=>K.bind (K.dN (cr keep x.2.1)) fun s2=>K.ret (.normal,s2,x.2.2)
  |_=>K.bind (K.dN (dA keep x.2.1)) fun s2=>K.ret (x.1,s2,x.2.2)
def Io (n:Nat) (I:Nat->S×(PX×S)->Prop) (O:PX×S×(PX×S)->Prop) (x:PX×S×(PX×S)):Prop:=match x.1 with | .normal=> ∃m,m<n/\I m x.2 |_=>O x
def dY (keep:Option (List Nat×List Nat)) (g:S×(PX×S)->K (PX×S×(PX×S))):S×(PX×S)->K (PX×S×(PX×S)):=fun y post=>match cr keep y.1 with |some s0=>g (s0,y.2) post |none=>False
end
end Pi
