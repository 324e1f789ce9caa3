/- The text PiYr. -/
import Derived.Test.YtngoddkencoalaaGreatDoorPiY
import Derived.RangeFuncOwn
namespace Pi
open Go
theorem xi (w:World) (o:Go.Obj) {k:Nat} (h:k<w.heap.size):(w.alloc o).heap[k]?=w.heap[k]?:=by
 show(w.heap.push o)[k]?=w.heap[k]?
 rw[Array.getElem?_push]
 split
 ·omega
 ·rfl
def jI (R:List (Nat×En)):List Nat->List (Nat×En)
 | []=>R
 |n::ns=>jI (match lk R n with |some e=>ins n ⟨e.aU,e.tag,.gone⟩ R |none=>R) ns
section
variable {Q:Program} {T:Tg} {F:Nat->Prop} {G:Nat->Value} {w:World} {a:Act} {s:S}
theorem nf: ∀(ns:List Nat) (s:S),aB Q T F G w a s->aB Q T F G w a {s with rg:=jI s.rg ns}/\
  ∀m e,lk (jI s.rg ns) m=some e->e.obj.live=true->m∉ns/\lk s.rg m=some e
 | [],s,h=>⟨h,fun m e he _=>⟨by simp,he⟩⟩
 |n::ns,s,h=>by
  cases hn:lk s.rg n with
  |none=>
   obtain⟨h1,h2⟩:=nf ns s h
   unfold jI
   simp only[hn]
   refine⟨h1,fun m e he hl=> ?_⟩
   obtain⟨k1,k2⟩:=h2 m e he hl
   refine⟨fun hm=> ?_,k2⟩
   rcases List.mem_cons.1 hm with rfl |hm
   ·rw[hn] at k2;cases k2
   ·exact k1 hm
  |some e0=>
   obtain⟨g1,_⟩:=h.mn (n:=n) (e1:=⟨e0.aU,e0.tag,.gone⟩) (g1:=G n) (w':=w) (fun e he=>by
    rw[hn] at he
    cases he
    exact .inr ⟨rfl,fun hl=>(by cases hl)⟩) (fun _ _ _=>rfl) (Nat.le_refl _) rfl rfl rfl (fun b hb=>by cases hb) trivial (fun i _ hl=>by cases hl)
   rw[bU] at g1
   obtain⟨h1,h2⟩:=nf ns _ g1
   unfold jI
   simp only[hn]
   refine⟨h1,fun m e he hl=> ?_⟩
   obtain⟨k1,k2⟩:=h2 m e he hl
   by_cases hm:n=m
   ·subst hm
    simp only[bA] at k2
    cases k2
    cases hl
   ·simp only at k2
    rw[bG _ _ hm] at k2
    exact⟨fun h=>(List.mem_cons.1 h).elim (fun e=>hm e.symm) k1,k2⟩
theorem uv {ns:List Nat} (h:aB Q T F G w a s) {b:Nat} (hb:Own G (jI s.rg ns) b): ∃m e,m∉ns/\lk s.rg m=some e/\bu (G m) e.obj=some b:=by
 obtain⟨m,e,he,ho⟩:=hb
 have hl:e.obj.live=true:=by
  cases qga:e.obj with
  |gone=>rw[qga] at ho;cases ho
  |_=>rfl
 obtain⟨k1,k2⟩:=(nf ns s h).2 m e he hl
 exact⟨m,e,k1,k2,ho⟩
structure Setup (B:mZ Q) (Ti:Tg) (yt:Nat) (w0:World) (ps:Array Tmp) (assign body:Code):Prop where
 w0i:Ti.w0=w0
 w0b:B.T.w0=w0
 Nb:Ti.Nb=false
 yv:Ti.val yt= .func (.yield B.l) #[] #[]
 lp:B.lp.state= .ready/\B.lp.pending=none/\B.lp.tmps=B.a.tmps
 ps:B.lp.params=ps
 asg:B.lp.assign=assign
 body:B.lp.body=body
def GP (Q:Program) (kf:KF) (ps:List Nat) (base:Nat) (keep:Option (List Nat×List Nat)) (asg body:S->(PX×S->Prop)->Prop) (hk:FuncId->Nat->List (Nat×(S×(PX×S)->K (PX×S×(PX×S))))) (dc:FuncId->Nat->Nat) (g:Operand) (s:S):K (PX×S):=
 match s.ev g with
 | .fn f cy=>
        match Q.funcs[f]? with
  |some fn=>match fn.body with
   |some c=>
        if fn.name== "runtime.NumGoroutine" || !fn.results.toList.isEmpty then K.fail else
    let ns:=reach s.rg 1000 cy []
    if dN ns then(match sub s.rg (toPos s.rg ns) true 0 ns with
     |some R0=>(match cq keep {s with rg:=jI s.rg ns} with
      |none=>K.fail
      |some s0=>fun post=>ew Q kf ns.length (jG ps base keep asg body) (hk f ns.length) (dc f) c (⟨fn.ntmps,fj 0 (.mp ns.length 0::lO (toPos s.rg ns) cy),ins ns.length ⟨0,some ns.length,.dX⟩ R0⟩,(.normal,s0))
       (fun y=>match y.1 with
        | .exit _=>False
        |_=>post y.2.2))
     |none=>K.fail)
    else K.fail
   |none=>K.fail
  |none=>K.fail
 |_=>K.fail
variable {kp:py}
theorem TW.rangeFunc {kf:KF} (fG:yZ kf (eZ Q kp)) (hX:db Q T.w0 kp.X) (hdr:Q.follows .mixedOrders=true) (hm:T.Nb=true) {dc:FuncId->Nat->Nat} (KL:mJ dc 0 Q.funcs.toList=true) {ps:Array Tmp} {assign bd:Code}
  {base:Nat} {keep:Option (List Nat×List Nat)} {asg body:S->(PX×S->Prop)->Prop} (nT: ∀val lo s post,asg s post->TW Q ⟨val,T.w0,lo,false⟩ assign s post) (cB: ∀val lo s post,body s post->TW Q ⟨val,T.w0,lo,false⟩ bd s post)
  {hk:FuncId->Nat->List (Nat×(S×(PX×S)->K (PX×S×(PX×S))))}
  (hl: ∀f fn c,Q.funcs[f]?=some fn->fn.body=some c-> ∀d∈aN c,∀yt h,lk (hk f yt) (Code.rM d)=some h-> ∀(B:mZ Q) (Ti:Tg),Setup B Ti yt T.w0 ps assign bd-> ∀x post,h x post->pH B Ti (.loop d) x.2 x.1 post)
  {g:Operand} {post:PX×S->Prop} (hp:GP Q kf ps.toList base keep asg body hk dc g s post):TW Q T (.rangeFunc g ps assign bd) s post:=by
 intro r sN F G w a Q' h hK
 obtain rfl:=sN hm
 have hv:=vW h g
 unfold GP at hp
 generalize s.ev g=gp at hp hv
 cases gp with
 |fn f cy=>
  simp only at hp
  have hv:aD F w G s.rg (a.eval g) (.fn f cy):=hv
  cases eJ:Q.funcs[f]? with
  |none=>simp only[eJ] at hp;exact hp.elim
  |some fn=>
  cases hc:fn.body with
  |none=>simp only[eJ,hc] at hp;exact hp.elim
  |some c=>
  cases Oe:(fn.name== "runtime.NumGoroutine" || !fn.results.toList.isEmpty) with
  |true=>simp only[eJ,hc,Oe,if_true] at hp;exact hp.elim
  |false=>
  simp only[eJ,hc,Oe,Bool.false_eq_true,if_false] at hp
  simp only[Bool.or_eq_false_iff,Bool.not_eq_false'] at Oe
  obtain⟨gJ,D8⟩:=Oe
  have D8:fn.results.toList=[]:=by simpa using D8
  generalize Bn:reach s.rg 1000 cy []=ns at hp
  cases lx:dN ns with
  |false=>simp only[lx,Bool.false_eq_true,if_false] at hp;exact hp.elim
  |true=>
  cases lV:sub s.rg (toPos s.rg ns) true 0 ns with
  |none=>simp only[lx,if_true,lV] at hp;exact hp.elim
  |some R0=>
  simp only[lx,if_true,lV] at hp
  cases hhd:cq keep {s with rg:=jI s.rg ns} with
  |none=>simp only[hhd] at hp;exact hp.elim
  |some s0=>
  simp only[hhd] at hp
  generalize hval:a.eval g=gv at hv
  cases hv with
  |fn _ cs _ C3 iQ=>
  generalize Eh:(Value.func (.yield (w.heap.size+1)) #[] #[])=yv
  have gm:yv.oneCell'=true:=by subst Eh;rfl
  refine wpIn_rangeFunc fun fn0 _=> ?_
  obtain⟨lp,Ei⟩: ∃lp:Loop,lp={state:= .ready,pending:=none,fn:=fn0,tmps:=a.tmps,params:=ps,assign,body:=bd,defers:=w.heap.size}:=⟨_,rfl⟩
  obtain⟨W1,hW1⟩: ∃W1,(w.alloc (.deferred (some []))).alloc (.loop lp)=W1:=⟨_,rfl⟩
  have hL1:W1.heap[w.heap.size+1]?=some (.loop lp):=by
   rw[<-hW1];have:=World.alloc_heap_new (w.alloc (.deferred (some []))) (.loop lp);rwa [World.size_alloc] at this
  have hK1:W1.heap[w.heap.size]?=some (.deferred (some [])):=by
   rw[<-hW1];exact(xi _ _ (by simp)).trans (World.alloc_heap_new w _)
  have qhh:W1.heap.size=w.heap.size+2:=by rw[<-hW1];simp
  have hold: ∀b,b<w.heap.size->W1.heap[b]?=w.heap[b]?:=fun b hb=>by
   rw[<-hW1];exact(xi _ _ (by simp;omega)).trans (xi _ _ hb)
  have Ej:W1.drawn=w.drawn/\W1.os=w.os/\W1.tape=w.tape/\W1.output=w.output:=by rw[<-hW1];exact⟨rfl,rfl,rfl,rfl⟩
  have qal:(callFunc f (#[yv]++⟨cs⟩)).run Q W1= .ok (.enter f (#[yv]++⟨cs⟩)) W1:=by simp[callFunc,eJ,hc];simpa using gJ
  refine⟨w.heap.size+1,[{target:= .collected w.heap.size,args:= #[]}],W1,{target:= .fn (.func f) ⟨cs⟩,args:= #[yv]},W1,f, #[yv]++⟨cs⟩,W1,?_,?_,fun _ _=>trivial,?_,fun hd=>(by cases hd),wF (km eJ hc ?_)⟩
  ·rw[<-hW1,Ei];exact run_enterLoop_outer _ _ _ _ _
  ·simp only[resolve,hval,Eh]
   simp[go_sem,<-Eh]
  ·simp only[invoke]
   simpa [go_sem] using qal
  have oB: ∀{T':Tg} {G':Nat->Value} {a':Act} {s':S},T'.w0=T.w0->a'.defers=[]->aB Q T' F G' w a' s'->aB Q T' F G' W1 a' s':=fun hw hd h'=>h'.other (fun b hb=>hold b (h'.iR b hb)) (fun b hb=>hold b (h'.lT hb)) (fun d Oz=>by rw[hd] at Oz;cases Oz) (by omega) (by rw[hw,Ej.1];exact h.dr)
  obtain⟨b1,b2,b3⟩:=h.heap.sub lV lx
  simp only[if_true] at b1
  obtain⟨Gi,hGi⟩: ∃Gi:Nat->Value,Gi=fun i=>G (ns.getD i 0):=⟨_,rfl⟩
  rw[<-hGi] at b1 b2 b3
  have Bg:=fun j e' (hj:lk R0 j=some e')=>Gq s.rg (toPos s.rg ns) true ns 0 R0 lV j e' hj
  have hyk:lk R0 ns.length=none:=by
   cases hx:lk R0 ns.length with
   |none=>rfl
   |some e=>
    obtain⟨n,e0,_,h2,_⟩:=Bg _ _ hx
    simp at h2
  obtain⟨Ti,hTi⟩: ∃Ti:Tg,Ti=⟨fun i=>if i=ns.length then yv else Gi i,T.w0,0,false⟩:=⟨_,rfl⟩
  have sX:fo Q Ti F Gi w R0:=by
   subst hTi
   refine⟨.nil,Nat.zero_le _,fun t p hp=>by simp[lk] at hp,b1.rg,b1.own,b1.lr,b1.iR,fun n e i he hi hlv=> ?_,b1.z,b1.dr,Nat.zero_le _⟩
   have ht:=b1.tag n e i he hi hlv
   obtain⟨n',e0,_,h2,_,_,rfl⟩:=Bg _ _ he
   simp only[if_true,Option.some.injEq] at hi
   subst hi
   have:n<ns.length:=by have:=(List.getElem?_eq_some_iff.1 h2).1;omega
   show Gi n=if n=ns.length then yv else Gi n
   rw[if_neg (by omega)]
  obtain⟨Sl,Bj⟩:=(oB (by rw[hTi]) rfl sX).mn (n:=ns.length) (e1:=⟨0,some ns.length,.dX⟩) (g1:=yv) (w':=W1) (fun e he=>by
   have he:lk R0 ns.length=some e:=he
   rw[hyk] at he
   cases he) (fun _ _ _=>rfl) (Nat.le_refl _) rfl rfl rfl (fun b hb=>by cases hb) trivial (fun i hi _=>by
    cases hi
    rw[hTi]
    show yv=if ns.length=ns.length then yv else _
    simp)
  have DJ:(#[yv]++⟨cs⟩:Array Value)=⟨yv::cs⟩:=by apply Array.toList_inj.1;simp
  rw[DJ]
  have b8: ∀(i:Nat) (v:Value) (p:P),(yv::cs)[i]?=some v->(P.mp ns.length 0::lO (toPos s.rg ns) cy)[i]?=some p->aD F W1 (mn Gi ns.length yv) (ins ns.length ⟨0,some ns.length,.dX⟩ R0) v p:=fun i v p h1 h2=>by
   cases i with
   |zero=>
    simp only[List.getElem?_cons_zero,Option.some.injEq] at h1 h2
    subst h1
    subst h2
    exact .mp _ _ _ gm ⟨_,bA _ _ _,Nat.le_refl _,fun _ _=>(aZ _ _ _).symm⟩
   |succ i=>
    simp only[List.getElem?_cons_succ] at h1 h2
    rw[iT,Option.map_eq_some_iff] at h2
    obtain⟨q,hq,rfl⟩:=h2
    exact aD.mono (fun _ h=>h) (fun b hb=>hold b (h.iR b hb)) (gi fun e he=>by rw[hyk] at he;cases he) (mP b2 (iQ i v q h1 hq))
  have hlen:(yv::cs).length=(P.mp ns.length 0::lO (toPos s.rg ns) cy).length:=by simp[iU,C3]
  have xa:aB Q Ti F (mn Gi ns.length yv) W1 {tmps:=(⟨yv::cs⟩:Array Value)++Array.replicate (fn.ntmps-(⟨yv::cs⟩:Array Value).size) undef,defers:=[]} ⟨fn.ntmps,fj 0 (.mp ns.length 0::lO (toPos s.rg ns) cy),ins ns.length ⟨0,some ns.length,.dX⟩ R0⟩:=by
   refine fo.state (R:=ins ns.length ⟨0,some ns.length,.dX⟩ R0) Sl rfl .nil (by simp;omega) (fun t p hp=> ?_)
   obtain⟨_,h2⟩:=mV _ 0 t p hp
   simp only[Nat.sub_zero] at h2
   have bk:t<(yv::cs).length:=by have:=(List.getElem?_eq_some_iff.1 h2).1;omega
   have e:((⟨yv::cs⟩:Array Value)++Array.replicate (fn.ntmps-(⟨yv::cs⟩:Array Value).size) undef).getD t undef=(yv::cs)[t]:=by
    rw[fm]
    simp only[Array.toList_append]
    rw[List.getElem?_append_left bk,List.getElem?_eq_getElem bk]
    rfl
   rw[e]
   exact cr.of (b8 t _ p (List.getElem?_eq_getElem bk) h2)
  obtain⟨q0,_⟩:=nf ns s h
  obtain⟨G5,q1,v5⟩:=fq q0 hhd
  have Xg: ∀b,Own G5 s0.rg b->Own G (jI s.rg ns) b:=fun b hb=>by
   rcases v5.kU b hb with h' |h'
   ·exact h'
   ·have:=q1.lT hb
    omega
  have zZ: ∀d∈a.defers,∃D,d={target:= .collected D,args:= #[]}/\D<w.heap.size/\ ¬Own G s.rg D:=fun d hd=>by
   obtain⟨D,k1,_,k2,_,k3⟩:=h.qV.2 d hd
   exact⟨D,k1,(Array.getElem?_eq_some_iff.1 k2).1,k3⟩
  have Oe: ∀b,w.heap.size<=b-> ∀d∈a.defers,d≠{target:= .collected b,args:= #[]}:=fun b hb d hd e=>by
   obtain⟨D,k1,k2,_⟩:=zZ d hd
   rw[k1] at e
   injection e with e1 e2
   injection e1 with e1
   omega
  have q2:aB Q T F G5 W1 a s0:=q1.other (fun b hb=>hold b (q1.iR b hb)) (fun b hb=>hold b (q1.lT hb)) (fun d hd D hD=>by
   obtain⟨D',k1,k2,_⟩:=zZ d hd
   rw[k1] at hD
   injection hD with e1 e2
   injection e1 with e1
   subst e1
   exact hold _ k2) (by omega) (by rw[Ej.1];exact h.dr)
  have q3:aB Q T F G5 W1 {a with defers:={target:= .collected w.heap.size,args:= #[]}::a.defers} s0:=by
   refine⟨⟨List.nodup_cons.2 ⟨fun hd=>Oe _ (Nat.le_refl _) _ hd rfl,q2.qV.1⟩,fun d hd=> ?_⟩,q2.size,q2.tm,q2.rg,q2.own,q2.lr,q2.iR,q2.tag,q2.z,q2.dr,q2.sz⟩
   rcases List.mem_cons.1 hd with rfl |hd
   ·exact⟨_,rfl,⟨h.sz,hm⟩,hK1,fun hf=>Nat.lt_irrefl _ (h.iR _ hf),fun ho=>Nat.lt_irrefl _ (q1.lT ho)⟩
   ·exact q2.qV.2 d hd
  obtain⟨B,hB⟩: ∃B:mZ Q,B=⟨T,{a with defers:={target:= .collected w.heap.size,args:= #[]}::a.defers},w.heap.size+1,lp,Own G s.rg,F,W1⟩:=⟨_,rfl⟩
  have gU:Setup B Ti ns.length T.w0 ps assign bd:=by
   subst hB
   subst hTi
   subst Ei
   exact⟨rfl,rfl,rfl,by show(if ns.length=ns.length then yv else _)=_;rw[if_pos rfl,<-Eh],⟨rfl,rfl,rfl⟩,rfl,rfl,rfl⟩
  have DA:B.at (.normal,s0) W1 F (Own (mn Gi ns.length yv) (ins ns.length ⟨0,some ns.length,.dX⟩ R0)):=by
   subst hB
   show nK Q T {a with defers:={target:= .collected w.heap.size,args:= #[]}::a.defers} (w.heap.size+1) lp (Own G s.rg) F W1 (.normal,s0) W1 F _
   refine⟨by subst Ei;exact hL1,F,G5,q3,⟨fun hf=>(by have:=h.iR _ hf;omega),fun ho=>(by have:=q1.lT ho;omega),fun d hd e=> ?_⟩,fun _ h=>h,fun b hb=> ?_,⟨fun _ h=>h,fun _ h=> .inl h,fun b hb=> .inl ?_,fun _ _ _=>rfl,Nat.le_refl _,rfl,rfl,rfl⟩⟩
   ·rcases List.mem_cons.1 hd with rfl |hd
    ·injection e with e1 e2
     injection e1 with e1
     omega
    ·exact Oe _ (by omega) d hd e
   ·have Bp:Own Gi R0 b:=by
     rcases Bj.kU b hb with h' |h'
     ·exact h'
     ·have:=Sl.lT hb
      omega
    obtain⟨n,e,h1,h2,h3⟩:=b3 b Bp
    have bk:b<w.heap.size:=h.lT ⟨n,e,h2,h3⟩
    refine⟨h.lr n e b h2 h3,fun ho=> ?_,(by show b≠w.heap.size+1;omega),.inl ⟨n,e,h2,h3⟩,fun d hd e'=> ?_⟩
    ·obtain⟨m,e',k1,k2,k3⟩:=uv h (Xg _ ho)
     exact k1 (h.own m n e' e b k2 h2 k3 h3▸h1)
    ·rcases List.mem_cons.1 hd with rfl |hd
     ·injection e' with e1 e2
      injection e1 with e1
      omega
     ·obtain⟨D,k1,k2,k3⟩:=zZ d hd
      rw[k1] at e'
      injection e' with e1 e2
      injection e1 with e1
      subst e1
      exact k3 ⟨n,e,h2,h3⟩
   ·obtain⟨m,e,_,k2,k3⟩:=uv h (Xg _ hb)
    exact⟨m,e,k2,k3⟩
  have hTW:=gk (B:=B) (Ti:=Ti) fG (by rw[gU.w0i];exact hX) hdr (gU.w0i.trans gU.w0b.symm) gU.Nb gU.yv gU.lp (asg:=asg) (body:=body) (base:=base) (keep:=keep) (fun val lo s post hp=>by rw[gU.w0b,gU.asg];exact nT val lo s post hp) (fun val lo s post hp=>by rw[gU.w0b,gU.body];exact cB val lo s post hp)
   (hk:=hk f ns.length) (dc:=dc f) c (jP KL f fn c eJ hc) (fun d hd h' hh x post hp=>hl f fn c eJ hc d hd ns.length h' hh B Ti gU x post hp) _ _ (by rw[gU.ps];exact hp)
  refine hTW F _ W1 _ _ xa DA fun e s1 c1 a1 w1 sO ⟨F',G',k1,k2⟩=> ?_
  have GQ:a1.defers=[]:=by
   cases Oz:a1.defers with
   |nil=>rfl
   |cons d ds=>
    obtain⟨_,_,h0,_⟩:=k1.qV.2 d (by rw[Oz];simp)
    rw[gU.Nb] at h0
    cases h0.2
  have fin:post c1->LeavesInM Fence.wide 0 Q fn a1.tmps (rangePost (wd none) 0 Q (w.heap.size+1) Q' {a with defers:=[{target:= .collected w.heap.size,args:= #[]}]++a.defers}) a1.defers .returning w1:=fun eB=>by
   rw[GQ]
   obtain⟨us,u1,_⟩:=ra k1 (fn:=fn) (ps:=[]) (by rw[D8];rfl)
   refine⟨_,u1,?_⟩
   subst hB
   have k2:nK Q T {a with defers:={target:= .collected w.heap.size,args:= #[]}::a.defers} (w.heap.size+1) lp (Own G s.rg) F W1 c1 w1 F' (Own G' s1.rg):=k2
   obtain⟨l1,F2,G2,m1,m2,m3,m4,m5⟩:=k2
   refine⟨_,_,run_endLoop l1 (by simp only[IK];split<;>simp),?_⟩
   have qhi:w.heap.size+1<w1.heap.size:=(Array.getElem?_eq_some_iff.1 l1).1
   have final:Q' c1.1.fe {a with defers:=[{target:= .collected w.heap.size,args:= #[]}]++a.defers} (w1.putObj (w.heap.size+1) (.loop {IK lp c1.1 with state:= .exhausted})):=by
    refine hK c1.1 c1.2 _ _ eB ⟨F2,G2,m1.BW m2 _,m5.j7,fun b hb=> ?_,fun b hb=> ?_,fun b hb b9=> ?_,?_,m5.os.trans Ej.2.1,m5.tape.trans Ej.2.2.1,m5.output.trans Ej.2.2.2⟩
    ·rcases m5.lS b hb with h' |h' |h'
     ·exact .inl h'
     ·exact .inr (.inl h')
     ·simp at h'
      exact .inr (.inr (by omega))
    ·rcases m5.kU b hb with h' |h'
     ·exact .inl h'
     ·simp at h'
      exact .inr (by omega)
    ·have h':=m5.keep b (by simp;omega) b9
     rw[eH _ _ _ (by omega),eH _ _ _ (by omega)] at h'
     rw[eH _ _ _ (by omega),h']
     exact hold b hb
    ·simp
     omega
   obtain⟨c1x,c1s⟩:=c1
   cases c1x with
   |normal=>exact final
   |exit id=>exact wpIn_exit final
   |ret=>exact wpIn_ret final
  cases e with
  |normal=>exact fin sO
  |ret=>exact fin sO
  |exit id=>exact sO.elim
 |_=>exact hp.elim
def TX (m:S×(PX×S)->K (PX×S×(PX×S))) (keep:Option (List Nat×List Nat)) (y:S×(PX×S)):K (PX×S×(PX×S)):=
 K.bind (m y) fun x=>match x.1 with
  | .normal=>K.bind (K.dH (cq keep x.2.1)) fun s2=>K.ret (.normal,s2,x.2.2)
  |_=>K.bind (K.dH (dt keep x.2.1)) fun s2=>K.ret (x.1,s2,x.2.2)
def GR (n:Nat) (I:Nat->S×(PX×S)->Prop) (O:PX×S×(PX×S)->Prop) (x:PX×S×(PX×S)):Prop:=match x.1 with | .normal=> ∃m,m<n/\I m x.2 |_=>O x
def dR (keep:Option (List Nat×List Nat)) (g:S×(PX×S)->K (PX×S×(PX×S))):S×(PX×S)->K (PX×S×(PX×S)):=fun y post=>match cq keep y.1 with |some s0=>g (s0,y.2) post |none=>False
end
end Pi
