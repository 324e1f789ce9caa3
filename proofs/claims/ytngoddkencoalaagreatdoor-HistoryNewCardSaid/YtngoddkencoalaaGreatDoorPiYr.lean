/- The text PiYr. -/
import Derived.Test.YtngoddkencoalaaGreatDoorPiY
import Derived.RangeFuncOwn
namespace Pi
open Go
theorem yf(w:World)(o:Go.Obj){k:Nat}(h:k<w.heap.size):(w.alloc o).heap[k]?=w.heap[k]?:=by
 show(w.heap.push o)[k]?=w.heap[k]?;rw[Array.getElem?_push];split
 ·omega
 rfl
def kh(R:List (Nat×En)):List Nat->List (Nat×En)
 | []=>R
 |n::ns=>kh (match lk R n with |some e=>ins n ⟨e.aY,e.tag,.gone⟩ R |none=>R) ns
section
variable{Q:Program}{T:Tg}{F:Nat->Prop}{G:Nat->Value}{w:World}{a:Act}{s:S}
theorem nQ: ∀(ns:List Nat) (s:S),aD Q T F G w a s->aD Q T F G w a {s with rg:=kh s.rg ns}/\
  ∀m e,lk (kh s.rg ns) m=some e->e.obj.live=true->m∉ns/\lk s.rg m=some e
 | [],s,h=>⟨h,λm e he _=>⟨by simp,he⟩⟩
 |n::ns,s,h=>by
  cases hn:lk s.rg n with
  |none=>
   obtain⟨h1,h2⟩:=nQ ns s h;unfold kh;simp only[hn];refine⟨h1,λm e he hl=> ?_⟩;obtain⟨k1,k2⟩:=h2 m e he hl;refine⟨λhm=> ?_,k2⟩;rcases zav.1 hm with rfl |hm
   ·rw[hn] at k2;cases k2
   exact k1 hm
  |some e0=>
   obtain⟨g1,_⟩:=h.ni (n:=n) (e1:=⟨e0.aY,e0.tag,.gone⟩) (g1:=G n) (w':=w) (λe he=>by rw[hn] at he;cases he;exact .inr ⟨rfl,λhl=>(by cases hl)⟩) (λ_ _ _=>rfl) (zaj _) rfl rfl rfl (λb hb=>by cases hb) trivial (λi _ hl=>by cases hl);rw[bW] at g1;obtain⟨h1,h2⟩:=nQ ns _ g1;unfold kh;simp only[hn];refine⟨h1,λm e he hl=> ?_⟩;obtain⟨k1,k2⟩:=h2 m e he hl;by_cases hm:n=m
   ·subst hm;simp only[bC] at k2;cases k2;cases hl
   simp only at k2;rw[bU _ _ hm] at k2;exact⟨λh=>(zav.1 h).elim (λe=>hm e.symm) k1,k2⟩
theorem vf{ns:List Nat}(h:aD Q T F G w a s){b:Nat}(hb:Own G (kh s.rg ns) b): ∃m e,m∉ns/\lk s.rg m=some e/\bH (G m) e.obj=some b:=by
 obtain⟨m,e,he,ho⟩:=hb;have hl:e.obj.live=true:=by
  cases qh3:e.obj with
  |gone=>rw[qh3] at ho;cases ho
  |_=>rfl
 obtain⟨k1,k2⟩:=(nQ ns s h).2 m e he hl;exact⟨m,e,k1,k2,ho⟩
structure Setup(B:nN Q)(Ti:Tg)(yt:Nat)(w0:World)(ps:Array Tmp)(assign body:Code):Prop where
 w0i:Ti.w0=w0
 w0b:B.T.w0=w0
 O9:Ti.O9=false
 yv:Ti.val yt= .func (.yield B.l) #[] #[]
 lp:B.lp.state= .ready/\B.lp.pending=none/\B.lp.tmps=B.a.tmps
 ps:B.lp.params=ps
 asg:B.lp.assign=assign
 body:B.lp.body=body
def Iw(Q:Program)(kf:KF)(ps:List Nat)(base:Nat)(keep:Option (List Nat×List Nat))(asg body:S->(PX×S->Prop)->Prop)(hk:FuncId->Nat->List (Nat×(S×(PX×S)->K (PX×S×(PX×S)))))(dc:FuncId->Nat->Nat)(g:Operand)(s:S):K (PX×S):=
 match s.ev g with
 | .fn f cI=>
        match Q.funcs[f]? with
  |some fn=>match fn.body with
   |some c=>
        if fn.name== "runtime.NumGoroutine" || !fn.results.toList.isEmpty then K.fail else
    let ns:=reach s.rg 1000 cI []
    if dW ns then(match sub s.rg (toPos s.rg ns) true 0 ns with
     |some R0=>(match cw keep {s with rg:=kh s.rg ns} with
      |none=>K.fail
      |some s0=>λae=>eF Q kf ns.length (ke ps base keep asg body) (hk f ns.length) (dc f) c (⟨fn.ntmps,fB 0 (.mp ns.length 0::mD (toPos s.rg ns) cI),ins ns.length ⟨0,some ns.length,.ew⟩ R0⟩,(.normal,s0))
       (λy=>match y.1 with
        | .exit _=>False
        |_=>ae y.2.2))
     |none=>K.fail)
    else K.fail
   |none=>K.fail
  |none=>K.fail
 |_=>K.fail
variable{kp:pZ}
theorem TW.rangeFunc{kf:KF}(hQ:z8 kf (ff Q kp))(hX:du Q T.w0 kp.X)(hdr:Q.follows .mixedOrders=true)(hm:T.O9=true){dc:FuncId->Nat->Nat}(ME:nz dc 0 Q.funcs.toList=true){ps:Array Tmp}{assign bd:Code}
  {base:Nat} {keep:Option (List Nat×List Nat)} {asg body:S->(PX×S->Prop)->Prop} (oE: ∀val lo s ae,asg s ae->TW Q ⟨val,T.w0,lo,false⟩ assign s ae) (cG: ∀val lo s ae,body s ae->TW Q ⟨val,T.w0,lo,false⟩ bd s ae)
  {hk:FuncId->Nat->List (Nat×(S×(PX×S)->K (PX×S×(PX×S))))}
  (hl: ∀f fn c,Q.funcs[f]?=some fn->fn.body=some c-> ∀d∈aS c,∀yt h,lk (hk f yt) (Code.r5 d)=some h-> ∀(B:nN Q) (Ti:Tg),Setup B Ti yt T.w0 ps assign bd-> ∀x ae,h x ae->qd B Ti (.loop d) x.2 x.1 ae)
  {g:Operand} {ae:PX×S->Prop} (hp:Iw Q kf ps.toList base keep asg body hk dc g s ae):TW Q T (.rangeFunc g ps assign bd) s ae:=by
 intro r tF F G w a Q' h hK;obtain rfl:=tF hm;have hv:=w8 h g;unfold Iw at hp;generalize s.ev g=gp at hp hv;cases gp with
 |fn f cI=>
  simp only at hp;have hv:aF F w G s.rg (a.eval g) (.fn f cI):=hv;cases fW:Q.funcs[f]? with
  |none=>simp only[fW] at hp;exact hp.elim
  |some fn=>
  cases hc:fn.body with
  |none=>simp only[fW,hc] at hp;exact hp.elim
  |some c=>
  cases Fa:(fn.name== "runtime.NumGoroutine" || !fn.results.toList.isEmpty) with
  |true=>simp only[fW,hc,Fa,zbb] at hp;exact hp.elim
  |false=>
  simp only[fW,hc,Fa,zaB,zbj] at hp;simp only[Bool.or_eq_false_iff,zcS] at Fa;obtain⟨jm,Fk⟩:=Fa;have Fk:fn.results.toList=[]:=by simpa using Fk
  generalize EG:reach s.rg 1000 cI []=ns at hp;cases ky:dW ns with
  |false=>simp only[ky,zaB,zbj] at hp;exact hp.elim
  |true=>
  cases jN:sub s.rg (toPos s.rg ns) true 0 ns with
  |none=>simp only[ky,zbb,jN] at hp;exact hp.elim
  |some R0=>
  simp only[ky,zbb,jN] at hp;cases hhd:cw keep {s with rg:=kh s.rg ns} with
  |none=>simp only[hhd] at hp;exact hp.elim
  |some s0=>
  simp only[hhd] at hp;generalize hval:a.eval g=gv at hv;cases hv with
  |fn _ cs _ G7 jI=>
  generalize Fv:(Value.func (.yield (w.heap.size+1)) #[] #[])=yv;have im:yv.oneCell'=true:=by subst Fv;rfl
  refine wpIn_rangeFunc λfn0 _=> ?_;obtain⟨lp,Fw⟩: ∃lp:Loop,lp={state:= .ready,pending:=none,fn:=fn0,tmps:=a.tmps,params:=ps,assign,body:=bd,defers:=w.heap.size}:=⟨_,rfl⟩
  obtain⟨W1,hW1⟩: ∃W1,(w.alloc (.deferred (some []))).alloc (.loop lp)=W1:=⟨_,rfl⟩
  have hL1:W1.heap[w.heap.size+1]?=some (.loop lp):=by rw[<-hW1];have:=World.alloc_heap_new (w.alloc (.deferred (some []))) (.loop lp);rwa [World.size_alloc] at this
  have hK1:W1.heap[w.heap.size]?=some (.deferred (some [])):=by rw[<-hW1];exact(yf _ _ (by simp)).trans (World.alloc_heap_new w _)
  have qjj:W1.heap.size=w.heap.size+2:=by rw[<-hW1];simp
  have hold: ∀b,b<w.heap.size->W1.heap[b]?=w.heap[b]?:=λb hb=>by rw[<-hW1];exact(yf _ _ (by simp;omega)).trans (yf _ _ hb)
  have Fx:W1.drawn=w.drawn/\W1.os=w.os/\W1.tape=w.tape/\W1.output=w.output:=by rw[<-hW1];exact⟨rfl,rfl,rfl,rfl⟩
  have qb0:(callFunc f (#[yv]++⟨cs⟩)).run Q W1= .ok (.enter f (#[yv]++⟨cs⟩)) W1:=by simp[callFunc,fW,hc];simpa using jm
  refine⟨w.heap.size+1,[{target:= .collected w.heap.size,args:= #[]}],W1,{target:= .fn (.func f) ⟨cs⟩,args:= #[yv]},W1,f, #[yv]++⟨cs⟩,W1,?_,?_,λ_ _=>trivial,?_,λhd=>(by cases hd),xA (kX fW hc ?_)⟩
  ·rw[<-hW1,Fw];exact run_enterLoop_outer _ _ _ _ _
  ·simp only[resolve,hval,Fv];simp[go_sem,<-Fv]
  ·simp only[invoke];simpa [go_sem] using qb0
  have pc: ∀{T':Tg} {G':Nat->Value} {a':Act} {s':S},T'.w0=T.w0->a'.defers=[]->aD Q T' F G' w a' s'->aD Q T' F G' W1 a' s':=λhw hd h'=>h'.other (λb hb=>hold b (h'.ji b hb)) (λb hb=>hold b (h'.mI hb)) (λd QA=>by rw[hd] at QA;cases QA) (by omega) (by rw[hw,Fx.1];exact h.dr);obtain⟨b1,b2,b3⟩:=h.heap.sub jN ky;simp only[zbb] at b1;obtain⟨Gi,hGi⟩: ∃Gi:Nat->Value,Gi=λi=>G (ns.getD i 0):=⟨_,rfl⟩
  rw[<-hGi] at b1 b2 b3;have Ch:=λj e' (hj:lk R0 j=some e')=>H5 s.rg (toPos s.rg ns) true ns 0 R0 jN j e' hj;have hyk:lk R0 ns.length=none:=by
   cases hx:lk R0 ns.length with
   |none=>rfl
   |some e=>obtain⟨n,e0,_,h2,_⟩:=Ch _ _ hx;simp at h2
  obtain⟨Ti,hTi⟩: ∃Ti:Tg,Ti=⟨λi=>if i=ns.length then yv else Gi i,T.w0,0,false⟩:=⟨_,rfl⟩
  have oN:fE Q Ti F Gi w R0:=by
   subst hTi;refine⟨.nil,za6 _,λt p hp=>by simp[lk] at hp,b1.rg,b1.own,b1.my,b1.ji,λn e i he hi hlv=> ?_,b1.z,b1.dr,za6 _⟩;have ht:=b1.tag n e i he hi hlv;obtain⟨n',e0,_,h2,_,_,rfl⟩:=Ch _ _ he;simp only[zbb,zal] at hi;subst hi;have:n<ns.length:=by have:=(zad.1 h2).1;omega
   show Gi n=if n=ns.length then yv else Gi n
   rw[zam (by omega)]
  obtain⟨Ol,Ck⟩:=(pc (by rw[hTi]) rfl oN).ni (n:=ns.length) (e1:=⟨0,some ns.length,.ew⟩) (g1:=yv) (w':=W1) (λe he=>by
   have he:lk R0 ns.length=some e:=he;rw[hyk] at he;cases he) (λ_ _ _=>rfl) (zaj _) rfl rfl rfl (λb hb=>by cases hb) trivial (λi hi _=>by
    cases hi;rw[hTi];show yv=if ns.length=ns.length then yv else _
    simp)
  have ES:(#[yv]++⟨cs⟩:Array Value)=⟨yv::cs⟩:=by apply zbs.1;simp
  rw[ES];have cP: ∀(i:Nat) (v:Value) (p:P),(yv::cs)[i]?=some v->(P.mp ns.length 0::mD (toPos s.rg ns) cI)[i]?=some p->aF F W1 (ni Gi ns.length yv) (ins ns.length ⟨0,some ns.length,.ew⟩ R0) v p:=λi v p h1 h2=>by
   cases i with
   |zero=>simp only[List.getElem?_cons_zero,zal] at h1 h2;subst h1;subst h2;exact .mp _ _ _ im ⟨_,bC _ _ _,zaj _,λ_ _=>(bb _ _ _).symm⟩
   |succ i=>simp only[zcv] at h1 h2;rw[jj,zaw] at h2;obtain⟨q,hq,rfl⟩:=h2;exact aF.mono (λ_ h=>h) (λb hb=>hold b (h.ji b hb)) (gG λe he=>by rw[hyk] at he;cases he) (nF b2 (jI i v q h1 hq))
  have hlen:(yv::cs).length=(P.mp ns.length 0::mD (toPos s.rg ns) cI).length:=by simp[jk,G7]
  have x7:aD Q Ti F (ni Gi ns.length yv) W1 {tmps:=(⟨yv::cs⟩:Array Value)++Array.replicate (fn.ntmps-(⟨yv::cs⟩:Array Value).size) undef,defers:=[]} ⟨fn.ntmps,fB 0 (.mp ns.length 0::mD (toPos s.rg ns) cI),ins ns.length ⟨0,some ns.length,.ew⟩ R0⟩:=by
   refine fE.state (R:=ins ns.length ⟨0,some ns.length,.ew⟩ R0) Ol rfl .nil (by simp;omega) (λt p hp=> ?_);obtain⟨_,h2⟩:=nK _ 0 t p hp;simp only[Nat.sub_zero] at h2;have bI:t<(yv::cs).length:=by have:=(zad.1 h2).1;omega
   have e:((⟨yv::cs⟩:Array Value)++Array.replicate (fn.ntmps-(⟨yv::cs⟩:Array Value).size) undef).getD t undef=(yv::cs)[t]:=by rw[fD];simp only[Array.toList_append];rw[zaM bI,zae bI];rfl
   rw[e];exact cx.of (cP t _ p (zae bI) h2)
  obtain⟨q0,_⟩:=nQ ns s h;obtain⟨G5,q1,v5⟩:=fG q0 hhd;have qaN: ∀b,Own G5 s0.rg b->Own G (kh s.rg ns) b:=λb hb=>by
   rcases v5.lH b hb with h' |h'
   ·exact h'
   have:=q1.mI hb;omega
  have A4: ∀d∈a.defers,∃D,d={target:= .collected D,args:= #[]}/\D<w.heap.size/\ ¬Own G s.rg D:=λd hd=>by obtain⟨D,k1,_,k2,_,k3⟩:=h.rp.2 d hd;exact⟨D,k1,(zar.1 k2).1,k3⟩
  have Fa: ∀b,w.heap.size<=b-> ∀d∈a.defers,d≠{target:= .collected b,args:= #[]}:=λb hb d hd e=>by
   obtain⟨D,k1,k2,_⟩:=A4 d hd;rw[k1] at e;injection e with e1 e2
   injection e1 with e1
   omega
  have q2:aD Q T F G5 W1 a s0:=q1.other (λb hb=>hold b (q1.ji b hb)) (λb hb=>hold b (q1.mI hb)) (λd hd D hD=>by
   obtain⟨D',k1,k2,_⟩:=A4 d hd;rw[k1] at hD;injection hD with e1 e2
   injection e1 with e1
   subst e1;exact hold _ k2) (by omega) (by rw[Fx.1];exact h.dr)
  have q3:aD Q T F G5 W1 {a with defers:={target:= .collected w.heap.size,args:= #[]}::a.defers} s0:=by
   refine⟨⟨za8.2 ⟨λhd=>Fa _ (zaj _) _ hd rfl,q2.rp.1⟩,λd hd=> ?_⟩,q2.size,q2.tm,q2.rg,q2.own,q2.my,q2.ji,q2.tag,q2.z,q2.dr,q2.sz⟩;rcases zav.1 hd with rfl |hd
   ·exact⟨_,rfl,⟨h.sz,hm⟩,hK1,λhf=>Nat.lt_irrefl _ (h.ji _ hf),λho=>Nat.lt_irrefl _ (q1.mI ho)⟩
   exact q2.rp.2 d hd
  obtain⟨B,hB⟩: ∃B:nN Q,B=⟨T,{a with defers:={target:= .collected w.heap.size,args:= #[]}::a.defers},w.heap.size+1,lp,Own G s.rg,F,W1⟩:=⟨_,rfl⟩
  have jM:Setup B Ti ns.length T.w0 ps assign bd:=by subst hB;subst hTi;subst Fw;exact⟨rfl,rfl,rfl,by show(if ns.length=ns.length then yv else _)=_;rw[zao rfl,<-Fv],⟨rfl,rfl,rfl⟩,rfl,rfl,rfl⟩
  have EE:B.at (.normal,s0) W1 F (Own (ni Gi ns.length yv) (ins ns.length ⟨0,some ns.length,.ew⟩ R0)):=by
   subst hB;show oo Q T {a with defers:={target:= .collected w.heap.size,args:= #[]}::a.defers} (w.heap.size+1) lp (Own G s.rg) F W1 (.normal,s0) W1 F _;refine⟨by subst Fw;exact hL1,F,G5,q3,⟨λhf=>(by have:=h.ji _ hf;omega),λho=>(by have:=q1.mI ho;omega),λd hd e=> ?_⟩,λ_ h=>h,λb hb=> ?_,⟨λ_ h=>h,λ_ h=> .inl h,λb hb=> .inl ?_,λ_ _ _=>rfl,zaj _,rfl,rfl,rfl⟩⟩
   ·rcases zav.1 hd with rfl |hd
    ·injection e with e1 e2
     injection e1 with e1
     omega
    exact Fa _ (by omega) d hd e
   ·have Co:Own Gi R0 b:=by
     rcases Ck.lH b hb with h' |h'
     ·exact h'
     have:=Ol.mI hb;omega
    obtain⟨n,e,h1,h2,h3⟩:=b3 b Co;have bI:b<w.heap.size:=h.mI ⟨n,e,h2,h3⟩;refine⟨h.my n e b h2 h3,λho=> ?_,(by show b≠w.heap.size+1;omega),.inl ⟨n,e,h2,h3⟩,λd hd e'=> ?_⟩
    ·obtain⟨m,e',k1,k2,k3⟩:=vf h (qaN _ ho);exact k1 (h.own m n e' e b k2 h2 k3 h3▸h1)
    rcases zav.1 hd with rfl |hd
    ·injection e' with e1 e2
     injection e1 with e1
     omega
    obtain⟨D,k1,k2,k3⟩:=A4 d hd;rw[k1] at e';injection e' with e1 e2
    injection e1 with e1
    subst e1;exact k3 ⟨n,e,h2,h3⟩
   obtain⟨m,e,_,k2,k3⟩:=vf h (qaN _ hb);exact⟨m,e,k2,k3⟩
  have hTW:=gJ (B:=B) (Ti:=Ti) hQ (by rw[jM.w0i];exact hX) hdr (jM.w0i.trans jM.w0b.symm) jM.O9 jM.yv jM.lp (asg:=asg) (body:=body) (base:=base) (keep:=keep) (λval lo s ae hp=>by rw[jM.w0b,jM.asg];exact oE val lo s ae hp) (λval lo s ae hp=>by rw[jM.w0b,jM.body];exact cG val lo s ae hp)
   (hk:=hk f ns.length) (dc:=dc f) c (kA ME f fn c fW hc) (λd hd h' hh x ae hp=>hl f fn c fW hc d hd ns.length h' hh B Ti jM x ae hp) _ _ (by rw[jM.ps];exact hp)
  refine hTW F _ W1 _ _ x7 EE λe s1 c1 a1 w1 wE ⟨F',G',k1,k2⟩=> ?_;have Ix:a1.defers=[]:=by
   cases QA:a1.defers with
   |nil=>rfl
   |cons d ds=>obtain⟨_,_,h0,_⟩:=k1.rp.2 d (by rw[QA];simp);rw[jM.O9] at h0;cases h0.2
  have fin:ae c1->LeavesInM Fence.wide 0 Q fn a1.tmps (rangePost (wd none) 0 Q (w.heap.size+1) Q' {a with defers:=[{target:= .collected w.heap.size,args:= #[]}]++a.defers}) a1.defers .returning w1:=λeW=>by
   rw[Ix];obtain⟨us,u1,_⟩:=rF k1 (fn:=fn) (ps:=[]) (by rw[Fk];rfl);refine⟨_,u1,?_⟩;subst hB;have k2:oo Q T {a with defers:={target:= .collected w.heap.size,args:= #[]}::a.defers} (w.heap.size+1) lp (Own G s.rg) F W1 c1 w1 F' (Own G' s1.rg):=k2;obtain⟨l1,F2,G2,m1,m2,m3,m4,m5⟩:=k2;refine⟨_,_,run_endLoop l1 (by simp only[KG];split<;>simp),?_⟩;have qjk:w.heap.size+1<w1.heap.size:=(zar.1 l1).1;have final:Q' c1.1.fq {a with defers:=[{target:= .collected w.heap.size,args:= #[]}]++a.defers} (w1.putObj (w.heap.size+1) (.loop {KG lp c1.1 with state:= .exhausted})):=by
    refine hK c1.1 c1.2 _ _ eW ⟨F2,G2,m1.CX m2 _,m5.kN,λb hb=> ?_,λb hb=> ?_,λb hb b7=> ?_,?_,m5.os.trans Fx.2.1,m5.tape.trans Fx.2.2.1,m5.output.trans Fx.2.2.2⟩
    ·rcases m5.mH b hb with h' |h' |h'
     ·exact .inl h'
     ·exact .inr (.inl h')
     simp at h';exact .inr (.inr (by omega))
    ·rcases m5.lH b hb with h' |h'
     ·exact .inl h'
     simp at h';exact .inr (by omega)
    ·have h':=m5.keep b (by simp;omega) b7;rw[eS _ _ _ (by omega),eS _ _ _ (by omega)] at h';rw[eS _ _ _ (by omega),h'];exact hold b hb
    simp;omega
   obtain⟨c1x,c1s⟩:=c1;cases c1x with
   |normal=>exact final
   |exit id=>exact wpIn_exit final
   |ret=>exact wpIn_ret final
  cases e with
  |normal=>exact fin wE
  |ret=>exact fin wE
  |exit id=>exact wE.elim
 |_=>exact hp.elim
def WJ(m:S×(PX×S)->K (PX×S×(PX×S)))(keep:Option (List Nat×List Nat))(y:S×(PX×S)):K (PX×S×(PX×S)):=
 K.bind (m y) λx=>match x.1 with
  | .normal=>K.bind (K.dP (cw keep x.2.1)) λs2=>K.ret (.normal,s2,x.2.2)
  |_=>K.bind (K.dP (dC keep x.2.1)) λs2=>K.ret (x.1,s2,x.2.2)
def Iy(n:Nat)(I:Nat->S×(PX×S)->Prop)(O:PX×S×(PX×S)->Prop)(x:PX×S×(PX×S)):Prop:=match x.1 with | .normal=> ∃m,m<n/\I m x.2 |_=>O x
def eb(keep:Option (List Nat×List Nat))(g:S×(PX×S)->K (PX×S×(PX×S))):S×(PX×S)->K (PX×S×(PX×S)):=λy ae=>match cw keep y.1 with |some s0=>g (s0,y.2) ae |none=>False
end
end Pi
