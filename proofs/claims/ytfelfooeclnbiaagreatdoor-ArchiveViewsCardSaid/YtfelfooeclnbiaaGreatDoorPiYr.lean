/- The text PiYr. -/
import Derived.Test.YtfelfooeclnbiaaGreatDoorPiY
import Derived.RangeFuncOwn
namespace Pi
open Go
theorem yd(w:World)(o:Go.Obj){k:Nat}(h:k<w.heap.size):(w.alloc o).heap[k]?=w.heap[k]?:=by
 show(w.heap.push o)[k]?=w.heap[k]?;rw[Array.getElem?_push];split
 ·omega
 rfl
def j9(R:List (Nat×En)):List Nat->List (Nat×En)
 | []=>R
 |n::ns=>j9 (match lk R n with |some e=>ins n ⟨e.aR,e.tag,.gone⟩ R |none=>R) ns
section
variable{Q:Program}{T:Tg}{F:Nat->Prop}{G:Nat->Value}{w:World}{a:Act}{s:S}
theorem nN: ∀(ns:List Nat) (s:S),aB Q T F G w a s->aB Q T F G w a {s with rg:=j9 s.rg ns}/\
  ∀m e,lk (j9 s.rg ns) m=some e->e.obj.live=true->m∉ns/\lk s.rg m=some e
 | [],s,h=>⟨h,λm e he _=>⟨by simp,he⟩⟩
 |n::ns,s,h=>by
  cases hn:lk s.rg n with
  |none=>
   obtain⟨h1,h2⟩:=nN ns s h;unfold j9;simp only[hn];refine⟨h1,λm e he hl=> ?_⟩;obtain⟨k1,k2⟩:=h2 m e he hl;refine⟨λhm=> ?_,k2⟩;rcases zas.1 hm with rfl |hm
   ·rw[hn] at k2;cases k2
   exact k1 hm
  |some e0=>
   obtain⟨g1,_⟩:=h.mh (n:=n) (e1:=⟨e0.aR,e0.tag,.gone⟩) (g1:=G n) (w':=w) (λe he=>by rw[hn] at he;cases he;exact .inr ⟨rfl,λhl=>(by cases hl)⟩) (λ_ _ _=>rfl) (zai _) rfl rfl rfl (λb hb=>by cases hb) trivial (λi _ hl=>by cases hl);rw[bx] at g1;obtain⟨h1,h2⟩:=nN ns _ g1;unfold j9;simp only[hn];refine⟨h1,λm e he hl=> ?_⟩;obtain⟨k1,k2⟩:=h2 m e he hl;by_cases hm:n=m
   ·subst hm;simp only[bp] at k2;cases k2;cases hl
   simp only at k2;rw[bT _ _ hm] at k2;exact⟨λh=>(zas.1 h).elim (λe=>hm e.symm) k1,k2⟩
theorem vL{ns:List Nat}(h:aB Q T F G w a s){b:Nat}(hb:Own G (j9 s.rg ns) b): ∃m e,m∉ns/\lk s.rg m=some e/\bm (G m) e.obj=some b:=by
 obtain⟨m,e,he,ho⟩:=hb;have hl:e.obj.live=true:=by
  cases qhZ:e.obj with
  |gone=>rw[qhZ] at ho;cases ho
  |_=>rfl
 obtain⟨k1,k2⟩:=(nN ns s h).2 m e he hl;exact⟨m,e,k1,k2,ho⟩
structure Setup(B:nK Q)(Ti:Tg)(yt:Nat)(w0:World)(ps:Array Tmp)(assign body:Code):Prop where
 w0i:Ti.w0=w0
 w0b:B.T.w0=w0
 Ph:Ti.Ph=false
 yv:Ti.val yt= .func (.yield B.l) #[] #[]
 lp:B.lp.state= .ready/\B.lp.pending=none/\B.lp.tmps=B.a.tmps
 ps:B.lp.params=ps
 asg:B.lp.assign=assign
 body:B.lp.body=body
def IB(Q:Program)(kf:KF)(ps:List Nat)(base:Nat)(keep:Option (List Nat×List Nat))(asg body:S->(PX×S->Prop)->Prop)(hk:FuncId->Nat->List (Nat×(S×(PX×S)->K (PX×S×(PX×S)))))(dc:FuncId->Nat->Nat)(g:Operand)(s:S):K (PX×S):=
 match s.ev g with
 | .fn f cF=>
        match Q.funcs[f]? with
  |some fn=>match fn.body with
   |some c=>
        if fn.name== "runtime.NumGoroutine" || !fn.results.toList.isEmpty then K.fail else
    let ns:=reach s.rg 1000 cF []
    if dJ ns then(match sub s.rg (toPos s.rg ns) true 0 ns with
     |some R0=>(match cH keep {s with rg:=j9 s.rg ns} with
      |none=>K.fail
      |some s0=>λae=>ey Q kf ns.length (j7 ps base keep asg body) (hk f ns.length) (dc f) c (⟨fn.ntmps,fF 0 (.mp ns.length 0::mr (toPos s.rg ns) cF),ins ns.length ⟨0,some ns.length,.je⟩ R0⟩,(.normal,s0))
       (λy=>match y.1 with
        | .exit _=>False
        |_=>ae y.2.2))
     |none=>K.fail)
    else K.fail
   |none=>K.fail
  |none=>K.fail
 |_=>K.fail
variable{kp:sr}
theorem TW.rangeFunc{kf:KF}(iu:zV kf (fG Q kp))(hX:eG Q T.w0 kp.X)(hdr:Q.follows .mixedOrders=true)(hm:T.Ph=true){dc:FuncId->Nat->Nat}(MH:nv dc 0 Q.funcs.toList=true){ps:Array Tmp}{assign bd:Code}
  {base:Nat} {keep:Option (List Nat×List Nat)} {asg body:S->(PX×S->Prop)->Prop} (oM: ∀val lo s ae,asg s ae->TW Q ⟨val,T.w0,lo,false⟩ assign s ae) (cD: ∀val lo s ae,body s ae->TW Q ⟨val,T.w0,lo,false⟩ bd s ae)
  {hk:FuncId->Nat->List (Nat×(S×(PX×S)->K (PX×S×(PX×S))))}
  (hl: ∀f fn c,Q.funcs[f]?=some fn->fn.body=some c-> ∀d∈aM c,∀yt h,lk (hk f yt) (Code.rZ d)=some h-> ∀(B:nK Q) (Ti:Tg),Setup B Ti yt T.w0 ps assign bd-> ∀x ae,h x ae->qc B Ti (.loop d) x.2 x.1 ae)
  {g:Operand} {ae:PX×S->Prop} (hp:IB Q kf ps.toList base keep asg body hk dc g s ae):TW Q T (.rangeFunc g ps assign bd) s ae:=by
 intro r ve F G w a Q' h hK;obtain rfl:=ve hm;have hv:=w9 h g;unfold IB at hp;generalize s.ev g=gp at hp hv;cases gp with
 |fn f cF=>
  simp only at hp;have hv:aF F w G s.rg (a.eval g) (.fn f cF):=hv;cases gK:Q.funcs[f]? with
  |none=>simp only[gK] at hp;exact hp.elim
  |some fn=>
  cases hc:fn.body with
  |none=>simp only[gK,hc] at hp;exact hp.elim
  |some c=>
  cases zW:(fn.name== "runtime.NumGoroutine" || !fn.results.toList.isEmpty) with
  |true=>simp only[gK,hc,zW,zbg] at hp;exact hp.elim
  |false=>
  simp only[gK,hc,zW,zaC,zbq] at hp;simp only[zcN,Bool.not_eq_false'] at zW;obtain⟨kU,Fc⟩:=zW;have Fc:fn.results.toList=[]:=by simpa using Fc
  generalize ED:reach s.rg 1000 cF []=ns at hp;cases ov:dJ ns with
  |false=>simp only[ov,zaC,zbq] at hp;exact hp.elim
  |true=>
  cases jJ:sub s.rg (toPos s.rg ns) true 0 ns with
  |none=>simp only[ov,zbg,jJ] at hp;exact hp.elim
  |some R0=>
  simp only[ov,zbg,jJ] at hp;cases QB:cH keep {s with rg:=j9 s.rg ns} with
  |none=>simp only[QB] at hp;exact hp.elim
  |some s0=>
  simp only[QB] at hp;generalize hval:a.eval g=gv at hv;cases hv with
  |fn _ cs _ H9 ln=>
  generalize Fo:(Value.func (.yield (w.heap.size+1)) #[] #[])=yv;have gb:yv.oneCell'=true:=by subst Fo;rfl
  refine wpIn_rangeFunc λfn0 _=> ?_;obtain⟨lp,Fp⟩: ∃lp:Loop,lp={state:= .ready,pending:=none,fn:=fn0,tmps:=a.tmps,params:=ps,assign,body:=bd,defers:=w.heap.size}:=⟨_,rfl⟩
  obtain⟨W1,hW1⟩: ∃W1,(w.alloc (.deferred (some []))).alloc (.loop lp)=W1:=⟨_,rfl⟩
  have hL1:W1.heap[w.heap.size+1]?=some (.loop lp):=by rw[<-hW1];have:=World.alloc_heap_new (w.alloc (.deferred (some []))) (.loop lp);rwa [World.size_alloc] at this
  have hK1:W1.heap[w.heap.size]?=some (.deferred (some [])):=by rw[<-hW1];exact(yd _ _ (by simp)).trans (World.alloc_heap_new w _)
  have qiX:W1.heap.size=w.heap.size+2:=by rw[<-hW1];simp
  have hold: ∀b,b<w.heap.size->W1.heap[b]?=w.heap[b]?:=λb hb=>by rw[<-hW1];exact(yd _ _ (by simp;omega)).trans (yd _ _ hb)
  have Fq:W1.drawn=w.drawn/\W1.os=w.os/\W1.tape=w.tape/\W1.output=w.output:=by rw[<-hW1];exact⟨rfl,rfl,rfl,rfl⟩
  have qcc:(callFunc f (#[yv]++⟨cs⟩)).run Q W1= .ok (.enter f (#[yv]++⟨cs⟩)) W1:=by simp[callFunc,gK,hc];simpa using kU
  refine⟨w.heap.size+1,[{target:= .collected w.heap.size,args:= #[]}],W1,{target:= .fn (.func f) ⟨cs⟩,args:= #[yv]},W1,f, #[yv]++⟨cs⟩,W1,?_,?_,λ_ _=>trivial,?_,λhd=>(by cases hd),xA (kV gK hc ?_)⟩
  ·rw[<-hW1,Fp];exact run_enterLoop_outer _ _ _ _ _
  ·simp only[resolve,hval,Fo];simp[go_sem,<-Fo]
  ·simp only[invoke];simpa [go_sem] using qcc
  have pn: ∀{T':Tg} {G':Nat->Value} {a':Act} {s':S},T'.w0=T.w0->a'.defers=[]->aB Q T' F G' w a' s'->aB Q T' F G' W1 a' s':=λhw hd h'=>h'.other (λb hb=>hold b (h'.ja b hb)) (λb hb=>hold b (h'.mA hb)) (λd QC=>by rw[hd] at QC;cases QC) (by omega) (by rw[hw,Fq.1];exact h.dr);obtain⟨b1,b2,b3⟩:=h.heap.sub jJ ov;simp only[zbg] at b1;obtain⟨Gi,hGi⟩: ∃Gi:Nat->Value,Gi=λi=>G (ns.getD i 0):=⟨_,rfl⟩
  rw[<-hGi] at b1 b2 b3;have ri:=λj e' (hj:lk R0 j=some e')=>Ie s.rg (toPos s.rg ns) true ns 0 R0 jJ j e' hj;have hyk:lk R0 ns.length=none:=by
   cases hx:lk R0 ns.length with
   |none=>rfl
   |some e=>obtain⟨n,e0,_,h2,_⟩:=ri _ _ hx;simp at h2
  obtain⟨Ti,hTi⟩: ∃Ti:Tg,Ti=⟨λi=>if i=ns.length then yv else Gi i,T.w0,0,false⟩:=⟨_,rfl⟩
  have lx:eZ Q Ti F Gi w R0:=by
   subst hTi;refine⟨.nil,za7 _,λt p hp=>by simp[lk] at hp,b1.rg,b1.own,b1.mg,b1.ja,λn e i he hi Wm=> ?_,b1.z,b1.dr,za7 _⟩;have ht:=b1.tag n e i he hi Wm;obtain⟨n',e0,_,h2,_,_,rfl⟩:=ri _ _ he;simp only[zbg,zak] at hi;subst hi;have:n<ns.length:=by have:=(zae.1 h2).1;omega
   show Gi n=if n=ns.length then yv else Gi n
   rw[zap (by omega)]
  obtain⟨MC,Cd⟩:=(pn (by rw[hTi]) rfl lx).mh (n:=ns.length) (e1:=⟨0,some ns.length,.je⟩) (g1:=yv) (w':=W1) (λe he=>by
   have he:lk R0 ns.length=some e:=he;rw[hyk] at he;cases he) (λ_ _ _=>rfl) (zai _) rfl rfl rfl (λb hb=>by cases hb) trivial (λi hi _=>by
    cases hi;rw[hTi];show yv=if ns.length=ns.length then yv else _
    simp)
  have EL:(#[yv]++⟨cs⟩:Array Value)=⟨yv::cs⟩:=by apply zbx.1;simp
  rw[EL];have cN: ∀(i:Nat) (v:Value) (p:P),(yv::cs)[i]?=some v->(P.mp ns.length 0::mr (toPos s.rg ns) cF)[i]?=some p->aF F W1 (mh Gi ns.length yv) (ins ns.length ⟨0,some ns.length,.je⟩ R0) v p:=λi v p h1 h2=>by
   cases i with
   |zero=>simp only[List.getElem?_cons_zero,zak] at h1 h2;subst h1;subst h2;exact .mp _ _ _ gb ⟨_,bp _ _ _,zai _,λ_ _=>(aV _ _ _).symm⟩
   |succ i=>simp only[zcy] at h1 h2;rw[jj,zav] at h2;obtain⟨q,hq,rfl⟩:=h2;exact aF.mono (λ_ h=>h) (λb hb=>hold b (h.ja b hb)) (fI λe he=>by rw[hyk] at he;cases he) (nD b2 (ln i v q h1 hq))
  have hlen:(yv::cs).length=(P.mp ns.length 0::mr (toPos s.rg ns) cF).length:=by simp[jk,H9]
  have x7:aB Q Ti F (mh Gi ns.length yv) W1 {tmps:=(⟨yv::cs⟩:Array Value)++Array.replicate (fn.ntmps-(⟨yv::cs⟩:Array Value).size) undef,defers:=[]} ⟨fn.ntmps,fF 0 (.mp ns.length 0::mr (toPos s.rg ns) cF),ins ns.length ⟨0,some ns.length,.je⟩ R0⟩:=by
   refine eZ.state (R:=ins ns.length ⟨0,some ns.length,.je⟩ R0) MC rfl .nil (by simp;omega) (λt p hp=> ?_);obtain⟨_,h2⟩:=nI _ 0 t p hp;simp only[Nat.sub_zero] at h2;have bz:t<(yv::cs).length:=by have:=(zae.1 h2).1;omega
   have e:((⟨yv::cs⟩:Array Value)++Array.replicate (fn.ntmps-(⟨yv::cs⟩:Array Value).size) undef).getD t undef=(yv::cs)[t]:=by rw[fJ];simp only[Array.toList_append];rw[zaQ bz,zac bz];rfl
   rw[e];exact cy.of (cN t _ p (zac bz) h2)
  obtain⟨q0,_⟩:=nN ns s h;obtain⟨G5,q1,v5⟩:=fL q0 QB;have qa2: ∀b,Own G5 s0.rg b->Own G (j9 s.rg ns) b:=λb hb=>by
   rcases v5.lv b hb with h' |h'
   ·exact h'
   have:=q1.mA hb;omega
  have A1: ∀d∈a.defers,∃D,d={target:= .collected D,args:= #[]}/\D<w.heap.size/\ ¬Own G s.rg D:=λd hd=>by obtain⟨D,k1,_,k2,_,k3⟩:=h.r0.2 d hd;exact⟨D,k1,(zau.1 k2).1,k3⟩
  have zW: ∀b,w.heap.size<=b-> ∀d∈a.defers,d≠{target:= .collected b,args:= #[]}:=λb hb d hd e=>by
   obtain⟨D,k1,k2,_⟩:=A1 d hd;rw[k1] at e;injection e with e1 e2
   injection e1 with e1
   omega
  have q2:aB Q T F G5 W1 a s0:=q1.other (λb hb=>hold b (q1.ja b hb)) (λb hb=>hold b (q1.mA hb)) (λd hd D hD=>by
   obtain⟨D',k1,k2,_⟩:=A1 d hd;rw[k1] at hD;injection hD with e1 e2
   injection e1 with e1
   subst e1;exact hold _ k2) (by omega) (by rw[Fq.1];exact h.dr)
  have q3:aB Q T F G5 W1 {a with defers:={target:= .collected w.heap.size,args:= #[]}::a.defers} s0:=by
   refine⟨⟨za8.2 ⟨λhd=>zW _ (zai _) _ hd rfl,q2.r0.1⟩,λd hd=> ?_⟩,q2.size,q2.tm,q2.rg,q2.own,q2.mg,q2.ja,q2.tag,q2.z,q2.dr,q2.sz⟩;rcases zas.1 hd with rfl |hd
   ·exact⟨_,rfl,⟨h.sz,hm⟩,hK1,λhf=>Nat.lt_irrefl _ (h.ja _ hf),λho=>Nat.lt_irrefl _ (q1.mA ho)⟩
   exact q2.r0.2 d hd
  obtain⟨B,hB⟩: ∃B:nK Q,B=⟨T,{a with defers:={target:= .collected w.heap.size,args:= #[]}::a.defers},w.heap.size+1,lp,Own G s.rg,F,W1⟩:=⟨_,rfl⟩
  have nC:Setup B Ti ns.length T.w0 ps assign bd:=by subst hB;subst hTi;subst Fp;exact⟨rfl,rfl,rfl,by show(if ns.length=ns.length then yv else _)=_;rw[zaq rfl,<-Fo],⟨rfl,rfl,rfl⟩,rfl,rfl,rfl⟩
  have AK:B.at (.normal,s0) W1 F (Own (mh Gi ns.length yv) (ins ns.length ⟨0,some ns.length,.je⟩ R0)):=by
   subst hB;show oz Q T {a with defers:={target:= .collected w.heap.size,args:= #[]}::a.defers} (w.heap.size+1) lp (Own G s.rg) F W1 (.normal,s0) W1 F _;refine⟨by subst Fp;exact hL1,F,G5,q3,⟨λhf=>(by have:=h.ja _ hf;omega),λho=>(by have:=q1.mA ho;omega),λd hd e=> ?_⟩,λ_ h=>h,λb hb=> ?_,⟨λ_ h=>h,λ_ h=> .inl h,λb hb=> .inl ?_,λ_ _ _=>rfl,zai _,rfl,rfl,rfl⟩⟩
   ·rcases zas.1 hd with rfl |hd
    ·injection e with e1 e2
     injection e1 with e1
     omega
    exact zW _ (by omega) d hd e
   ·have wC:Own Gi R0 b:=by
     rcases Cd.lv b hb with h' |h'
     ·exact h'
     have:=MC.mA hb;omega
    obtain⟨n,e,h1,h2,h3⟩:=b3 b wC;have bz:b<w.heap.size:=h.mA ⟨n,e,h2,h3⟩;refine⟨h.mg n e b h2 h3,λho=> ?_,(by show b≠w.heap.size+1;omega),.inl ⟨n,e,h2,h3⟩,λd hd e'=> ?_⟩
    ·obtain⟨m,e',k1,k2,k3⟩:=vL h (qa2 _ ho);exact k1 (h.own m n e' e b k2 h2 k3 h3▸h1)
    rcases zas.1 hd with rfl |hd
    ·injection e' with e1 e2
     injection e1 with e1
     omega
    obtain⟨D,k1,k2,k3⟩:=A1 d hd;rw[k1] at e';injection e' with e1 e2
    injection e1 with e1
    subst e1;exact k3 ⟨n,e,h2,h3⟩
   obtain⟨m,e,_,k2,k3⟩:=vL h (qa2 _ hb);exact⟨m,e,k2,k3⟩
  have hTW:=gN (B:=B) (Ti:=Ti) iu (by rw[nC.w0i];exact hX) hdr (nC.w0i.trans nC.w0b.symm) nC.Ph nC.yv nC.lp (asg:=asg) (body:=body) (base:=base) (keep:=keep) (λval lo s ae hp=>by rw[nC.w0b,nC.asg];exact oM val lo s ae hp) (λval lo s ae hp=>by rw[nC.w0b,nC.body];exact cD val lo s ae hp)
   (hk:=hk f ns.length) (dc:=dc f) c (kx MH f fn c gK hc) (λd hd h' hh x ae hp=>hl f fn c gK hc d hd ns.length h' hh B Ti nC x ae hp) _ _ (by rw[nC.ps];exact hp)
  refine hTW F _ W1 _ _ x7 AK λe s1 c1 a1 w1 uu ⟨F',G',k1,k2⟩=> ?_;have KE:a1.defers=[]:=by
   cases QC:a1.defers with
   |nil=>rfl
   |cons d ds=>obtain⟨_,_,h0,_⟩:=k1.r0.2 d (by rw[QC];simp);rw[nC.Ph] at h0;cases h0.2
  have fin:ae c1->LeavesInM Fence.wide 0 Q fn a1.tmps (rangePost (wd none) 0 Q (w.heap.size+1) Q' {a with defers:=[{target:= .collected w.heap.size,args:= #[]}]++a.defers}) a1.defers .returning w1:=λdA=>by
   rw[KE];obtain⟨us,u1,_⟩:=rv k1 (fn:=fn) (ps:=[]) (by rw[Fc];rfl);refine⟨_,u1,?_⟩;subst hB;have k2:oz Q T {a with defers:={target:= .collected w.heap.size,args:= #[]}::a.defers} (w.heap.size+1) lp (Own G s.rg) F W1 c1 w1 F' (Own G' s1.rg):=k2;obtain⟨l1,F2,G2,m1,m2,m3,m4,m5⟩:=k2;refine⟨_,_,run_endLoop l1 (by simp only[KD];split<;>simp),?_⟩;have qiY:w.heap.size+1<w1.heap.size:=(zau.1 l1).1;have final:Q' c1.1.fo {a with defers:=[{target:= .collected w.heap.size,args:= #[]}]++a.defers} (w1.putObj (w.heap.size+1) (.loop {KD lp c1.1 with state:= .exhausted})):=by
    refine hK c1.1 c1.2 _ _ dA ⟨F2,G2,m1.CT m2 _,m5.kK,λb hb=> ?_,λb hb=> ?_,λb hb bk=> ?_,?_,m5.os.trans Fq.2.1,m5.tape.trans Fq.2.2.1,m5.output.trans Fq.2.2.2⟩
    ·rcases m5.mz b hb with h' |h' |h'
     ·exact .inl h'
     ·exact .inr (.inl h')
     simp at h';exact .inr (.inr (by omega))
    ·rcases m5.lv b hb with h' |h'
     ·exact .inl h'
     simp at h';exact .inr (by omega)
    ·have h':=m5.keep b (by simp;omega) bk;rw[eO _ _ _ (by omega),eO _ _ _ (by omega)] at h';rw[eO _ _ _ (by omega),h'];exact hold b hb
    simp;omega
   obtain⟨c1x,c1s⟩:=c1;cases c1x with
   |normal=>exact final
   |exit id=>exact wpIn_exit final
   |ret=>exact wpIn_ret final
  cases e with
  |normal=>exact fin uu
  |ret=>exact fin uu
  |exit id=>exact uu.elim
 |_=>exact hp.elim
def WQ(m:S×(PX×S)->K (PX×S×(PX×S)))(keep:Option (List Nat×List Nat))(y:S×(PX×S)):K (PX×S×(PX×S)):=
 K.bind (m y) λx=>match x.1 with
  | .normal=>K.bind (K.dR (cH keep x.2.1)) λs2=>K.ret (.normal,s2,x.2.2)
  |_=>K.bind (K.dR (eE keep x.2.1)) λs2=>K.ret (x.1,s2,x.2.2)
def IC(n:Nat)(I:Nat->S×(PX×S)->Prop)(O:PX×S×(PX×S)->Prop)(x:PX×S×(PX×S)):Prop:=match x.1 with | .normal=> ∃m,m<n/\I m x.2 |_=>O x
def Bh(keep:Option (List Nat×List Nat))(g:S×(PX×S)->K (PX×S×(PX×S))):S×(PX×S)->K (PX×S×(PX×S)):=λy ae=>match cH keep y.1 with |some s0=>g (s0,y.2) ae |none=>False
end
end Pi
