/- The text PiYr. -/
import Derived.Test.YtngoddkencoalaaGreatDoorPiY
import Derived.RangeFuncOwn
namespace Pi
open Go
theorem zL(w:World)(o:Go.Obj){k:Nat}(h:k<w.heap.size):(w.alloc o).heap[k]?=w.heap[k]?:=by
 show(w.heap.push o)[k]?=w.heap[k]?;rw[Array.getElem?_push];split
 ·omega
 rfl
def kL(R:List (Nat×En)):List Nat->List (Nat×En)
 | []=>R
 |n::ns=>kL (match lk R n with |some e=>ins n ⟨e.aV,e.tag,.gone⟩ R |none=>R) ns
section
variable{Q:Program}{T:Tg}{F:Nat->Prop}{G:Nat->Value}{w:World}{a:Act}{s:S}
theorem oU: ∀(ns:List Nat) (s:S),aG Q T F G w a s->aG Q T F G w a {s with rg:=kL s.rg ns}/\
  ∀m e,lk (kL s.rg ns) m=some e->e.obj.live=true->m∉ns/\lk s.rg m=some e
 | [],s,h=>⟨h,λm e he _=>⟨by simp,he⟩⟩
 |n::ns,s,h=>by
  cases hn:lk s.rg n with
  |none=>
   obtain⟨h1,h2⟩:=oU ns s h;unfold kL;simp only[hn];refine⟨h1,λm e he hl=> ?_⟩;obtain⟨k1,k2⟩:=h2 m e he hl;refine⟨λhm=> ?_,k2⟩;rcases zav.1 hm with rfl |hm
   ·rw[hn] at k2;cases k2
   exact k1 hm
  |some e0=>
   obtain⟨g1,_⟩:=h.oe (n:=n) (e1:=⟨e0.aV,e0.tag,.gone⟩) (g1:=G n) (w':=w) (λe he=>by rw[hn] at he;cases he;exact .inr ⟨rfl,λhl=>(by cases hl)⟩) (λ_ _ _=>rfl) (zak _) rfl rfl rfl (λb hb=>by cases hb) trivial (λi _ hl=>by cases hl);rw[ca] at g1;obtain⟨h1,h2⟩:=oU ns _ g1;unfold kL;simp only[hn];refine⟨h1,λm e he hl=> ?_⟩;obtain⟨k1,k2⟩:=h2 m e he hl;by_cases hm:n=m
   ·subst hm;simp only[bC] at k2;cases k2;cases hl
   simp only at k2;rw[b8 _ _ hm] at k2;exact⟨λh=>(zav.1 h).elim (λe=>hm e.symm) k1,k2⟩
theorem wR{ns:List Nat}(h:aG Q T F G w a s){b:Nat}(hb:Own G (kL s.rg ns) b): ∃m e,m∉ns/\lk s.rg m=some e/\bF (G m) e.obj=some b:=by
 obtain⟨m,e,he,ho⟩:=hb;have hl:e.obj.live=true:=by
  cases qk9:e.obj with
  |gone=>rw[qk9] at ho;cases ho
  |_=>rfl
 obtain⟨k1,k2⟩:=(oU ns s h).2 m e he hl;exact⟨m,e,k1,k2,ho⟩
structure Setup(B:oR Q)(Ti:Tg)(yt:Nat)(w0:World)(ps:Array Tmp)(assign body:Code):Prop where
 w0i:Ti.w0=w0
 w0b:B.T.w0=w0
 RN:Ti.RN=false
 yv:Ti.val yt= .func (.yield B.l) #[] #[]
 lp:B.lp.state= .ready/\B.lp.pending=none/\B.lp.tmps=B.a.tmps
 ps:B.lp.params=ps
 asg:B.lp.assign=assign
 body:B.lp.body=body
def KG(Q:Program)(kf:KF)(ps:List Nat)(base:Nat)(keep:Option (List Nat×List Nat))(asg body:S->(PX×S->Prop)->Prop)(hk:FuncId->Nat->List (Nat×(S×(PX×S)->K (PX×S×(PX×S)))))(dc:FuncId->Nat->Nat)(g:Operand)(s:S):K (PX×S):=
 match s.ev g with
 | .fn f cQ=>
        match Q.funcs[f]? with
  |some fn=>match fn.body with
   |some c=>
        if fn.name== "runtime.NumGoroutine" || !fn.results.toList.isEmpty then K.fail else
    let ns:=reach s.rg 1000 cQ []
    if dZ ns then(match sub s.rg (toPos s.rg ns) true 0 ns with
     |some R0=>(match cz keep {s with rg:=kL s.rg ns} with
      |none=>K.fail
      |some s0=>λae=>eJ Q kf ns.length (kJ ps base keep asg body) (hk f ns.length) (dc f) c (⟨fn.ntmps,fI 0 (.mp ns.length 0::ny (toPos s.rg ns) cQ),ins ns.length ⟨0,some ns.length,.ey⟩ R0⟩,(.normal,s0))
       (λy=>match y.1 with
        | .exit _=>False
        |_=>ae y.2.2))
     |none=>K.fail)
    else K.fail
   |none=>K.fail
  |none=>K.fail
 |_=>K.fail
variable{kp:qV}
theorem TW.rangeFunc{kf:KF}(ic:BN kf (fJ Q kp))(hX:dw Q T.w0 kp.X)(hdr:Q.follows .mixedOrders=true)(hm:T.RN=true){dc:FuncId->Nat->Nat}(O7:oC dc 0 Q.funcs.toList=true){ps:Array Tmp}{assign bd:Code}
  {base:Nat} {keep:Option (List Nat×List Nat)} {asg body:S->(PX×S->Prop)->Prop} (pJ: ∀val lo s ae,asg s ae->TW Q ⟨val,T.w0,lo,false⟩ assign s ae) (cN: ∀val lo s ae,body s ae->TW Q ⟨val,T.w0,lo,false⟩ bd s ae)
  {hk:FuncId->Nat->List (Nat×(S×(PX×S)->K (PX×S×(PX×S))))}
  (hl: ∀f fn c,Q.funcs[f]?=some fn->fn.body=some c-> ∀d∈aN c,∀yt h,lk (hk f yt) (Code.s9 d)=some h-> ∀(B:oR Q) (Ti:Tg),Setup B Ti yt T.w0 ps assign bd-> ∀x ae,h x ae->q7 B Ti (.loop d) x.2 x.1 ae)
  {g:Operand} {ae:PX×S->Prop} (hp:KG Q kf ps.toList base keep asg body hk dc g s ae):TW Q T (.rangeFunc g ps assign bd) s ae:=by
 intro r tc F G w a Q' h hK;obtain rfl:=tc hm;have hv:=yA h g;unfold KG at hp;generalize s.ev g=gp at hp hv;cases gp with
 |fn f cQ=>
  simp only at hp;have hv:aH F w G s.rg (a.eval g) (.fn f cQ):=hv;cases gg:Q.funcs[f]? with
  |none=>simp only[gg] at hp;exact hp.elim
  |some fn=>
  cases hc:fn.body with
  |none=>simp only[gg,hc] at hp;exact hp.elim
  |some c=>
  cases Hm:(fn.name== "runtime.NumGoroutine" || !fn.results.toList.isEmpty) with
  |true=>simp only[gg,hc,Hm,zbr] at hp;exact hp.elim
  |false=>
  simp only[gg,hc,Hm,zaK,zbt] at hp;simp only[Bool.or_eq_false_iff,zc5] at Hm;obtain⟨lG,Ht⟩:=Hm;have Ht:fn.results.toList=[]:=by simpa using Ht
  generalize GL:reach s.rg 1000 cQ []=ns at hp;cases kY:dZ ns with
  |false=>simp only[kY,zaK,zbt] at hp;exact hp.elim
  |true=>
  cases gV:sub s.rg (toPos s.rg ns) true 0 ns with
  |none=>simp only[kY,zbr,gV] at hp;exact hp.elim
  |some R0=>
  simp only[kY,zbr,gV] at hp;cases hhd:cz keep {s with rg:=kL s.rg ns} with
  |none=>simp only[hhd] at hp;exact hp.elim
  |some s0=>
  simp only[hhd] at hp;generalize hval:a.eval g=gv at hv;cases hv with
  |fn _ cs _ GQ l7=>
  generalize HF:(Value.func (.yield (w.heap.size+1)) #[] #[])=yv;have iF:yv.oneCell'=true:=by subst HF;rfl
  refine wpIn_rangeFunc λfn0 _=> ?_;obtain⟨lp,HG⟩: ∃lp:Loop,lp={state:= .ready,pending:=none,fn:=fn0,tmps:=a.tmps,params:=ps,assign,body:=bd,defers:=w.heap.size}:=⟨_,rfl⟩
  obtain⟨W1,hW1⟩: ∃W1,(w.alloc (.deferred (some []))).alloc (.loop lp)=W1:=⟨_,rfl⟩
  have hL1:W1.heap[w.heap.size+1]?=some (.loop lp):=by rw[<-hW1];have:=World.alloc_heap_new (w.alloc (.deferred (some []))) (.loop lp);rwa [World.size_alloc] at this
  have hK1:W1.heap[w.heap.size]?=some (.deferred (some [])):=by rw[<-hW1];exact(zL _ _ (by simp)).trans (World.alloc_heap_new w _)
  have qmv:W1.heap.size=w.heap.size+2:=by rw[<-hW1];simp
  have hold: ∀b,b<w.heap.size->W1.heap[b]?=w.heap[b]?:=λb hb=>by rw[<-hW1];exact(zL _ _ (by simp;omega)).trans (zL _ _ hb)
  have HI:W1.drawn=w.drawn/\W1.os=w.os/\W1.tape=w.tape/\W1.output=w.output:=by rw[<-hW1];exact⟨rfl,rfl,rfl,rfl⟩
  have qeH:(callFunc f (#[yv]++⟨cs⟩)).run Q W1= .ok (.enter f (#[yv]++⟨cs⟩)) W1:=by simp[callFunc,gg,hc];simpa using lG
  refine⟨w.heap.size+1,[{target:= .collected w.heap.size,args:= #[]}],W1,{target:= .fn (.func f) ⟨cs⟩,args:= #[yv]},W1,f, #[yv]++⟨cs⟩,W1,?_,?_,λ_ _=>trivial,?_,λhd=>(by cases hd),y5 (lH gg hc ?_)⟩
  ·rw[<-hW1,HG];exact run_enterLoop_outer _ _ _ _ _
  ·simp only[resolve,hval,HF];simp[go_sem,<-HF]
  ·simp only[invoke];simpa [go_sem] using qeH
  have qm: ∀{T':Tg} {G':Nat->Value} {a':Act} {s':S},T'.w0=T.w0->a'.defers=[]->aG Q T' F G' w a' s'->aG Q T' F G' W1 a' s':=λhw hd h'=>h'.other (λb hb=>hold b (h'.jE b hb)) (λb hb=>hold b (h'.nD hb)) (λd Ta=>by rw[hd] at Ta;cases Ta) (by omega) (by rw[hw,HI.1];exact h.dr);obtain⟨b1,b2,b3⟩:=h.heap.sub gV kY;simp only[zbr] at b1;obtain⟨Gi,hGi⟩: ∃Gi:Nat->Value,Gi=λi=>G (ns.getD i 0):=⟨_,rfl⟩
  rw[<-hGi] at b1 b2 b3;have DW:=λj e' (hj:lk R0 j=some e')=>Ki s.rg (toPos s.rg ns) true ns 0 R0 gV j e' hj;have hyk:lk R0 ns.length=none:=by
   cases hx:lk R0 ns.length with
   |none=>rfl
   |some e=>obtain⟨n,e0,_,h2,_⟩:=DW _ _ hx;simp at h2
  obtain⟨Ti,hTi⟩: ∃Ti:Tg,Ti=⟨λi=>if i=ns.length then yv else Gi i,T.w0,0,false⟩:=⟨_,rfl⟩
  have pT:fM Q Ti F Gi w R0:=by
   subst hTi;refine⟨.nil,za1 _,λt p hp=>by simp[lk] at hp,b1.rg,b1.own,b1.nf,b1.jE,λn e i he hi hlv=> ?_,b1.z,b1.dr,za1 _⟩;have ht:=b1.tag n e i he hi hlv;obtain⟨n',e0,_,h2,_,_,rfl⟩:=DW _ _ he;simp only[zbr,zam] at hi;subst hi;have:n<ns.length:=by have:=(zaf.1 h2).1;omega
   show Gi n=if n=ns.length then yv else Gi n
   rw[zan (by omega)]
  obtain⟨QN,DZ⟩:=(qm (by rw[hTi]) rfl pT).oe (n:=ns.length) (e1:=⟨0,some ns.length,.ey⟩) (g1:=yv) (w':=W1) (λe he=>by
   have he:lk R0 ns.length=some e:=he;rw[hyk] at he;cases he) (λ_ _ _=>rfl) (zak _) rfl rfl rfl (λb hb=>by cases hb) trivial (λi hi _=>by
    cases hi;rw[hTi];show yv=if ns.length=ns.length then yv else _
    simp)
  have GX:(#[yv]++⟨cs⟩:Array Value)=⟨yv::cs⟩:=by apply zby.1;simp
  rw[GX];have cW: ∀(i:Nat) (v:Value) (p:P),(yv::cs)[i]?=some v->(P.mp ns.length 0::ny (toPos s.rg ns) cQ)[i]?=some p->aH F W1 (oe Gi ns.length yv) (ins ns.length ⟨0,some ns.length,.ey⟩ R0) v p:=λi v p h1 h2=>by
   cases i with
   |zero=>simp only[zdt,zam] at h1 h2;subst h1;subst h2;exact .mp _ _ _ iF ⟨_,bC _ _ _,zak _,λ_ _=>(a7 _ _ _).symm⟩
   |succ i=>simp only[zcf] at h1 h2;rw[jF,zax] at h2;obtain⟨q,hq,rfl⟩:=h2;exact aH.mono (λ_ h=>h) (λb hb=>hold b (h.jE b hb)) (gN λe he=>by rw[hyk] at he;cases he) (oJ b2 (l7 i v q h1 hq))
  have hlen:(yv::cs).length=(P.mp ns.length 0::ny (toPos s.rg ns) cQ).length:=by simp[jG,GQ]
  have zz:aG Q Ti F (oe Gi ns.length yv) W1 {tmps:=(⟨yv::cs⟩:Array Value)++Array.replicate (fn.ntmps-(⟨yv::cs⟩:Array Value).size) undef,defers:=[]} ⟨fn.ntmps,fI 0 (.mp ns.length 0::ny (toPos s.rg ns) cQ),ins ns.length ⟨0,some ns.length,.ey⟩ R0⟩:=by
   refine fM.state (R:=ins ns.length ⟨0,some ns.length,.ey⟩ R0) QN rfl .nil (by simp;omega) (λt p hp=> ?_);obtain⟨_,h2⟩:=oO _ 0 t p hp;simp only[Nat.sub_zero] at h2;have bJ:t<(yv::cs).length:=by have:=(zaf.1 h2).1;omega
   have e:((⟨yv::cs⟩:Array Value)++Array.replicate (fn.ntmps-(⟨yv::cs⟩:Array Value).size) undef).getD t undef=(yv::cs)[t]:=by rw[fL];simp only[Array.toList_append];rw[zaR bJ,zac bJ];rfl
   rw[e];exact cA.of (cW t _ p (zac bJ) h2)
  obtain⟨q0,_⟩:=oU ns s h;obtain⟨G5,q1,v5⟩:=fO q0 hhd;have qdi: ∀b,Own G5 s0.rg b->Own G (kL s.rg ns) b:=λb hb=>by
   rcases v5.mc b hb with h' |h'
   ·exact h'
   have:=q1.nD hb;omega
  have CI: ∀d∈a.defers,∃D,d={target:= .collected D,args:= #[]}/\D<w.heap.size/\ ¬Own G s.rg D:=λd hd=>by obtain⟨D,k1,_,k2,_,k3⟩:=h.sg.2 d hd;exact⟨D,k1,(zaz.1 k2).1,k3⟩
  have Hm: ∀b,w.heap.size<=b-> ∀d∈a.defers,d≠{target:= .collected b,args:= #[]}:=λb hb d hd e=>by
   obtain⟨D,k1,k2,_⟩:=CI d hd;rw[k1] at e;injection e with e1 e2
   injection e1 with e1
   omega
  have q2:aG Q T F G5 W1 a s0:=q1.other (λb hb=>hold b (q1.jE b hb)) (λb hb=>hold b (q1.nD hb)) (λd hd D hD=>by
   obtain⟨D',k1,k2,_⟩:=CI d hd;rw[k1] at hD;injection hD with e1 e2
   injection e1 with e1
   subst e1;exact hold _ k2) (by omega) (by rw[HI.1];exact h.dr)
  have q3:aG Q T F G5 W1 {a with defers:={target:= .collected w.heap.size,args:= #[]}::a.defers} s0:=by
   refine⟨⟨zbd.2 ⟨λhd=>Hm _ (zak _) _ hd rfl,q2.sg.1⟩,λd hd=> ?_⟩,q2.size,q2.tm,q2.rg,q2.own,q2.nf,q2.jE,q2.tag,q2.z,q2.dr,q2.sz⟩;rcases zav.1 hd with rfl |hd
   ·exact⟨_,rfl,⟨h.sz,hm⟩,hK1,λhf=>Nat.lt_irrefl _ (h.jE _ hf),λho=>Nat.lt_irrefl _ (q1.nD ho)⟩
   exact q2.sg.2 d hd
  obtain⟨B,hB⟩: ∃B:oR Q,B=⟨T,{a with defers:={target:= .collected w.heap.size,args:= #[]}::a.defers},w.heap.size+1,lp,Own G s.rg,F,W1⟩:=⟨_,rfl⟩
  have j8:Setup B Ti ns.length T.w0 ps assign bd:=by subst hB;subst hTi;subst HG;exact⟨rfl,rfl,rfl,by show(if ns.length=ns.length then yv else _)=_;rw[zap rfl,<-HF],⟨rfl,rfl,rfl⟩,rfl,rfl,rfl⟩
  have GJ:B.at (.normal,s0) W1 F (Own (oe Gi ns.length yv) (ins ns.length ⟨0,some ns.length,.ey⟩ R0)):=by
   subst hB;show pr Q T {a with defers:={target:= .collected w.heap.size,args:= #[]}::a.defers} (w.heap.size+1) lp (Own G s.rg) F W1 (.normal,s0) W1 F _;refine⟨by subst HG;exact hL1,F,G5,q3,⟨λhf=>(by have:=h.jE _ hf;omega),λho=>(by have:=q1.nD ho;omega),λd hd e=> ?_⟩,λ_ h=>h,λb hb=> ?_,⟨λ_ h=>h,λ_ h=> .inl h,λb hb=> .inl ?_,λ_ _ _=>rfl,zak _,rfl,rfl,rfl⟩⟩
   ·rcases zav.1 hd with rfl |hd
    ·injection e with e1 e2
     injection e1 with e1
     omega
    exact Hm _ (by omega) d hd e
   ·have D3:Own Gi R0 b:=by
     rcases DZ.mc b hb with h' |h'
     ·exact h'
     have:=QN.nD hb;omega
    obtain⟨n,e,h1,h2,h3⟩:=b3 b D3;have bJ:b<w.heap.size:=h.nD ⟨n,e,h2,h3⟩;refine⟨h.nf n e b h2 h3,λho=> ?_,(by show b≠w.heap.size+1;omega),.inl ⟨n,e,h2,h3⟩,λd hd e'=> ?_⟩
    ·obtain⟨m,e',k1,k2,k3⟩:=wR h (qdi _ ho);exact k1 (h.own m n e' e b k2 h2 k3 h3▸h1)
    rcases zav.1 hd with rfl |hd
    ·injection e' with e1 e2
     injection e1 with e1
     omega
    obtain⟨D,k1,k2,k3⟩:=CI d hd;rw[k1] at e';injection e' with e1 e2
    injection e1 with e1
    subst e1;exact k3 ⟨n,e,h2,h3⟩
   obtain⟨m,e,_,k2,k3⟩:=wR h (qdi _ hb);exact⟨m,e,k2,k3⟩
  have hTW:=gP (B:=B) (Ti:=Ti) ic (by rw[j8.w0i];exact hX) hdr (j8.w0i.trans j8.w0b.symm) j8.RN j8.yv j8.lp (asg:=asg) (body:=body) (base:=base) (keep:=keep) (λval lo s ae hp=>by rw[j8.w0b,j8.asg];exact pJ val lo s ae hp) (λval lo s ae hp=>by rw[j8.w0b,j8.body];exact cN val lo s ae hp)
   (hk:=hk f ns.length) (dc:=dc f) c (k7 O7 f fn c gg hc) (λd hd h' hh x ae hp=>hl f fn c gg hc d hd ns.length h' hh B Ti j8 x ae hp) _ _ (by rw[j8.ps];exact hp)
  refine hTW F _ W1 _ _ zz GJ λe s1 c1 a1 w1 xU ⟨F',G',k1,k2⟩=> ?_;have KH:a1.defers=[]:=by
   cases Ta:a1.defers with
   |nil=>rfl
   |cons d ds=>obtain⟨_,_,h0,_⟩:=k1.sg.2 d (by rw[Ta];simp);rw[j8.RN] at h0;cases h0.2
  have fin:ae c1->LeavesInM Fence.wide 0 Q fn a1.tmps (rangePost (wd none) 0 Q (w.heap.size+1) Q' {a with defers:=[{target:= .collected w.heap.size,args:= #[]}]++a.defers}) a1.defers .returning w1:=λfa=>by
   rw[KH];obtain⟨us,u1,_⟩:=sE k1 (fn:=fn) (ps:=[]) (by rw[Ht];rfl);refine⟨_,u1,?_⟩;subst hB;have k2:pr Q T {a with defers:={target:= .collected w.heap.size,args:= #[]}::a.defers} (w.heap.size+1) lp (Own G s.rg) F W1 c1 w1 F' (Own G' s1.rg):=k2;obtain⟨l1,F2,G2,m1,m2,m3,m4,m5⟩:=k2;refine⟨_,_,run_endLoop l1 (by simp only[MQ];split<;>simp),?_⟩;have qmw:w.heap.size+1<w1.heap.size:=(zaz.1 l1).1;have final:Q' c1.1.fC {a with defers:=[{target:= .collected w.heap.size,args:= #[]}]++a.defers} (w1.putObj (w.heap.size+1) (.loop {MQ lp c1.1 with state:= .exhausted})):=by
    refine hK c1.1 c1.2 _ _ fa ⟨F2,G2,m1.EC m2 _,m5.lx,λb hb=> ?_,λb hb=> ?_,λb hb bS=> ?_,?_,m5.os.trans HI.2.1,m5.tape.trans HI.2.2.1,m5.output.trans HI.2.2.2⟩
    ·rcases m5.nC b hb with h' |h' |h'
     ·exact .inl h'
     ·exact .inr (.inl h')
     simp at h';exact .inr (.inr (by omega))
    ·rcases m5.mc b hb with h' |h'
     ·exact .inl h'
     simp at h';exact .inr (by omega)
    ·have h':=m5.keep b (by simp;omega) bS;rw[eW _ _ _ (by omega),eW _ _ _ (by omega)] at h';rw[eW _ _ _ (by omega),h'];exact hold b hb
    simp;omega
   obtain⟨c1x,c1s⟩:=c1;cases c1x with
   |normal=>exact final
   |exit id=>exact wpIn_exit final
   |ret=>exact wpIn_ret final
  cases e with
  |normal=>exact fin xU
  |ret=>exact fin xU
  |exit id=>exact xU.elim
 |_=>exact hp.elim
def qaw(m:S×(PX×S)->K (PX×S×(PX×S)))(keep:Option (List Nat×List Nat))(y:S×(PX×S)):K (PX×S×(PX×S)):=
 K.bind (m y) λx=>match x.1 with
  | .normal=>K.bind (K.dR (cz keep x.2.1)) λs2=>K.ret (.normal,s2,x.2.2)
  |_=>K.bind (K.dR (dG keep x.2.1)) λs2=>K.ret (x.1,s2,x.2.2)
def KI(n:Nat)(I:Nat->S×(PX×S)->Prop)(O:PX×S×(PX×S)->Prop)(x:PX×S×(PX×S)):Prop:=match x.1 with | .normal=> ∃m,m<n/\I m x.2 |_=>O x
def ep(keep:Option (List Nat×List Nat))(g:S×(PX×S)->K (PX×S×(PX×S))):S×(PX×S)->K (PX×S×(PX×S)):=λy ae=>match cz keep y.1 with |some s0=>g (s0,y.2) ae |none=>False
end
end Pi
