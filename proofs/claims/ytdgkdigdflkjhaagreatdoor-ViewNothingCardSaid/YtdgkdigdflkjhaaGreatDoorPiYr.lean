/- The text PiYr. -/
import Derived.Test.YtdgkdigdflkjhaaGreatDoorPiY
import Derived.RangeFuncOwn
namespace Pi
open Go
theorem AG(w:World) o {k}(h:k<w.heap.size):(w.alloc o).heap[k]?=w.heap[k]?:=by
 show(w.heap.push o)[k]?=w.heap[k]?;rw[Array.getElem?_push];split
 ·omega
 rfl
def kT(R:List (Nat×En)):List Nat->List (Nat×En)
 | []=>R
 |n::ns=>kT (match lk R n with |some e=>ins n ⟨e.aV,e.tag,.gone⟩ R |none=>R) ns
section
variable{Q:Program}{T:Tg}{F:Nat->Prop}{G:Nat->Value}{w:World}{a:Act}{s:S}
theorem pr: ∀ns s,aC Q T F G w a s->aC Q T F G w a {s with rg:=kT s.rg ns}/\
  ∀m e,lk (kT s.rg ns) m=some e->e.obj.live=true->m∉ns/\lk s.rg m=some e
 | [],s,h=>⟨h,λm e he _=>⟨by simp,he⟩⟩
 |n::ns,s,h=>by
  cases hn:lk s.rg n with
  |none=>
   obtain⟨h1,h2⟩:=pr ns s h;unfold kT;simp only[hn];refine⟨h1,λm e he hl=> ?_⟩;obtain⟨k1,k2⟩:=h2 m e he hl;refine⟨λhm=> ?_,k2⟩;rcases zat.1 hm with rfl |hm
   ·rw[hn] at k2;cases k2
   exact k1 hm
  |some e0=>
   obtain⟨g1,_⟩:=h.od (n:=n) (e1:=⟨e0.aV,e0.tag,.gone⟩) (g1:=G n) (w':=w) (λe he=>by rw[hn] at he;cases he;exact .inr ⟨rfl,λhl=>(by cases hl)⟩) (λ_ _ _=>rfl) (zal _) rfl rfl rfl (λb hb=>by cases hb) trivial (λi _ hl=>by cases hl);rw[bV] at g1;obtain⟨h1,h2⟩:=pr ns _ g1;unfold kT;simp only[hn];refine⟨h1,λm e he hl=> ?_⟩;obtain⟨k1,k2⟩:=h2 m e he hl;by_cases hm:n=m
   ·subst hm;simp only[bE] at k2;cases k2;cases hl
   simp only at k2;rw[cc _ _ hm] at k2;exact⟨λh=>(zat.1 h).elim (λe=>hm e.symm) k1,k2⟩
theorem xu{ns}(h:aC Q T F G w a s){b}(hb:Own G (kT s.rg ns) b): ∃m e,m∉ns/\lk s.rg m=some e/\bB (G m) e.obj=some b:=by
 obtain⟨m,e,he,ho⟩:=hb;have hl:e.obj.live=true:=by
  cases qny:e.obj with
  |gone=>rw[qny] at ho;cases ho
  |_=>rfl
 obtain⟨k1,k2⟩:=(pr ns s h).2 m e he hl;exact⟨m,e,k1,k2,ho⟩
structure Setup(B:pn Q)(Ti:Tg)(yt:Nat)(w0:World)(ps:Array Tmp)(assign body:Code):Prop where
 w0i:Ti.w0=w0
 w0b:B.T.w0=w0
 TK:Ti.TK=false
 yv:Ti.val yt= .func (.yield B.l) #[] #[]
 lp:B.lp.state= .ready/\B.lp.pending=none/\B.lp.tmps=B.a.tmps
 ps:B.lp.params=ps
 asg:B.lp.assign=assign
 body:B.lp.body=body
def Md(Q:Program)(kf:KF)(ps:List Nat)(base:Nat)(keep:Option (List Nat×List Nat))(asg body:S->(PX×S->Prop)->Prop)(hk:FuncId->Nat->List (Nat×(S×(PX×S)->K (PX×S×(PX×S)))))(dc:FuncId->Nat->Nat)(g:Operand)(s:S):K (PX×S):=
 match s.ev g with
 | .fn f cW=>
        match Q.funcs[f]? with
  |some fn=>match fn.body with
   |some c=>
        if fn.name== "runtime.NumGoroutine" || !fn.results.toList.isEmpty then K.fail else
    let ns:=reach s.rg 1000 cW []
    if ez ns then(match sub s.rg (toPos s.rg ns) true 0 ns with
     |some R0=>(match cG keep {s with rg:=kT s.rg ns} with
      |none=>K.fail
      |some s0=>λae=>eQ Q kf ns.length (kR ps base keep asg body) (hk f ns.length) (dc f) c (⟨fn.ntmps,fT 0 (.mp ns.length 0::nY (toPos s.rg ns) cW),ins ns.length ⟨0,some ns.length,.eJ⟩ R0⟩,(.normal,s0))
       (λy=>match y.1 with
        | .exit _=>False
        |_=>ae y.2.2))
     |none=>K.fail)
    else K.fail
   |none=>K.fail
  |none=>K.fail
 |_=>K.fail
variable{kp:rq}
theorem TW.rangeFunc{kf}(hJ:yd kf (fj Q kp))(hX:cz Q T.w0 kp.X)(hdr:Q.follows .mixedOrders=true)(hm:T.TK=true){dc}(L8:nz dc 0 Q.funcs.toList=true){ps assign bd}
  {base keep asg body} (p9: ∀val lo s ae,asg s ae->TW Q ⟨val,T.w0,lo,false⟩ assign s ae) (cS: ∀val lo s ae,body s ae->TW Q ⟨val,T.w0,lo,false⟩ bd s ae)
  {hk}
  (hl: ∀f fn c,Q.funcs[f]?=some fn->fn.body=some c-> ∀d∈aN c,∀yt h,lk (hk f yt) (Code.s5 d)=some h-> ∀(B:pn Q) (Ti:Tg),Setup B Ti yt T.w0 ps assign bd-> ∀x ae,h x ae->rD B Ti (.loop d) x.2 x.1 ae)
  {g ae} (hp:Md Q kf ps.toList base keep asg body hk dc g s ae):TW Q T (.rangeFunc g ps assign bd) s ae:=by
 intro r sv F G w a Q' h hK;obtain rfl:=sv hm;have hv:=zx h g;unfold Md at hp;generalize s.ev g=gp at hp hv;cases gp with
 |fn f cW=>
  simp only at hp;have hv:aH F w G s.rg (a.eval g) (.fn f cW):=hv;cases gC:Q.funcs[f]? with
  |none=>simp only[gC] at hp;exact hp.elim
  |some fn=>
  cases hc:fn.body with
  |none=>simp only[gC,hc] at hp;exact hp.elim
  |some c=>
  cases yM:(fn.name== "runtime.NumGoroutine" || !fn.results.toList.isEmpty) with
  |true=>simp only[gC,hc,yM,zbo] at hp;exact hp.elim
  |false=>
  simp only[gC,hc,yM,zaE,zbn] at hp;simp only[zc1,Bool.not_eq_false'] at yM;obtain⟨lT,IP⟩:=yM;have IP:fn.results.toList=[]:=by simpa using IP
  generalize Hh:reach s.rg 1000 cW []=ns at hp;cases oO:ez ns with
  |false=>simp only[oO,zaE,zbn] at hp;exact hp.elim
  |true=>
  cases iy:sub s.rg (toPos s.rg ns) true 0 ns with
  |none=>simp only[oO,zbo,iy] at hp;exact hp.elim
  |some R0=>
  simp only[oO,zbo,iy] at hp;cases hhd:cG keep {s with rg:=kT s.rg ns} with
  |none=>simp only[hhd] at hp;exact hp.elim
  |some s0=>
  simp only[hhd] at hp;generalize hval:a.eval g=gv at hv;cases hv with
  |fn _ cs _ Hj lF=>
  generalize I1:(Value.func (.yield (w.heap.size+1)) #[] #[])=yv;have jk:yv.oneCell'=true:=by subst I1;rfl
  refine wpIn_rangeFunc λfn0 _=> ?_;obtain⟨lp,I2⟩: ∃lp:Loop,lp={state:= .ready,pending:=none,fn:=fn0,tmps:=a.tmps,params:=ps,assign,body:=bd,defers:=w.heap.size}:=⟨_,rfl⟩
  obtain⟨W1,hW1⟩: ∃W1,(w.alloc (.deferred (some []))).alloc (.loop lp)=W1:=⟨_,rfl⟩
  have hL1:W1.heap[w.heap.size+1]?=some (.loop lp):=by rw[<-hW1];have:=World.alloc_heap_new (w.alloc (.deferred (some []))) (.loop lp);rwa [World.size_alloc] at this
  have hK1:W1.heap[w.heap.size]?=some (.deferred (some [])):=by rw[<-hW1];exact(AG _ _ (by simp)).trans (World.alloc_heap_new w _)
  have qoX:W1.heap.size=w.heap.size+2:=by rw[<-hW1];simp
  have hold: ∀b,b<w.heap.size->W1.heap[b]?=w.heap[b]?:=λb hb=>by rw[<-hW1];exact(AG _ _ (by simp;omega)).trans (AG _ _ hb)
  have I3:W1.drawn=w.drawn/\W1.os=w.os/\W1.tape=w.tape/\W1.output=w.output:=by rw[<-hW1];exact⟨rfl,rfl,rfl,rfl⟩
  have qfS:(callFunc f (#[yv]++⟨cs⟩)).run Q W1= .ok (.enter f (#[yv]++⟨cs⟩)) W1:=by simp[callFunc,gC,hc];simpa using lT
  refine⟨w.heap.size+1,[{target:= .collected w.heap.size,args:= #[]}],W1,{target:= .fn (.func f) ⟨cs⟩,args:= #[yv]},W1,f, #[yv]++⟨cs⟩,W1,?_,?_,λ_ _=>trivial,?_,λhd=>(by cases hd),zZ (lU gC hc ?_)⟩
  ·rw[<-hW1,I2];exact run_enterLoop_outer _ _ _ _ _
  ·simp only[resolve,hval,I1];simp[go_sem,<-I1]
  ·simp only[invoke];simpa [go_sem] using qfS
  have qG: ∀{T':Tg} {G':Nat->Value} {a':Act} {s':S},T'.w0=T.w0->a'.defers=[]->aC Q T' F G' w a' s'->aC Q T' F G' W1 a' s':=λhw hd h'=>h'.other (λb hb=>hold b (h'.jE b hb)) (λb hb=>hold b (h'.oa hb)) (λd UX=>by rw[hd] at UX;cases UX) (by omega) (by rw[hw,I3.1];exact h.dr);obtain⟨b1,b2,b3⟩:=h.heap.sub iy oO;simp only[zbo] at b1;obtain⟨Gi,hGi⟩: ∃Gi:Nat->Value,Gi=λi=>G (ns.getD i 0):=⟨_,rfl⟩
  rw[<-hGi] at b1 b2 b3;have E8:=λj e' (hj:lk R0 j=some e')=>LM s.rg (toPos s.rg ns) true ns 0 R0 iy j e' hj;have hyk:lk R0 ns.length=none:=by
   cases hx:lk R0 ns.length with
   |none=>rfl
   |some e=>obtain⟨n,e0,_,h2,_⟩:=E8 _ _ hx;simp at h2
  obtain⟨Ti,hTi⟩: ∃Ti:Tg,Ti=⟨λi=>if i=ns.length then yv else Gi i,T.w0,0,false⟩:=⟨_,rfl⟩
  have ql:fX Q Ti F Gi w R0:=by
   subst hTi;refine⟨.nil,zbd _,λt p hp=>by simp[lk] at hp,b1.rg,b1.own,b1.nA,b1.jE,λn e i he hi hlv=> ?_,b1.z,b1.dr,zbd _⟩;have ht:=b1.tag n e i he hi hlv;obtain⟨n',e0,_,h2,_,_,rfl⟩:=E8 _ _ he;simp only[zbo,zam] at hi;subst hi;have:n<ns.length:=by have:=(zae.1 h2).1;omega
   show Gi n=if n=ns.length then yv else Gi n
   rw[zan (by omega)]
  obtain⟨Hk,Co⟩:=(qG (by rw[hTi]) rfl ql).od (n:=ns.length) (e1:=⟨0,some ns.length,.eJ⟩) (g1:=yv) (w':=W1) (λe he=>by
   have he:lk R0 ns.length=some e:=he;rw[hyk] at he;cases he) (λ_ _ _=>rfl) (zal _) rfl rfl rfl (λb hb=>by cases hb) trivial (λi hi _=>by
    cases hi;rw[hTi];show yv=if ns.length=ns.length then yv else _
    simp)
  have Ih:(#[yv]++⟨cs⟩:Array Value)=⟨yv::cs⟩:=by apply zbs.1;simp
  rw[Ih];have cx: ∀(i:Nat) (v:Value) (p:P),(yv::cs)[i]?=some v->(P.mp ns.length 0::nY (toPos s.rg ns) cW)[i]?=some p->aH F W1 (od Gi ns.length yv) (ins ns.length ⟨0,some ns.length,.eJ⟩ R0) v p:=λi v p h1 h2=>by
   cases i with
   |zero=>simp only[List.getElem?_cons_zero,zam] at h1 h2;subst h1;subst h2;exact .mp _ _ _ jk ⟨_,bE _ _ _,zal _,λ_ _=>(bc _ _ _).symm⟩
   |succ i=>simp only[zcK] at h1 h2;rw[jM,zay] at h2;obtain⟨q,hq,rfl⟩:=h2;exact aH.mono (λ_ h=>h) (λb hb=>hold b (h.jE b hb)) (ib λe he=>by rw[hyk] at he;cases he) (pb b2 (lF i v q h1 hq))
  have hlen:(yv::cs).length=(P.mp ns.length 0::nY (toPos s.rg ns) cW).length:=by simp[jN,Hj]
  have Aw:aC Q Ti F (od Gi ns.length yv) W1 {tmps:=(⟨yv::cs⟩:Array Value)++Array.replicate (fn.ntmps-(⟨yv::cs⟩:Array Value).size) undef,defers:=[]} ⟨fn.ntmps,fT 0 (.mp ns.length 0::nY (toPos s.rg ns) cW),ins ns.length ⟨0,some ns.length,.eJ⟩ R0⟩:=by
   refine fX.state (R:=ins ns.length ⟨0,some ns.length,.eJ⟩ R0) Hk rfl .nil (by simp;omega) (λt p hp=> ?_);obtain⟨_,h2⟩:=ph _ 0 t p hp;simp only[Nat.sub_zero] at h2;have bK:t<(yv::cs).length:=by have:=(zae.1 h2).1;omega
   have e:((⟨yv::cs⟩:Array Value)++Array.replicate (fn.ntmps-(⟨yv::cs⟩:Array Value).size) undef).getD t undef=(yv::cs)[t]:=by rw[fW];simp only[Array.toList_append];rw[zaT bK,zad bK];rfl
   rw[e];exact cE.of (cx t _ p (zad bK) h2)
  obtain⟨q0,_⟩:=pr ns s h;obtain⟨G5,q1,v5⟩:=fZ q0 hhd;have qdV: ∀b,Own G5 s0.rg b->Own G (kT s.rg ns) b:=λb hb=>by
   rcases v5.mH b hb with h' |h'
   ·exact h'
   have:=q1.oa hb;omega
  have BS: ∀d∈a.defers,∃D,d={target:= .collected D,args:= #[]}/\D<w.heap.size/\ ¬Own G s.rg D:=λd hd=>by obtain⟨D,k1,_,k2,_,k3⟩:=h.s7.2 d hd;exact⟨D,k1,(zax.1 k2).1,k3⟩
  have yM: ∀b,w.heap.size<=b-> ∀d∈a.defers,d≠{target:= .collected b,args:= #[]}:=λb hb d hd e=>by
   obtain⟨D,k1,k2,_⟩:=BS d hd;rw[k1] at e;injection e with e1 e2
   injection e1 with e1
   omega
  have q2:aC Q T F G5 W1 a s0:=q1.other (λb hb=>hold b (q1.jE b hb)) (λb hb=>hold b (q1.oa hb)) (λd hd D hD=>by
   obtain⟨D',k1,k2,_⟩:=BS d hd;rw[k1] at hD;injection hD with e1 e2
   injection e1 with e1
   subst e1;exact hold _ k2) (by omega) (by rw[I3.1];exact h.dr)
  have q3:aC Q T F G5 W1 {a with defers:={target:= .collected w.heap.size,args:= #[]}::a.defers} s0:=by
   refine⟨⟨za9.2 ⟨λhd=>yM _ (zal _) _ hd rfl,q2.s7.1⟩,λd hd=> ?_⟩,q2.size,q2.tm,q2.rg,q2.own,q2.nA,q2.jE,q2.tag,q2.z,q2.dr,q2.sz⟩;rcases zat.1 hd with rfl |hd
   ·exact⟨_,rfl,⟨h.sz,hm⟩,hK1,λhf=>Nat.lt_irrefl _ (h.jE _ hf),λho=>Nat.lt_irrefl _ (q1.oa ho)⟩
   exact q2.s7.2 d hd
  obtain⟨B,hB⟩: ∃B:pn Q,B=⟨T,{a with defers:={target:= .collected w.heap.size,args:= #[]}::a.defers},w.heap.size+1,lp,Own G s.rg,F,W1⟩:=⟨_,rfl⟩
  have nF:Setup B Ti ns.length T.w0 ps assign bd:=by subst hB;subst hTi;subst I2;exact⟨rfl,rfl,rfl,by show(if ns.length=ns.length then yv else _)=_;rw[zap rfl,<-I1],⟨rfl,rfl,rfl⟩,rfl,rfl,rfl⟩
  have H4:B.at (.normal,s0) W1 F (Own (od Gi ns.length yv) (ins ns.length ⟨0,some ns.length,.eJ⟩ R0)):=by
   subst hB;show pS Q T {a with defers:={target:= .collected w.heap.size,args:= #[]}::a.defers} (w.heap.size+1) lp (Own G s.rg) F W1 (.normal,s0) W1 F _;refine⟨by subst I2;exact hL1,F,G5,q3,⟨λhf=>(by have:=h.jE _ hf;omega),λho=>(by have:=q1.oa ho;omega),λd hd e=> ?_⟩,λ_ h=>h,λb hb=> ?_,⟨λ_ h=>h,λ_ h=> .inl h,λb hb=> .inl ?_,λ_ _ _=>rfl,zal _,rfl,rfl,rfl⟩⟩
   ·rcases zat.1 hd with rfl |hd
    ·injection e with e1 e2
     injection e1 with e1
     omega
    exact yM _ (by omega) d hd e
   ·have Cr:Own Gi R0 b:=by
     rcases Co.mH b hb with h' |h'
     ·exact h'
     have:=Hk.oa hb;omega
    obtain⟨n,e,h1,h2,h3⟩:=b3 b Cr;have bK:b<w.heap.size:=h.oa ⟨n,e,h2,h3⟩;refine⟨h.nA n e b h2 h3,λho=> ?_,(by show b≠w.heap.size+1;omega),.inl ⟨n,e,h2,h3⟩,λd hd e'=> ?_⟩
    ·obtain⟨m,e',k1,k2,k3⟩:=xu h (qdV _ ho);exact k1 (h.own m n e' e b k2 h2 k3 h3▸h1)
    rcases zat.1 hd with rfl |hd
    ·injection e' with e1 e2
     injection e1 with e1
     omega
    obtain⟨D,k1,k2,k3⟩:=BS d hd;rw[k1] at e';injection e' with e1 e2
    injection e1 with e1
    subst e1;exact k3 ⟨n,e,h2,h3⟩
   obtain⟨m,e,_,k2,k3⟩:=xu h (qdV _ hb);exact⟨m,e,k2,k3⟩
  have hTW:=ig (B:=B) (Ti:=Ti) hJ (by rw[nF.w0i];exact hX) hdr (nF.w0i.trans nF.w0b.symm) nF.TK nF.yv nF.lp (asg:=asg) (body:=body) (base:=base) (keep:=keep) (λval lo s ae hp=>by rw[nF.w0b,nF.asg];exact p9 val lo s ae hp) (λval lo s ae hp=>by rw[nF.w0b,nF.body];exact cS val lo s ae hp)
   (hk:=hk f ns.length) (dc:=dc f) c (lh L8 f fn c gC hc) (λd hd h' hh x ae hp=>hl f fn c gC hc d hd ns.length h' hh B Ti nF x ae hp) _ _ (by rw[nF.ps];exact hp)
  refine hTW F _ W1 _ _ Aw H4 λe s1 c1 a1 w1 yN ⟨F',G',k1,k2⟩=> ?_;have Oa:a1.defers=[]:=by
   cases UX:a1.defers with
   |nil=>rfl
   |cons d ds=>obtain⟨_,_,h0,_⟩:=k1.s7.2 d (by rw[UX];simp);rw[nF.TK] at h0;cases h0.2
  have fin:ae c1->LeavesInM Fence.wide 0 Q fn a1.tmps (rangePost (wd none) 0 Q (w.heap.size+1) Q' {a with defers:=[{target:= .collected w.heap.size,args:= #[]}]++a.defers}) a1.defers .returning w1:=λfe=>by
   rw[Oa];obtain⟨us,u1,_⟩:=tC k1 (fn:=fn) (ps:=[]) (by rw[IP];rfl);refine⟨_,u1,?_⟩;subst hB;have k2:pS Q T {a with defers:={target:= .collected w.heap.size,args:= #[]}::a.defers} (w.heap.size+1) lp (Own G s.rg) F W1 c1 w1 F' (Own G' s1.rg):=k2;obtain⟨l1,F2,G2,m1,m2,m3,m4,m5⟩:=k2;refine⟨_,_,run_endLoop l1 (by simp only[N9];split<;>simp),?_⟩;have qoY:w.heap.size+1<w1.heap.size:=(zax.1 l1).1;have final:Q' c1.1.fH {a with defers:=[{target:= .collected w.heap.size,args:= #[]}]++a.defers} (w1.putObj (w.heap.size+1) (.loop {N9 lp c1.1 with state:= .exhausted})):=by
    refine hK c1.1 c1.2 _ _ fe ⟨F2,G2,m1.FR m2 _,m5.lH,λb hb=> ?_,λb hb=> ?_,λb hb bI=> ?_,?_,m5.os.trans I3.2.1,m5.tape.trans I3.2.2.1,m5.output.trans I3.2.2.2⟩
    ·rcases m5.n9 b hb with h' |h' |h'
     ·exact .inl h'
     ·exact .inr (.inl h')
     simp at h';exact .inr (.inr (by omega))
    ·rcases m5.mH b hb with h' |h'
     ·exact .inl h'
     simp at h';exact .inr (by omega)
    ·have h':=m5.keep b (by simp;omega) bI;rw[eZ _ _ _ (by omega),eZ _ _ _ (by omega)] at h';rw[eZ _ _ _ (by omega),h'];exact hold b hb
    simp;omega
   obtain⟨c1x,c1s⟩:=c1;cases c1x with
   |normal=>exact final
   |exit id=>exact wpIn_exit final
   |ret=>exact wpIn_ret final
  cases e with
  |normal=>exact fin yN
  |ret=>exact fin yN
  |exit id=>exact yN.elim
 |_=>exact hp.elim
def qaO(m:S×(PX×S)->K (PX×S×(PX×S))) keep y:=
 K.bind (m y) λx=>match x.1 with
  | .normal=>K.bind (K.dU (cG keep x.2.1)) λs2=>K.ret (.normal,s2,x.2.2)
  |_=>K.bind (K.dU (dL keep x.2.1)) λs2=>K.ret (x.1,s2,x.2.2)
def Me(n:Nat)(I:Nat->S×(PX×S)->Prop)(O:PX×S×(PX×S)->Prop)(x:PX×S×(PX×S)):Prop:=match x.1 with | .normal=> ∃m,m<n/\I m x.2 |_=>O x
def ij(keep:Option (List Nat×List Nat))(g:S×(PX×S)->K (PX×S×(PX×S))):S×(PX×S)->K (PX×S×(PX×S)):=λy ae=>match cG keep y.1 with |some s0=>g (s0,y.2) ae |none=>False
end
end Pi
