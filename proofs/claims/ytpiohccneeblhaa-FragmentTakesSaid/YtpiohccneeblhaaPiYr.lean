/- The text PiYr. -/
import Derived.Test.YtpiohccneeblhaaPiY
import Derived.RangeFuncOwn
namespace Pi
open Go
theorem qE(w:World)(o:Go.Obj){k:Nat}(h:k<w.heap.size):(w.alloc o).heap[k]?=w.heap[k]?:=by
 show(w.heap.push o)[k]?=w.heap[k]?;rw[Array.getElem?_push];split
 ·omega
 rfl
def gi(R:List (Nat×En)):List Nat->List (Nat×En)
 | []=>R
 |n::ns=>gi (match lk R n with |some e=>ins n ⟨e.ay,e.tag,.gone⟩ R |none=>R) ns
section
variable{Q:Program}{T:Tg}{F:Nat->Prop}{G:Nat->Value}{w:World}{a:Act}{s:S}
theorem jC: ∀(ns:List Nat) (s:S),aq Q T F G w a s->aq Q T F G w a {s with rg:=gi s.rg ns}/\
  ∀m e,lk (gi s.rg ns) m=some e->e.obj.live=true->m∉ns/\lk s.rg m=some e
 | [],s,h=>⟨h,λm e he _=>⟨by simp,he⟩⟩
 |n::ns,s,h=>by
  cases hn:lk s.rg n with
  |none=>
   obtain⟨h1,h2⟩:=jC ns s h;unfold gi;simp only[hn];refine⟨h1,λm e he hl=> ?_⟩;obtain⟨k1,k2⟩:=h2 m e he hl;refine⟨λhm=> ?_,k2⟩;rcases zan.1 hm with rfl |hm
   ·rw[hn] at k2;cases k2
   exact k1 hm
  |some e0=>
   obtain⟨g1,_⟩:=h.iG (n:=n) (e1:=⟨e0.ay,e0.tag,.gone⟩) (g1:=G n) (w':=w) (λe he=>by rw[hn] at he;cases he;exact .inr ⟨rfl,λhl=>(by cases hl)⟩) (λ_ _ _=>rfl) (zae _) rfl rfl rfl (λb hb=>by cases hb) trivial (λi _ hl=>by cases hl);rw[aJ] at g1;obtain⟨h1,h2⟩:=jC ns _ g1;unfold gi;simp only[hn];refine⟨h1,λm e he hl=> ?_⟩;obtain⟨k1,k2⟩:=h2 m e he hl;by_cases hm:n=m
   ·subst hm;simp only[aH] at k2;cases k2;cases hl
   simp only at k2;rw[aV _ _ hm] at k2;exact⟨λh=>(zan.1 h).elim (λe=>hm e.symm) k1,k2⟩
theorem oh{ns:List Nat}(h:aq Q T F G w a s){b:Nat}(hb:Own G (gi s.rg ns) b): ∃m e,m∉ns/\lk s.rg m=some e/\ax (G m) e.obj b:=by
 obtain⟨m,e,he,ho⟩:=hb;have hl:e.obj.live=true:=by
  cases MH:e.obj with
  |gone=>rw[MH] at ho;cases ho
  |_=>rfl
 obtain⟨k1,k2⟩:=(jC ns s h).2 m e he hl;exact⟨m,e,k1,k2,ho⟩
structure Setup(B:kR Q)(Ti:Tg)(yt:Nat)(w0:World)(ps:Array Tmp)(assign body:Code):Prop where
 N9:Ti.w0=w0
 MI:B.T.w0=w0
 DT:Ti.DT=false
 yv:Ti.val yt= .func (.yield B.l) #[] #[]
 lp:B.lp.state= .ready/\B.lp.pending=none/\B.lp.tmps=B.a.tmps
 ps:B.lp.params=ps
 asg:B.lp.assign=assign
 body:B.lp.body=body
def C9(Q:Program)(kf:KF)(ps:List Nat)(base:Nat)(keep:Option (List Nat×List Nat))(asg body:S->(PX×S->Prop)->Prop)(hk:FuncId->Nat->List (Nat×(S×(PX×S)->K (PX×S×(PX×S)))))(dc:FuncId->Nat->Nat)(g:Operand)(s:S):K (PX×S):=
 match s.ev g with
 | .fn f bF=>
        match Q.funcs[f]? with
  |some fn=>match fn.body with
   |some c=>
        if fn.name== "runtime.NumGoroutine" || !fn.results.toList.isEmpty then K.fail else
    let ns:=reach s.rg 1000 bF []
    if cD ns then(match sub s.rg (toPos s.rg ns) true 0 ns with
     |some R0=>(match cw keep {s with rg:=gi s.rg ns} with
      |none=>K.fail
      |some s0=>λae=>db Q kf ns.length (iq ps base keep asg body) (hk f ns.length) (dc f) c (⟨fn.ntmps,dB 0 (.mp ns.length 0::iK (toPos s.rg ns) bF),ins ns.length ⟨0,some ns.length,.fy⟩ R0⟩,(.normal,s0))
       (λy=>match y.1 with
        | .exit _=>False
        |_=>ae y.2.2))
     |none=>K.fail)
    else K.fail
   |none=>K.fail
  |none=>K.fail
 |_=>K.fail
variable{kp:tf}
theorem TW.rangeFunc{kf:KF}(eE:oN kf (dh Q kp))(hX:cL Q T.w0 kp.X)(hdr:Q.follows .mixedOrders=true)(hm:T.DT=true){dc:FuncId->Nat->Nat}(yb:iB dc 0 Q.funcs.toList=true){ps:Array Tmp}{assign bd:Code}
  {base:Nat} {keep:Option (List Nat×List Nat)} {asg body:S->(PX×S->Prop)->Prop} (jV: ∀val lo s ae,asg s ae->TW Q ⟨val,T.w0,lo,false⟩ assign s ae) (bX: ∀val lo s ae,body s ae->TW Q ⟨val,T.w0,lo,false⟩ bd s ae)
  {hk:FuncId->Nat->List (Nat×(S×(PX×S)->K (PX×S×(PX×S))))}
  (hl: ∀f fn c,Q.funcs[f]?=some fn->fn.body=some c-> ∀d∈aw c,∀yt h,lk (hk f yt) (Code.lz d)=some h-> ∀(B:kR Q) (Ti:Tg),Setup B Ti yt T.w0 ps assign bd-> ∀x ae,h x ae->mb B Ti (.loop d) x.2 x.1 ae)
  {g:Operand} {ae:PX×S->Prop} (hp:C9 Q kf ps.toList base keep asg body hk dc g s ae):TW Q T (.rangeFunc g ps assign bd) s ae:=by
 intro r pD F G w a Q' h hK;obtain rfl:=pD hm;have hv:=pw h g;unfold C9 at hp;generalize s.ev g=gp at hp hv;cases gp with
 |fn f bF=>
  simp only at hp;have hv:ao F w G s.rg (a.eval g) (.fn f bF):=hv;cases fg:Q.funcs[f]? with
  |none=>simp only[fg] at hp;exact hp.elim
  |some fn=>
  cases hc:fn.body with
  |none=>simp only[fg,hc] at hp;exact hp.elim
  |some c=>
  cases yV:(fn.name== "runtime.NumGoroutine" || !fn.results.toList.isEmpty) with
  |true=>simp only[fg,hc,yV,zaT] at hp;exact hp.elim
  |false=>
  simp only[fg,hc,yV,zar,za2] at hp;simp only[Bool.or_eq_false_iff,Bool.not_eq_false'] at yV;obtain⟨iY,wo⟩:=yV;have wo:fn.results.toList=[]:=by simpa using wo
  generalize vv:reach s.rg 1000 bF []=ns at hp;cases hY:cD ns with
  |false=>simp only[hY,zar,za2] at hp;exact hp.elim
  |true=>
  cases iU:sub s.rg (toPos s.rg ns) true 0 ns with
  |none=>simp only[hY,zaT,iU] at hp;exact hp.elim
  |some R0=>
  simp only[hY,zaT,iU] at hp;cases Hp:cw keep {s with rg:=gi s.rg ns} with
  |none=>simp only[Hp] at hp;exact hp.elim
  |some s0=>
  simp only[Hp] at hp;generalize hval:a.eval g=gv at hv;cases hv with
  |fn _ cs _ Ab fO=>
  generalize uM:(Value.func (.yield (w.heap.size+1)) #[] #[])=yv;have fc:yv.oneCell'=true:=by subst uM;rfl
  refine wpIn_rangeFunc λPw _=> ?_;obtain⟨lp,wz⟩: ∃lp:Loop,lp={state:= .ready,pending:=none,fn:=Pw,tmps:=a.tmps,params:=ps,assign,body:=bd,defers:=w.heap.size}:=⟨_,rfl⟩
  obtain⟨W1,Is⟩: ∃W1,(w.alloc (.deferred (some []))).alloc (.loop lp)=W1:=⟨_,rfl⟩
  have Px:W1.heap[w.heap.size+1]?=some (.loop lp):=by rw[<-Is];have:=World.alloc_heap_new (w.alloc (.deferred (some []))) (.loop lp);rwa [World.size_alloc] at this
  have Py:W1.heap[w.heap.size]?=some (.deferred (some [])):=by rw[<-Is];exact(qE _ _ (by simp)).trans (World.alloc_heap_new w _)
  have Pz:W1.heap.size=w.heap.size+2:=by rw[<-Is];simp
  have hold: ∀b,b<w.heap.size->W1.heap[b]?=w.heap[b]?:=λb hb=>by rw[<-Is];exact(qE _ _ (by simp;omega)).trans (qE _ _ hb)
  have wA:W1.drawn=w.drawn/\W1.os=w.os/\W1.tape=w.tape/\W1.output=w.output:=by rw[<-Is];exact⟨rfl,rfl,rfl,rfl⟩
  have Hr:(callFunc f (#[yv]++⟨cs⟩)).run Q W1= .ok (.enter f (#[yv]++⟨cs⟩)) W1:=by simp[callFunc,fg,hc];simpa using iY
  refine⟨w.heap.size+1,[{target:= .collected w.heap.size,args:= #[]}],W1,{target:= .fn (.func f) ⟨cs⟩,args:= #[yv]},W1,f, #[yv]++⟨cs⟩,W1,?_,?_,λ_ _=>trivial,?_,λhd=>(by cases hd),pZ (gV fg hc ?_)⟩
  ·rw[<-Is,wz];exact run_enterLoop_outer _ _ _ _ _
  ·simp only[resolve,hval,uM];simp[go_sem,<-uM]
  ·simp only[invoke];simpa [go_sem] using Hr
  have kx: ∀{T':Tg} {G':Nat->Value} {a':Act} {s':S},T'.w0=T.w0->a'.defers=[]->aq Q T' F G' w a' s'->aq Q T' F G' W1 a' s':=λhw hd h'=>h'.other (λb hb=>hold b (h'.fw b hb)) (λb hb=>hold b (h'.cy hb)) (λd C8=>by rw[hd] at C8;cases C8) (by omega) (by rw[hw,wA.1];exact h.dr);obtain⟨b1,b2,b3⟩:=h.heap.sub iU hY;simp only[zaT] at b1;obtain⟨Gi,PA⟩: ∃Gi:Nat->Value,Gi=λi=>G (ns.getD i 0):=⟨_,rfl⟩
  rw[<-PA] at b1 b2 b3;have xy:=λj e' (hj:lk R0 j=some e')=>xQ s.rg (toPos s.rg ns) true ns 0 R0 iU j e' hj;have Oa:lk R0 ns.length=none:=by
   cases hx:lk R0 ns.length with
   |none=>rfl
   |some e=>obtain⟨n,e0,_,h2,_⟩:=xy _ _ hx;simp at h2
  obtain⟨Ti,Ir⟩: ∃Ti:Tg,Ti=⟨λi=>if i=ns.length then yv else Gi i,T.w0,0,false⟩:=⟨_,rfl⟩
  have jM:aL Q Ti F Gi w R0:=by
   subst Ir;refine⟨.nil,za1 _,λt p hp=>by simp[lk] at hp,b1.rg,b1.own,b1.gG,b1.fw,λn e i he hi Bg=> ?_,b1.z,b1.dr,za1 _⟩;have ht:=b1.tag n e i he hi Bg;obtain⟨n',e0,_,h2,_,_,rfl⟩:=xy _ _ he;simp only[zaT,zaf] at hi;subst hi;have:n<ns.length:=by have:=(zaa.1 h2).1;omega
   show eo (Gi n) (if n=ns.length then yv else Gi n);rw[zaC (by omega)];exact .inl rfl
  obtain⟨Bi,Bd⟩:=(kx (by rw[Ir]) rfl jM).iG (n:=ns.length) (e1:=⟨0,some ns.length,.fy⟩) (g1:=yv) (w':=W1) (λe he=>by have he:lk R0 ns.length=some e:=he;rw[Oa] at he;cases he) (λ_ _ _=>rfl) (zae _) rfl rfl rfl (λb hb=>by cases hb) trivial (λi hi _=>by cases hi;rw[Ir];exact .inl (by show yv=if ns.length=ns.length then yv else _;simp));have vK:(#[yv]++⟨cs⟩:Array Value)=⟨yv::cs⟩:=by apply za0.1;simp
  rw[vK];have bp: ∀(i:Nat) (v:Value) (p:P),(yv::cs)[i]?=some v->(P.mp ns.length 0::iK (toPos s.rg ns) bF)[i]?=some p->ao F W1 (iG Gi ns.length yv) (ins ns.length ⟨0,some ns.length,.fy⟩ R0) v p:=λi v p h1 h2=>by
   cases i with
   |zero=>simp only[zb0,zaf] at h1 h2;subst h1;subst h2;exact .mp _ _ _ fc ⟨_,aH _ _ _,zae _,λ_ _=>(aB _ _ _).symm⟩
   |succ i=>simp only[zbl] at h1 h2;rw[fD,zaj] at h2;obtain⟨q,hq,rfl⟩:=h2;exact ao.mono (λ_ h=>h) (λb hb=>hold b (h.fw b hb)) (cI λe he=>by rw[Oa] at he;cases he) (gS b2 (fO i v q h1 hq))
  have hlen:(yv::cs).length=(P.mp ns.length 0::iK (toPos s.rg ns) bF).length:=by simp[fE,Ab]
  have qy:aq Q Ti F (iG Gi ns.length yv) W1 {tmps:=(⟨yv::cs⟩:Array Value)++Array.replicate (fn.ntmps-(⟨yv::cs⟩:Array Value).size) undef,defers:=[]} ⟨fn.ntmps,dB 0 (.mp ns.length 0::iK (toPos s.rg ns) bF),ins ns.length ⟨0,some ns.length,.fy⟩ R0⟩:=by
   refine aL.state (R:=ins ns.length ⟨0,some ns.length,.fy⟩ R0) Bi rfl .nil (by simp;omega) (λt p hp=> ?_);obtain⟨_,h2⟩:=jy _ 0 t p hp;simp only[Nat.sub_zero] at h2;have bj:t<(yv::cs).length:=by have:=(zaa.1 h2).1;omega
   have e:((⟨yv::cs⟩:Array Value)++Array.replicate (fn.ntmps-(⟨yv::cs⟩:Array Value).size) undef).getD t undef=(yv::cs)[t]:=by rw[cK];simp only[Array.toList_append];rw[zaE bj,zac bj];rfl
   rw[e];exact br.of (bp t _ p (zac bj) h2)
  obtain⟨q0,_⟩:=jC ns s h;obtain⟨G5,q1,v5⟩:=dD q0 Hp;have Gj: ∀b,Own G5 s0.rg b->Own G (gi s.rg ns) b:=λb hb=>by
   rcases v5.fe b hb with h' |h'
   ·exact h'
   have:=q1.cy hb;omega
  have sB: ∀d∈a.defers,∃D,d={target:= .collected D,args:= #[]}/\D<w.heap.size/\ ¬Own G s.rg D:=λd hd=>by obtain⟨D,k1,_,k2,_,k3⟩:=h.ma.2 d hd;exact⟨D,k1,(zap.1 k2).1,k3⟩
  have yV: ∀b,w.heap.size<=b-> ∀d∈a.defers,d≠{target:= .collected b,args:= #[]}:=λb hb d hd e=>by
   obtain⟨D,k1,k2,_⟩:=sB d hd;rw[k1] at e;injection e with e1 e2
   injection e1 with e1
   omega
  have q2:aq Q T F G5 W1 a s0:=q1.other (λb hb=>hold b (q1.fw b hb)) (λb hb=>hold b (q1.cy hb)) (λd hd D hD=>by
   obtain⟨D',k1,k2,_⟩:=sB d hd;rw[k1] at hD;injection hD with e1 e2
   injection e1 with e1
   subst e1;exact hold _ k2) (by omega) (by rw[wA.1];exact h.dr)
  have q3:aq Q T F G5 W1 {a with defers:={target:= .collected w.heap.size,args:= #[]}::a.defers} s0:=by
   refine⟨⟨zax.2 ⟨λhd=>yV _ (zae _) _ hd rfl,q2.ma.1⟩,λd hd=> ?_⟩,q2.size,q2.tm,q2.rg,q2.own,q2.gG,q2.fw,q2.tag,q2.z,q2.dr,q2.sz⟩;rcases zan.1 hd with rfl |hd
   ·exact⟨_,rfl,⟨h.sz,hm⟩,Py,λhf=>Nat.lt_irrefl _ (h.fw _ hf),λho=>Nat.lt_irrefl _ (q1.cy ho)⟩
   exact q2.ma.2 d hd
  obtain⟨B,hB⟩: ∃B:kR Q,B=⟨T,{a with defers:={target:= .collected w.heap.size,args:= #[]}::a.defers},w.heap.size+1,lp,Own G s.rg,F,W1⟩:=⟨_,rfl⟩
  have jr:Setup B Ti ns.length T.w0 ps assign bd:=by subst hB;subst Ir;subst wz;exact⟨rfl,rfl,rfl,by show(if ns.length=ns.length then yv else _)=_;rw[zat rfl,<-uM],⟨rfl,rfl,rfl⟩,rfl,rfl,rfl⟩
  have B2:B.at (.normal,s0) W1 F (Own (iG Gi ns.length yv) (ins ns.length ⟨0,some ns.length,.fy⟩ R0)):=by
   subst hB;show jO Q T {a with defers:={target:= .collected w.heap.size,args:= #[]}::a.defers} (w.heap.size+1) lp (Own G s.rg) F W1 (.normal,s0) W1 F _;refine⟨by subst wz;exact Px,F,G5,q3,⟨λhf=>(by have:=h.fw _ hf;omega),λho=>(by have:=q1.cy ho;omega),λd hd e=> ?_⟩,λ_ h=>h,λb hb=> ?_,⟨λ_ h=>h,λ_ h=> .inl h,λb hb=> .inl ?_,λ_ _ _=>rfl,zae _,rfl,rfl,rfl⟩⟩
   ·rcases zan.1 hd with rfl |hd
    ·injection e with e1 e2
     injection e1 with e1
     omega
    exact yV _ (by omega) d hd e
   ·have tH:Own Gi R0 b:=by
     rcases Bd.fe b hb with h' |h'
     ·exact h'
     have:=Bi.cy hb;omega
    obtain⟨n,e,h1,h2,h3⟩:=b3 b tH;have bj:b<w.heap.size:=h.cy ⟨n,e,h2,h3⟩;refine⟨h.gG n e b h2 h3,λho=> ?_,(by show b≠w.heap.size+1;omega),.inl ⟨n,e,h2,h3⟩,λd hd e'=> ?_⟩
    ·obtain⟨m,e',k1,k2,k3⟩:=oh h (Gj _ ho);exact k1 (h.own m n e' e b k2 h2 k3 h3▸h1)
    rcases zan.1 hd with rfl |hd
    ·injection e' with e1 e2
     injection e1 with e1
     omega
    obtain⟨D,k1,k2,k3⟩:=sB d hd;rw[k1] at e';injection e' with e1 e2
    injection e1 with e1
    subst e1;exact k3 ⟨n,e,h2,h3⟩
   obtain⟨m,e,_,k2,k3⟩:=oh h (Gj _ hb);exact⟨m,e,k2,k3⟩
  have Mz:=fm (B:=B) (Ti:=Ti) eE (by rw[jr.N9];exact hX) hdr (jr.N9.trans jr.MI.symm) jr.DT jr.yv jr.lp (asg:=asg) (body:=body) (base:=base) (keep:=keep) (λval lo s ae hp=>by rw[jr.MI,jr.asg];exact jV val lo s ae hp) (λval lo s ae hp=>by rw[jr.MI,jr.body];exact bX val lo s ae hp)
   (hk:=hk f ns.length) (dc:=dc f) c (gu yb f fn c fg hc) (λd hd h' hh x ae hp=>hl f fn c fg hc d hd ns.length h' hh B Ti jr x ae hp) _ _ (by rw[jr.ps];exact hp)
  refine Mz F _ W1 _ _ qy B2 λe s1 c1 a1 w1 qW ⟨F',G',k1,k2⟩=> ?_;have PB:a1.defers=[]:=by
   cases C8:a1.defers with
   |nil=>rfl
   |cons d ds=>obtain⟨_,_,h0,_⟩:=k1.ma.2 d (by rw[C8];simp);rw[jr.DT] at h0;cases h0.2
  have fin:ae c1->LeavesInM Fence.wide 0 Q fn a1.tmps (rangePost (wd none) 0 Q (w.heap.size+1) Q' {a with defers:=[{target:= .collected w.heap.size,args:= #[]}]++a.defers}) a1.defers .returning w1:=λeA=>by
   rw[PB];obtain⟨us,u1,_⟩:=lZ k1 (fn:=fn) (ps:=[]) (by rw[wo];rfl);refine⟨_,u1,?_⟩;subst hB;have k2:jO Q T {a with defers:={target:= .collected w.heap.size,args:= #[]}::a.defers} (w.heap.size+1) lp (Own G s.rg) F W1 c1 w1 F' (Own G' s1.rg):=k2;obtain⟨l1,F2,G2,m1,m2,m3,m4,m5⟩:=k2;refine⟨_,_,run_endLoop l1 (by simp only[zi];split<;>simp),?_⟩;have PC:w.heap.size+1<w1.heap.size:=(zap.1 l1).1;have final:Q' c1.1.dx {a with defers:=[{target:= .collected w.heap.size,args:= #[]}]++a.defers} (w1.putObj (w.heap.size+1) (.loop {zi lp c1.1 with state:= .exhausted})):=by
    refine hK c1.1 c1.2 _ _ eA ⟨F2,G2,m1.uw m2 _,m5.fV,λb hb=> ?_,λb hb=> ?_,λb hb bg=> ?_,?_,m5.os.trans wA.2.1,m5.tape.trans wA.2.2.1,m5.output.trans wA.2.2.2⟩
    ·rcases m5.iN b hb with h' |h' |h'
     ·exact .inl h'
     ·exact .inr (.inl h')
     simp at h';exact .inr (.inr (by omega))
    ·rcases m5.fe b hb with h' |h'
     ·exact .inl h'
     simp at h';exact .inr (by omega)
    ·have h':=m5.keep b (by simp;omega) bg;rw[c8 _ _ _ (by omega),c8 _ _ _ (by omega)] at h';rw[c8 _ _ _ (by omega),h'];exact hold b hb
    simp;omega
   obtain⟨PD,Qw⟩:=c1;cases PD with
   |normal=>exact final
   |exit id=>exact wpIn_exit final
   |ret=>exact wpIn_ret final
  cases e with
  |normal=>exact fin qW
  |ret=>exact fin qW
  |exit id=>exact qW.elim
 |_=>exact hp.elim
end
end Pi
