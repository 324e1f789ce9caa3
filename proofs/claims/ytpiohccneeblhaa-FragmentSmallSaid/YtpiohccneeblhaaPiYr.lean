/- The text PiYr. -/
import Derived.Test.YtpiohccneeblhaaPiY
import Derived.RangeFuncOwn
namespace Pi
open Go
theorem qJ(w:World)(o:Go.Obj){k:Nat}(h:k<w.heap.size):(w.alloc o).heap[k]?=w.heap[k]?:=by
 show(w.heap.push o)[k]?=w.heap[k]?;rw[Array.getElem?_push];split
 ·omega
 rfl
def gj(R:List (Nat×En)):List Nat->List (Nat×En)
 | []=>R
 |n::ns=>gj (match lk R n with |some e=>ins n ⟨e.az,e.tag,.gone⟩ R |none=>R) ns
section
variable{Q:Program}{T:Tg}{F:Nat->Prop}{G:Nat->Value}{w:World}{a:Act}{s:S}
theorem jC: ∀(ns:List Nat) (s:S),aq Q T F G w a s->aq Q T F G w a {s with rg:=gj s.rg ns}/\
  ∀m e,lk (gj s.rg ns) m=some e->e.obj.live=true->m∉ns/\lk s.rg m=some e
 | [],s,h=>⟨h,λm e he _=>⟨by simp,he⟩⟩
 |n::ns,s,h=>by
  cases hn:lk s.rg n with
  |none=>
   obtain⟨h1,h2⟩:=jC ns s h;unfold gj;simp only[hn];refine⟨h1,λm e he hl=> ?_⟩;obtain⟨k1,k2⟩:=h2 m e he hl;refine⟨λhm=> ?_,k2⟩;rcases zan.1 hm with rfl |hm
   ·rw[hn] at k2;cases k2
   exact k1 hm
  |some e0=>
   obtain⟨g1,_⟩:=h.iH (n:=n) (e1:=⟨e0.az,e0.tag,.gone⟩) (g1:=G n) (w':=w) (λe he=>by rw[hn] at he;cases he;exact .inr ⟨rfl,λhl=>(by cases hl)⟩) (λ_ _ _=>rfl) (zae _) rfl rfl rfl (λb hb=>by cases hb) trivial (λi _ hl=>by cases hl);rw[aK] at g1;obtain⟨h1,h2⟩:=jC ns _ g1;unfold gj;simp only[hn];refine⟨h1,λm e he hl=> ?_⟩;obtain⟨k1,k2⟩:=h2 m e he hl;by_cases hm:n=m
   ·subst hm;simp only[aH] at k2;cases k2;cases hl
   simp only at k2;rw[aV _ _ hm] at k2;exact⟨λh=>(zan.1 h).elim (λe=>hm e.symm) k1,k2⟩
theorem oo{ns:List Nat}(h:aq Q T F G w a s){b:Nat}(hb:Own G (gj s.rg ns) b): ∃m e,m∉ns/\lk s.rg m=some e/\ay (G m) e.obj b:=by
 obtain⟨m,e,he,ho⟩:=hb;have hl:e.obj.live=true:=by
  cases Nb:e.obj with
  |gone=>rw[Nb] at ho;cases ho
  |_=>rfl
 obtain⟨k1,k2⟩:=(jC ns s h).2 m e he hl;exact⟨m,e,k1,k2,ho⟩
structure Setup(B:kR Q)(Ti:Tg)(yt:Nat)(w0:World)(ps:Array Tmp)(assign body:Code):Prop where
 OL:Ti.w0=w0
 Nc:B.T.w0=w0
 Ea:Ti.Ea=false
 yv:Ti.val yt= .func (.yield B.l) #[] #[]
 lp:B.lp.state= .ready/\B.lp.pending=none/\B.lp.tmps=B.a.tmps
 ps:B.lp.params=ps
 asg:B.lp.assign=assign
 body:B.lp.body=body
def Dq(Q:Program)(kf:KF)(ps:List Nat)(base:Nat)(keep:Option (List Nat×List Nat))(asg body:S->(PX×S->Prop)->Prop)(hk:FuncId->Nat->List (Nat×(S×(PX×S)->K (PX×S×(PX×S)))))(dc:FuncId->Nat->Nat)(g:Operand)(s:S):K (PX×S):=
 match s.ev g with
 | .fn f bH=>
        match Q.funcs[f]? with
  |some fn=>match fn.body with
   |some c=>
        if fn.name== "runtime.NumGoroutine" || !fn.results.toList.isEmpty then K.fail else
    let ns:=reach s.rg 1000 bH []
    if cE ns then(match sub s.rg (toPos s.rg ns) true 0 ns with
     |some R0=>(match cx keep {s with rg:=gj s.rg ns} with
      |none=>K.fail
      |some s0=>λae=>db Q kf ns.length (iu ps base keep asg body) (hk f ns.length) (dc f) c (⟨fn.ntmps,dB 0 (.mp ns.length 0::iK (toPos s.rg ns) bH),ins ns.length ⟨0,some ns.length,.fy⟩ R0⟩,(.normal,s0))
       (λy=>match y.1 with
        | .exit _=>False
        |_=>ae y.2.2))
     |none=>K.fail)
    else K.fail
   |none=>K.fail
  |none=>K.fail
 |_=>K.fail
variable{kp:tq}
theorem TW.rangeFunc{kf:KF}(eE:oO kf (dh Q kp))(hX:cL Q T.w0 kp.X)(hdr:Q.follows .mixedOrders=true)(hm:T.Ea=true){dc:FuncId->Nat->Nat}(yr:iC dc 0 Q.funcs.toList=true){ps:Array Tmp}{assign bd:Code}
  {base:Nat} {keep:Option (List Nat×List Nat)} {asg body:S->(PX×S->Prop)->Prop} (jV: ∀val lo s ae,asg s ae->TW Q ⟨val,T.w0,lo,false⟩ assign s ae) (bZ: ∀val lo s ae,body s ae->TW Q ⟨val,T.w0,lo,false⟩ bd s ae)
  {hk:FuncId->Nat->List (Nat×(S×(PX×S)->K (PX×S×(PX×S))))}
  (hl: ∀f fn c,Q.funcs[f]?=some fn->fn.body=some c-> ∀d∈ax c,∀yt h,lk (hk f yt) (Code.lB d)=some h-> ∀(B:kR Q) (Ti:Tg),Setup B Ti yt T.w0 ps assign bd-> ∀x ae,h x ae->mg B Ti (.loop d) x.2 x.1 ae)
  {g:Operand} {ae:PX×S->Prop} (hp:Dq Q kf ps.toList base keep asg body hk dc g s ae):TW Q T (.rangeFunc g ps assign bd) s ae:=by
 intro r pJ F G w a Q' h hK;obtain rfl:=pJ hm;have hv:=pC h g;unfold Dq at hp;generalize s.ev g=gp at hp hv;cases gp with
 |fn f bH=>
  simp only at hp;have hv:ao F w G s.rg (a.eval g) (.fn f bH):=hv;cases fg:Q.funcs[f]? with
  |none=>simp only[fg] at hp;exact hp.elim
  |some fn=>
  cases hc:fn.body with
  |none=>simp only[fg,hc] at hp;exact hp.elim
  |some c=>
  cases zi:(fn.name== "runtime.NumGoroutine" || !fn.results.toList.isEmpty) with
  |true=>simp only[fg,hc,zi,zaT] at hp;exact hp.elim
  |false=>
  simp only[fg,hc,zi,zar,za3] at hp;simp only[Bool.or_eq_false_iff,Bool.not_eq_false'] at zi;obtain⟨iY,wE⟩:=zi;have wE:fn.results.toList=[]:=by simpa using wE
  generalize vH:reach s.rg 1000 bH []=ns at hp;cases hY:cE ns with
  |false=>simp only[hY,zar,za3] at hp;exact hp.elim
  |true=>
  cases iU:sub s.rg (toPos s.rg ns) true 0 ns with
  |none=>simp only[hY,zaT,iU] at hp;exact hp.elim
  |some R0=>
  simp only[hY,zaT,iU] at hp;cases HG:cx keep {s with rg:=gj s.rg ns} with
  |none=>simp only[HG] at hp;exact hp.elim
  |some s0=>
  simp only[HG] at hp;generalize hval:a.eval g=gv at hv;cases hv with
  |fn _ cs _ Ap fO=>
  generalize uW:(Value.func (.yield (w.heap.size+1)) #[] #[])=yv;have fc:yv.oneCell'=true:=by subst uW;rfl
  refine wpIn_rangeFunc λP8 _=> ?_;obtain⟨lp,wK⟩: ∃lp:Loop,lp={state:= .ready,pending:=none,fn:=P8,tmps:=a.tmps,params:=ps,assign,body:=bd,defers:=w.heap.size}:=⟨_,rfl⟩
  obtain⟨W1,IL⟩: ∃W1,(w.alloc (.deferred (some []))).alloc (.loop lp)=W1:=⟨_,rfl⟩
  have P9:W1.heap[w.heap.size+1]?=some (.loop lp):=by rw[<-IL];have:=World.alloc_heap_new (w.alloc (.deferred (some []))) (.loop lp);rwa [World.size_alloc] at this
  have Qa:W1.heap[w.heap.size]?=some (.deferred (some [])):=by rw[<-IL];exact(qJ _ _ (by simp)).trans (World.alloc_heap_new w _)
  have Qb:W1.heap.size=w.heap.size+2:=by rw[<-IL];simp
  have hold: ∀b,b<w.heap.size->W1.heap[b]?=w.heap[b]?:=λb hb=>by rw[<-IL];exact(qJ _ _ (by simp;omega)).trans (qJ _ _ hb)
  have wL:W1.drawn=w.drawn/\W1.os=w.os/\W1.tape=w.tape/\W1.output=w.output:=by rw[<-IL];exact⟨rfl,rfl,rfl,rfl⟩
  have HJ:(callFunc f (#[yv]++⟨cs⟩)).run Q W1= .ok (.enter f (#[yv]++⟨cs⟩)) W1:=by simp[callFunc,fg,hc];simpa using iY
  refine⟨w.heap.size+1,[{target:= .collected w.heap.size,args:= #[]}],W1,{target:= .fn (.func f) ⟨cs⟩,args:= #[yv]},W1,f, #[yv]++⟨cs⟩,W1,?_,?_,λ_ _=>trivial,?_,λhd=>(by cases hd),qb (gV fg hc ?_)⟩
  ·rw[<-IL,wK];exact run_enterLoop_outer _ _ _ _ _
  ·simp only[resolve,hval,uW];simp[go_sem,<-uW]
  ·simp only[invoke];simpa [go_sem] using HJ
  have kx: ∀{T':Tg} {G':Nat->Value} {a':Act} {s':S},T'.w0=T.w0->a'.defers=[]->aq Q T' F G' w a' s'->aq Q T' F G' W1 a' s':=λhw hd h'=>h'.other (λb hb=>hold b (h'.fw b hb)) (λb hb=>hold b (h'.cz hb)) (λd Dp=>by rw[hd] at Dp;cases Dp) (by omega) (by rw[hw,wL.1];exact h.dr);obtain⟨b1,b2,b3⟩:=h.heap.sub iU hY;simp only[zaT] at b1;obtain⟨Gi,Qc⟩: ∃Gi:Nat->Value,Gi=λi=>G (ns.getD i 0):=⟨_,rfl⟩
  rw[<-Qc] at b1 b2 b3;have xK:=λj e' (hj:lk R0 j=some e')=>x0 s.rg (toPos s.rg ns) true ns 0 R0 iU j e' hj;have OM:lk R0 ns.length=none:=by
   cases hx:lk R0 ns.length with
   |none=>rfl
   |some e=>obtain⟨n,e0,_,h2,_⟩:=xK _ _ hx;simp at h2
  obtain⟨Ti,IK⟩: ∃Ti:Tg,Ti=⟨λi=>if i=ns.length then yv else Gi i,T.w0,0,false⟩:=⟨_,rfl⟩
  have jL:aL Q Ti F Gi w R0:=by
   subst IK;refine⟨.nil,za2 _,λt p hp=>by simp[lk] at hp,b1.rg,b1.own,b1.gG,b1.fw,λn e i he hi Bw=> ?_,b1.z,b1.dr,za2 _⟩;have ht:=b1.tag n e i he hi Bw;obtain⟨n',e0,_,h2,_,_,rfl⟩:=xK _ _ he;simp only[zaT,zaf] at hi;subst hi;have:n<ns.length:=by have:=(zaa.1 h2).1;omega
   show ew (Gi n) (if n=ns.length then yv else Gi n);rw[zaB (by omega)];exact .inl rfl
  obtain⟨By,Bt⟩:=(kx (by rw[IK]) rfl jL).iH (n:=ns.length) (e1:=⟨0,some ns.length,.fy⟩) (g1:=yv) (w':=W1) (λe he=>by have he:lk R0 ns.length=some e:=he;rw[OM] at he;cases he) (λ_ _ _=>rfl) (zae _) rfl rfl rfl (λb hb=>by cases hb) trivial (λi hi _=>by cases hi;rw[IK];exact .inl (by show yv=if ns.length=ns.length then yv else _;simp));have vU:(#[yv]++⟨cs⟩:Array Value)=⟨yv::cs⟩:=by apply za1.1;simp
  rw[vU];have bq: ∀(i:Nat) (v:Value) (p:P),(yv::cs)[i]?=some v->(P.mp ns.length 0::iK (toPos s.rg ns) bH)[i]?=some p->ao F W1 (iH Gi ns.length yv) (ins ns.length ⟨0,some ns.length,.fy⟩ R0) v p:=λi v p h1 h2=>by
   cases i with
   |zero=>simp only[zb2,zaf] at h1 h2;subst h1;subst h2;exact .mp _ _ _ fc ⟨_,aH _ _ _,zae _,λ_ _=>(aC _ _ _).symm⟩
   |succ i=>simp only[zbo] at h1 h2;rw[fD,zaj] at h2;obtain⟨q,hq,rfl⟩:=h2;exact ao.mono (λ_ h=>h) (λb hb=>hold b (h.fw b hb)) (cI λe he=>by rw[OM] at he;cases he) (gS b2 (fO i v q h1 hq))
  have hlen:(yv::cs).length=(P.mp ns.length 0::iK (toPos s.rg ns) bH).length:=by simp[fE,Ap]
  have qD:aq Q Ti F (iH Gi ns.length yv) W1 {tmps:=(⟨yv::cs⟩:Array Value)++Array.replicate (fn.ntmps-(⟨yv::cs⟩:Array Value).size) undef,defers:=[]} ⟨fn.ntmps,dB 0 (.mp ns.length 0::iK (toPos s.rg ns) bH),ins ns.length ⟨0,some ns.length,.fy⟩ R0⟩:=by
   refine aL.state (R:=ins ns.length ⟨0,some ns.length,.fy⟩ R0) By rfl .nil (by simp;omega) (λt p hp=> ?_);obtain⟨_,h2⟩:=jy _ 0 t p hp;simp only[Nat.sub_zero] at h2;have bj:t<(yv::cs).length:=by have:=(zaa.1 h2).1;omega
   have e:((⟨yv::cs⟩:Array Value)++Array.replicate (fn.ntmps-(⟨yv::cs⟩:Array Value).size) undef).getD t undef=(yv::cs)[t]:=by rw[cK];simp only[Array.toList_append];rw[zaD bj,zac bj];rfl
   rw[e];exact bt.of (bq t _ p (zac bj) h2)
  obtain⟨q0,_⟩:=jC ns s h;obtain⟨G5,q1,v5⟩:=dD q0 HG;have Gy: ∀b,Own G5 s0.rg b->Own G (gj s.rg ns) b:=λb hb=>by
   rcases v5.fe b hb with h' |h'
   ·exact h'
   have:=q1.cz hb;omega
  have sH: ∀d∈a.defers,∃D,d={target:= .collected D,args:= #[]}/\D<w.heap.size/\ ¬Own G s.rg D:=λd hd=>by obtain⟨D,k1,_,k2,_,k3⟩:=h.mf.2 d hd;exact⟨D,k1,(zap.1 k2).1,k3⟩
  have zi: ∀b,w.heap.size<=b-> ∀d∈a.defers,d≠{target:= .collected b,args:= #[]}:=λb hb d hd e=>by
   obtain⟨D,k1,k2,_⟩:=sH d hd;rw[k1] at e;injection e with e1 e2
   injection e1 with e1
   omega
  have q2:aq Q T F G5 W1 a s0:=q1.other (λb hb=>hold b (q1.fw b hb)) (λb hb=>hold b (q1.cz hb)) (λd hd D hD=>by
   obtain⟨D',k1,k2,_⟩:=sH d hd;rw[k1] at hD;injection hD with e1 e2
   injection e1 with e1
   subst e1;exact hold _ k2) (by omega) (by rw[wL.1];exact h.dr)
  have q3:aq Q T F G5 W1 {a with defers:={target:= .collected w.heap.size,args:= #[]}::a.defers} s0:=by
   refine⟨⟨zax.2 ⟨λhd=>zi _ (zae _) _ hd rfl,q2.mf.1⟩,λd hd=> ?_⟩,q2.size,q2.tm,q2.rg,q2.own,q2.gG,q2.fw,q2.tag,q2.z,q2.dr,q2.sz⟩;rcases zan.1 hd with rfl |hd
   ·exact⟨_,rfl,⟨h.sz,hm⟩,Qa,λhf=>Nat.lt_irrefl _ (h.fw _ hf),λho=>Nat.lt_irrefl _ (q1.cz ho)⟩
   exact q2.mf.2 d hd
  obtain⟨B,hB⟩: ∃B:kR Q,B=⟨T,{a with defers:={target:= .collected w.heap.size,args:= #[]}::a.defers},w.heap.size+1,lp,Own G s.rg,F,W1⟩:=⟨_,rfl⟩
  have jr:Setup B Ti ns.length T.w0 ps assign bd:=by subst hB;subst IK;subst wK;exact⟨rfl,rfl,rfl,by show(if ns.length=ns.length then yv else _)=_;rw[zat rfl,<-uW],⟨rfl,rfl,rfl⟩,rfl,rfl,rfl⟩
  have Ci:B.at (.normal,s0) W1 F (Own (iH Gi ns.length yv) (ins ns.length ⟨0,some ns.length,.fy⟩ R0)):=by
   subst hB;show jN Q T {a with defers:={target:= .collected w.heap.size,args:= #[]}::a.defers} (w.heap.size+1) lp (Own G s.rg) F W1 (.normal,s0) W1 F _;refine⟨by subst wK;exact P9,F,G5,q3,⟨λhf=>(by have:=h.fw _ hf;omega),λho=>(by have:=q1.cz ho;omega),λd hd e=> ?_⟩,λ_ h=>h,λb hb=> ?_,⟨λ_ h=>h,λ_ h=> .inl h,λb hb=> .inl ?_,λ_ _ _=>rfl,zae _,rfl,rfl,rfl⟩⟩
   ·rcases zan.1 hd with rfl |hd
    ·injection e with e1 e2
     injection e1 with e1
     omega
    exact zi _ (by omega) d hd e
   ·have tO:Own Gi R0 b:=by
     rcases Bt.fe b hb with h' |h'
     ·exact h'
     have:=By.cz hb;omega
    obtain⟨n,e,h1,h2,h3⟩:=b3 b tO;have bj:b<w.heap.size:=h.cz ⟨n,e,h2,h3⟩;refine⟨h.gG n e b h2 h3,λho=> ?_,(by show b≠w.heap.size+1;omega),.inl ⟨n,e,h2,h3⟩,λd hd e'=> ?_⟩
    ·obtain⟨m,e',k1,k2,k3⟩:=oo h (Gy _ ho);exact k1 (h.own m n e' e b k2 h2 k3 h3▸h1)
    rcases zan.1 hd with rfl |hd
    ·injection e' with e1 e2
     injection e1 with e1
     omega
    obtain⟨D,k1,k2,k3⟩:=sH d hd;rw[k1] at e';injection e' with e1 e2
    injection e1 with e1
    subst e1;exact k3 ⟨n,e,h2,h3⟩
   obtain⟨m,e,_,k2,k3⟩:=oo h (Gy _ hb);exact⟨m,e,k2,k3⟩
  have M3:=fm (B:=B) (Ti:=Ti) eE (by rw[jr.OL];exact hX) hdr (jr.OL.trans jr.Nc.symm) jr.Ea jr.yv jr.lp (asg:=asg) (body:=body) (base:=base) (keep:=keep) (λval lo s ae hp=>by rw[jr.Nc,jr.asg];exact jV val lo s ae hp) (λval lo s ae hp=>by rw[jr.Nc,jr.body];exact bZ val lo s ae hp)
   (hk:=hk f ns.length) (dc:=dc f) c (gu yr f fn c fg hc) (λd hd h' hh x ae hp=>hl f fn c fg hc d hd ns.length h' hh B Ti jr x ae hp) _ _ (by rw[jr.ps];exact hp)
  refine M3 F _ W1 _ _ qD Ci λe s1 c1 a1 w1 qZ ⟨F',G',k1,k2⟩=> ?_;have Qd:a1.defers=[]:=by
   cases Dp:a1.defers with
   |nil=>rfl
   |cons d ds=>obtain⟨_,_,h0,_⟩:=k1.mf.2 d (by rw[Dp];simp);rw[jr.Ea] at h0;cases h0.2
  have fin:ae c1->LeavesInM Fence.wide 0 Q fn a1.tmps (rangePost (wd none) 0 Q (w.heap.size+1) Q' {a with defers:=[{target:= .collected w.heap.size,args:= #[]}]++a.defers}) a1.defers .returning w1:=λeB=>by
   rw[Qd];obtain⟨us,u1,_⟩:=l5 k1 (fn:=fn) (ps:=[]) (by rw[wE];rfl);refine⟨_,u1,?_⟩;subst hB;have k2:jN Q T {a with defers:={target:= .collected w.heap.size,args:= #[]}::a.defers} (w.heap.size+1) lp (Own G s.rg) F W1 c1 w1 F' (Own G' s1.rg):=k2;obtain⟨l1,F2,G2,m1,m2,m3,m4,m5⟩:=k2;refine⟨_,_,run_endLoop l1 (by simp only[zx];split<;>simp),?_⟩;have Qe:w.heap.size+1<w1.heap.size:=(zap.1 l1).1;have final:Q' c1.1.dx {a with defers:=[{target:= .collected w.heap.size,args:= #[]}]++a.defers} (w1.putObj (w.heap.size+1) (.loop {zx lp c1.1 with state:= .exhausted})):=by
    refine hK c1.1 c1.2 _ _ eB ⟨F2,G2,m1.uD m2 _,m5.fV,λb hb=> ?_,λb hb=> ?_,λb hb bg=> ?_,?_,m5.os.trans wL.2.1,m5.tape.trans wL.2.2.1,m5.output.trans wL.2.2.2⟩
    ·rcases m5.iN b hb with h' |h' |h'
     ·exact .inl h'
     ·exact .inr (.inl h')
     simp at h';exact .inr (.inr (by omega))
    ·rcases m5.fe b hb with h' |h'
     ·exact .inl h'
     simp at h';exact .inr (by omega)
    ·have h':=m5.keep b (by simp;omega) bg;rw[c8 _ _ _ (by omega),c8 _ _ _ (by omega)] at h';rw[c8 _ _ _ (by omega),h'];exact hold b hb
    simp;omega
   obtain⟨Qf,Q8⟩:=c1;cases Qf with
   |normal=>exact final
   |exit id=>exact wpIn_exit final
   |ret=>exact wpIn_ret final
  cases e with
  |normal=>exact fin qZ
  |ret=>exact fin qZ
  |exit id=>exact qZ.elim
 |_=>exact hp.elim
end
end Pi
