/- The text PiYr. -/
import Derived.Test.YtngoddkencoalaaGreatDoorPiY
import Derived.RangeFuncOwn
namespace Pi
open Go
theorem yV(w:World)(o:Go.Obj){k:Nat}(h:k<w.heap.size):(w.alloc o).heap[k]?=w.heap[k]?:=by
 show(w.heap.push o)[k]?=w.heap[k]?;rw[Array.getElem?_push];split
 ·omega
 rfl
def kI(R:List (Nat×En)):List Nat->List (Nat×En)
 | []=>R
 |n::ns=>kI (match lk R n with |some e=>ins n ⟨e.aZ,e.tag,.gone⟩ R |none=>R) ns
section
variable{Q:Program}{T:Tg}{F:Nat->Prop}{G:Nat->Value}{w:World}{a:Act}{s:S}
theorem ou: ∀(ns:List Nat) (s:S),aG Q T F G w a s->aG Q T F G w a {s with rg:=kI s.rg ns}/\
  ∀m e,lk (kI s.rg ns) m=some e->e.obj.live=true->m∉ns/\lk s.rg m=some e
 | [],s,h=>⟨h,λm e he _=>⟨by simp,he⟩⟩
 |n::ns,s,h=>by
  cases hn:lk s.rg n with
  |none=>
   obtain⟨h1,h2⟩:=ou ns s h;unfold kI;simp only[hn];refine⟨h1,λm e he hl=> ?_⟩;obtain⟨k1,k2⟩:=h2 m e he hl;refine⟨λhm=> ?_,k2⟩;rcases zaw.1 hm with rfl |hm
   ·rw[hn] at k2;cases k2
   exact k1 hm
  |some e0=>
   obtain⟨g1,_⟩:=h.nL (n:=n) (e1:=⟨e0.aZ,e0.tag,.gone⟩) (g1:=G n) (w':=w) (λe he=>by rw[hn] at he;cases he;exact .inr ⟨rfl,λhl=>(by cases hl)⟩) (λ_ _ _=>rfl) (zak _) rfl rfl rfl (λb hb=>by cases hb) trivial (λi _ hl=>by cases hl);rw[cb] at g1;obtain⟨h1,h2⟩:=ou ns _ g1;unfold kI;simp only[hn];refine⟨h1,λm e he hl=> ?_⟩;obtain⟨k1,k2⟩:=h2 m e he hl;by_cases hm:n=m
   ·subst hm;simp only[bF] at k2;cases k2;cases hl
   simp only at k2;rw[b9 _ _ hm] at k2;exact⟨λh=>(zaw.1 h).elim (λe=>hm e.symm) k1,k2⟩
theorem wo{ns:List Nat}(h:aG Q T F G w a s){b:Nat}(hb:Own G (kI s.rg ns) b): ∃m e,m∉ns/\lk s.rg m=some e/\bL (G m) e.obj=some b:=by
 obtain⟨m,e,he,ho⟩:=hb;have hl:e.obj.live=true:=by
  cases qi7:e.obj with
  |gone=>rw[qi7] at ho;cases ho
  |_=>rfl
 obtain⟨k1,k2⟩:=(ou ns s h).2 m e he hl;exact⟨m,e,k1,k2,ho⟩
structure Setup(B:oo Q)(Ti:Tg)(yt:Nat)(w0:World)(ps:Array Tmp)(assign body:Code):Prop where
 w0i:Ti.w0=w0
 w0b:B.T.w0=w0
 PY:Ti.PY=false
 yv:Ti.val yt= .func (.yield B.l) #[] #[]
 lp:B.lp.state= .ready/\B.lp.pending=none/\B.lp.tmps=B.a.tmps
 ps:B.lp.params=ps
 asg:B.lp.assign=assign
 body:B.lp.body=body
def Jd(Q:Program)(kf:KF)(ps:List Nat)(base:Nat)(keep:Option (List Nat×List Nat))(asg body:S->(PX×S->Prop)->Prop)(hk:FuncId->Nat->List (Nat×(S×(PX×S)->K (PX×S×(PX×S)))))(dc:FuncId->Nat->Nat)(g:Operand)(s:S):K (PX×S):=
 match s.ev g with
 | .fn f cP=>
        match Q.funcs[f]? with
  |some fn=>match fn.body with
   |some c=>
        if fn.name== "runtime.NumGoroutine" || !fn.results.toList.isEmpty then K.fail else
    let ns:=reach s.rg 1000 cP []
    if ep ns then(match sub s.rg (toPos s.rg ns) true 0 ns with
     |some R0=>(match cA keep {s with rg:=kI s.rg ns} with
      |none=>K.fail
      |some s0=>λae=>eL Q kf ns.length (kG ps base keep asg body) (hk f ns.length) (dc f) c (⟨fn.ntmps,fK 0 (.mp ns.length 0::nb (toPos s.rg ns) cP),ins ns.length ⟨0,some ns.length,.eE⟩ R0⟩,(.normal,s0))
       (λy=>match y.1 with
        | .exit _=>False
        |_=>ae y.2.2))
     |none=>K.fail)
    else K.fail
   |none=>K.fail
  |none=>K.fail
 |_=>K.fail
variable{kp:qD}
theorem TW.rangeFunc{kf:KF}(ic:AO kf (fo Q kp))(hX:dC Q T.w0 kp.X)(hdr:Q.follows .mixedOrders=true)(hm:T.PY=true){dc:FuncId->Nat->Nat}(Nf:nX dc 0 Q.funcs.toList=true){ps:Array Tmp}{assign bd:Code}
  {base:Nat} {keep:Option (List Nat×List Nat)} {asg body:S->(PX×S->Prop)->Prop} (o9: ∀val lo s ae,asg s ae->TW Q ⟨val,T.w0,lo,false⟩ assign s ae) (cO: ∀val lo s ae,body s ae->TW Q ⟨val,T.w0,lo,false⟩ bd s ae)
  {hk:FuncId->Nat->List (Nat×(S×(PX×S)->K (PX×S×(PX×S))))}
  (hl: ∀f fn c,Q.funcs[f]?=some fn->fn.body=some c-> ∀d∈aS c,∀yt h,lk (hk f yt) (Code.sV d)=some h-> ∀(B:oo Q) (Ti:Tg),Setup B Ti yt T.w0 ps assign bd-> ∀x ae,h x ae->qJ B Ti (.loop d) x.2 x.1 ae)
  {g:Operand} {ae:PX×S->Prop} (hp:Jd Q kf ps.toList base keep asg body hk dc g s ae):TW Q T (.rangeFunc g ps assign bd) s ae:=by
 intro r uA F G w a Q' h hK;obtain rfl:=uA hm;have hv:=xP h g;unfold Jd at hp;generalize s.ev g=gp at hp hv;cases gp with
 |fn f cP=>
  simp only at hp;have hv:aH F w G s.rg (a.eval g) (.fn f cP):=hv;cases gj:Q.funcs[f]? with
  |none=>simp only[gj] at hp;exact hp.elim
  |some fn=>
  cases hc:fn.body with
  |none=>simp only[gj,hc] at hp;exact hp.elim
  |some c=>
  cases FT:(fn.name== "runtime.NumGoroutine" || !fn.results.toList.isEmpty) with
  |true=>simp only[gj,hc,FT,zba] at hp;exact hp.elim
  |false=>
  simp only[gj,hc,FT,zaz,zbk] at hp;simp only[Bool.or_eq_false_iff,zcS] at FT;obtain⟨jD,F5⟩:=FT;have F5:fn.results.toList=[]:=by simpa using F5
  generalize Fk:reach s.rg 1000 cP []=ns at hp;cases kS:ep ns with
  |false=>simp only[kS,zaz,zbk] at hp;exact hp.elim
  |true=>
  cases jZ:sub s.rg (toPos s.rg ns) true 0 ns with
  |none=>simp only[kS,zba,jZ] at hp;exact hp.elim
  |some R0=>
  simp only[kS,zba,jZ] at hp;cases hhd:cA keep {s with rg:=kI s.rg ns} with
  |none=>simp only[hhd] at hp;exact hp.elim
  |some s0=>
  simp only[hhd] at hp;generalize hval:a.eval g=gv at hv;cases hv with
  |fn _ cs _ HM jU=>
  generalize Ge:(Value.func (.yield (w.heap.size+1)) #[] #[])=yv;have iC:yv.oneCell'=true:=by subst Ge;rfl
  refine wpIn_rangeFunc λfn0 _=> ?_;obtain⟨lp,Gf⟩: ∃lp:Loop,lp={state:= .ready,pending:=none,fn:=fn0,tmps:=a.tmps,params:=ps,assign,body:=bd,defers:=w.heap.size}:=⟨_,rfl⟩
  obtain⟨W1,hW1⟩: ∃W1,(w.alloc (.deferred (some []))).alloc (.loop lp)=W1:=⟨_,rfl⟩
  have hL1:W1.heap[w.heap.size+1]?=some (.loop lp):=by rw[<-hW1];have:=World.alloc_heap_new (w.alloc (.deferred (some []))) (.loop lp);rwa [World.size_alloc] at this
  have hK1:W1.heap[w.heap.size]?=some (.deferred (some [])):=by rw[<-hW1];exact(yV _ _ (by simp)).trans (World.alloc_heap_new w _)
  have qkq:W1.heap.size=w.heap.size+2:=by rw[<-hW1];simp
  have hold: ∀b,b<w.heap.size->W1.heap[b]?=w.heap[b]?:=λb hb=>by rw[<-hW1];exact(yV _ _ (by simp;omega)).trans (yV _ _ hb)
  have Gg:W1.drawn=w.drawn/\W1.os=w.os/\W1.tape=w.tape/\W1.output=w.output:=by rw[<-hW1];exact⟨rfl,rfl,rfl,rfl⟩
  have qcL:(callFunc f (#[yv]++⟨cs⟩)).run Q W1= .ok (.enter f (#[yv]++⟨cs⟩)) W1:=by simp[callFunc,gj,hc];simpa using jD
  refine⟨w.heap.size+1,[{target:= .collected w.heap.size,args:= #[]}],W1,{target:= .fn (.func f) ⟨cs⟩,args:= #[yv]},W1,f, #[yv]++⟨cs⟩,W1,?_,?_,λ_ _=>trivial,?_,λhd=>(by cases hd),yj (lB gj hc ?_)⟩
  ·rw[<-hW1,Gf];exact run_enterLoop_outer _ _ _ _ _
  ·simp only[resolve,hval,Ge];simp[go_sem,<-Ge]
  ·simp only[invoke];simpa [go_sem] using qcL
  have pL: ∀{T':Tg} {G':Nat->Value} {a':Act} {s':S},T'.w0=T.w0->a'.defers=[]->aG Q T' F G' w a' s'->aG Q T' F G' W1 a' s':=λhw hd h'=>h'.other (λb hb=>hold b (h'.jz b hb)) (λb hb=>hold b (h'.nk hb)) (λd Ro=>by rw[hd] at Ro;cases Ro) (by omega) (by rw[hw,Gg.1];exact h.dr);obtain⟨b1,b2,b3⟩:=h.heap.sub jZ kS;simp only[zba] at b1;obtain⟨Gi,hGi⟩: ∃Gi:Nat->Value,Gi=λi=>G (ns.getD i 0):=⟨_,rfl⟩
  rw[<-hGi] at b1 b2 b3;have CT:=λj e' (hj:lk R0 j=some e')=>IL s.rg (toPos s.rg ns) true ns 0 R0 jZ j e' hj;have hyk:lk R0 ns.length=none:=by
   cases hx:lk R0 ns.length with
   |none=>rfl
   |some e=>obtain⟨n,e0,_,h2,_⟩:=CT _ _ hx;simp at h2
  obtain⟨Ti,hTi⟩: ∃Ti:Tg,Ti=⟨λi=>if i=ns.length then yv else Gi i,T.w0,0,false⟩:=⟨_,rfl⟩
  have oU:fN Q Ti F Gi w R0:=by
   subst hTi;refine⟨.nil,za5 _,λt p hp=>by simp[lk] at hp,b1.rg,b1.own,b1.mU,b1.jz,λn e i he hi hlv=> ?_,b1.z,b1.dr,za5 _⟩;have ht:=b1.tag n e i he hi hlv;obtain⟨n',e0,_,h2,_,_,rfl⟩:=CT _ _ he;simp only[zba,zam] at hi;subst hi;have:n<ns.length:=by have:=(zad.1 h2).1;omega
   show Gi n=if n=ns.length then yv else Gi n
   rw[zal (by omega)]
  obtain⟨O3,CV⟩:=(pL (by rw[hTi]) rfl oU).nL (n:=ns.length) (e1:=⟨0,some ns.length,.eE⟩) (g1:=yv) (w':=W1) (λe he=>by
   have he:lk R0 ns.length=some e:=he;rw[hyk] at he;cases he) (λ_ _ _=>rfl) (zak _) rfl rfl rfl (λb hb=>by cases hb) trivial (λi hi _=>by
    cases hi;rw[hTi];show yv=if ns.length=ns.length then yv else _
    simp)
  have Fx:(#[yv]++⟨cs⟩:Array Value)=⟨yv::cs⟩:=by apply zbr.1;simp
  rw[Fx];have cW: ∀(i:Nat) (v:Value) (p:P),(yv::cs)[i]?=some v->(P.mp ns.length 0::nb (toPos s.rg ns) cP)[i]?=some p->aH F W1 (nL Gi ns.length yv) (ins ns.length ⟨0,some ns.length,.eE⟩ R0) v p:=λi v p h1 h2=>by
   cases i with
   |zero=>simp only[List.getElem?_cons_zero,zam] at h1 h2;subst h1;subst h2;exact .mp _ _ _ iC ⟨_,bF _ _ _,zak _,λ_ _=>(bf _ _ _).symm⟩
   |succ i=>simp only[zcy] at h1 h2;rw[jA,zax] at h2;obtain⟨q,hq,rfl⟩:=h2;exact aH.mono (λ_ h=>h) (λb hb=>hold b (h.jz b hb)) (gN λe he=>by rw[hyk] at he;cases he) (oa b2 (jU i v q h1 hq))
  have hlen:(yv::cs).length=(P.mp ns.length 0::nb (toPos s.rg ns) cP).length:=by simp[jB,HM]
  have yN:aG Q Ti F (nL Gi ns.length yv) W1 {tmps:=(⟨yv::cs⟩:Array Value)++Array.replicate (fn.ntmps-(⟨yv::cs⟩:Array Value).size) undef,defers:=[]} ⟨fn.ntmps,fK 0 (.mp ns.length 0::nb (toPos s.rg ns) cP),ins ns.length ⟨0,some ns.length,.eE⟩ R0⟩:=by
   refine fN.state (R:=ins ns.length ⟨0,some ns.length,.eE⟩ R0) O3 rfl .nil (by simp;omega) (λt p hp=> ?_);obtain⟨_,h2⟩:=og _ 0 t p hp;simp only[Nat.sub_zero] at h2;have bG:t<(yv::cs).length:=by have:=(zad.1 h2).1;omega
   have e:((⟨yv::cs⟩:Array Value)++Array.replicate (fn.ntmps-(⟨yv::cs⟩:Array Value).size) undef).getD t undef=(yv::cs)[t]:=by rw[fM];simp only[Array.toList_append];rw[zaO bG,zae bG];rfl
   rw[e];exact cB.of (cW t _ p (zae bG) h2)
  obtain⟨q0,_⟩:=ou ns s h;obtain⟨G5,q1,v5⟩:=fP q0 hhd;have qbs: ∀b,Own G5 s0.rg b->Own G (kI s.rg ns) b:=λb hb=>by
   rcases v5.l4 b hb with h' |h'
   ·exact h'
   have:=q1.nk hb;omega
  have BK: ∀d∈a.defers,∃D,d={target:= .collected D,args:= #[]}/\D<w.heap.size/\ ¬Own G s.rg D:=λd hd=>by obtain⟨D,k1,_,k2,_,k3⟩:=h.r9.2 d hd;exact⟨D,k1,(zar.1 k2).1,k3⟩
  have FT: ∀b,w.heap.size<=b-> ∀d∈a.defers,d≠{target:= .collected b,args:= #[]}:=λb hb d hd e=>by
   obtain⟨D,k1,k2,_⟩:=BK d hd;rw[k1] at e;injection e with e1 e2
   injection e1 with e1
   omega
  have q2:aG Q T F G5 W1 a s0:=q1.other (λb hb=>hold b (q1.jz b hb)) (λb hb=>hold b (q1.nk hb)) (λd hd D hD=>by
   obtain⟨D',k1,k2,_⟩:=BK d hd;rw[k1] at hD;injection hD with e1 e2
   injection e1 with e1
   subst e1;exact hold _ k2) (by omega) (by rw[Gg.1];exact h.dr)
  have q3:aG Q T F G5 W1 {a with defers:={target:= .collected w.heap.size,args:= #[]}::a.defers} s0:=by
   refine⟨⟨za7.2 ⟨λhd=>FT _ (zak _) _ hd rfl,q2.r9.1⟩,λd hd=> ?_⟩,q2.size,q2.tm,q2.rg,q2.own,q2.mU,q2.jz,q2.tag,q2.z,q2.dr,q2.sz⟩;rcases zaw.1 hd with rfl |hd
   ·exact⟨_,rfl,⟨h.sz,hm⟩,hK1,λhf=>Nat.lt_irrefl _ (h.jz _ hf),λho=>Nat.lt_irrefl _ (q1.nk ho)⟩
   exact q2.r9.2 d hd
  obtain⟨B,hB⟩: ∃B:oo Q,B=⟨T,{a with defers:={target:= .collected w.heap.size,args:= #[]}::a.defers},w.heap.size+1,lp,Own G s.rg,F,W1⟩:=⟨_,rfl⟩
  have jY:Setup B Ti ns.length T.w0 ps assign bd:=by subst hB;subst hTi;subst Gf;exact⟨rfl,rfl,rfl,by show(if ns.length=ns.length then yv else _)=_;rw[zao rfl,<-Ge],⟨rfl,rfl,rfl⟩,rfl,rfl,rfl⟩
  have Fh:B.at (.normal,s0) W1 F (Own (nL Gi ns.length yv) (ins ns.length ⟨0,some ns.length,.eE⟩ R0)):=by
   subst hB;show oW Q T {a with defers:={target:= .collected w.heap.size,args:= #[]}::a.defers} (w.heap.size+1) lp (Own G s.rg) F W1 (.normal,s0) W1 F _;refine⟨by subst Gf;exact hL1,F,G5,q3,⟨λhf=>(by have:=h.jz _ hf;omega),λho=>(by have:=q1.nk ho;omega),λd hd e=> ?_⟩,λ_ h=>h,λb hb=> ?_,⟨λ_ h=>h,λ_ h=> .inl h,λb hb=> .inl ?_,λ_ _ _=>rfl,zak _,rfl,rfl,rfl⟩⟩
   ·rcases zaw.1 hd with rfl |hd
    ·injection e with e1 e2
     injection e1 with e1
     omega
    exact FT _ (by omega) d hd e
   ·have CZ:Own Gi R0 b:=by
     rcases CV.l4 b hb with h' |h'
     ·exact h'
     have:=O3.nk hb;omega
    obtain⟨n,e,h1,h2,h3⟩:=b3 b CZ;have bG:b<w.heap.size:=h.nk ⟨n,e,h2,h3⟩;refine⟨h.mU n e b h2 h3,λho=> ?_,(by show b≠w.heap.size+1;omega),.inl ⟨n,e,h2,h3⟩,λd hd e'=> ?_⟩
    ·obtain⟨m,e',k1,k2,k3⟩:=wo h (qbs _ ho);exact k1 (h.own m n e' e b k2 h2 k3 h3▸h1)
    rcases zaw.1 hd with rfl |hd
    ·injection e' with e1 e2
     injection e1 with e1
     omega
    obtain⟨D,k1,k2,k3⟩:=BK d hd;rw[k1] at e';injection e' with e1 e2
    injection e1 with e1
    subst e1;exact k3 ⟨n,e,h2,h3⟩
   obtain⟨m,e,_,k2,k3⟩:=wo h (qbs _ hb);exact⟨m,e,k2,k3⟩
  have hTW:=gP (B:=B) (Ti:=Ti) ic (by rw[jY.w0i];exact hX) hdr (jY.w0i.trans jY.w0b.symm) jY.PY jY.yv jY.lp (asg:=asg) (body:=body) (base:=base) (keep:=keep) (λval lo s ae hp=>by rw[jY.w0b,jY.asg];exact o9 val lo s ae hp) (λval lo s ae hp=>by rw[jY.w0b,jY.body];exact cO val lo s ae hp)
   (hk:=hk f ns.length) (dc:=dc f) c (kU Nf f fn c gj hc) (λd hd h' hh x ae hp=>hl f fn c gj hc d hd ns.length h' hh B Ti jY x ae hp) _ _ (by rw[jY.ps];exact hp)
  refine hTW F _ W1 _ _ yN Fh λe s1 c1 a1 w1 uC ⟨F',G',k1,k2⟩=> ?_;have Je:a1.defers=[]:=by
   cases Ro:a1.defers with
   |nil=>rfl
   |cons d ds=>obtain⟨_,_,h0,_⟩:=k1.r9.2 d (by rw[Ro];simp);rw[jY.PY] at h0;cases h0.2
  have fin:ae c1->LeavesInM Fence.wide 0 Q fn a1.tmps (rangePost (wd none) 0 Q (w.heap.size+1) Q' {a with defers:=[{target:= .collected w.heap.size,args:= #[]}]++a.defers}) a1.defers .returning w1:=λe7=>by
   rw[Je];obtain⟨us,u1,_⟩:=sr k1 (fn:=fn) (ps:=[]) (by rw[F5];rfl);refine⟨_,u1,?_⟩;subst hB;have k2:oW Q T {a with defers:={target:= .collected w.heap.size,args:= #[]}::a.defers} (w.heap.size+1) lp (Own G s.rg) F W1 c1 w1 F' (Own G' s1.rg):=k2;obtain⟨l1,F2,G2,m1,m2,m3,m4,m5⟩:=k2;refine⟨_,_,run_endLoop l1 (by simp only[Lf];split<;>simp),?_⟩;have qkr:w.heap.size+1<w1.heap.size:=(zar.1 l1).1;have final:Q' c1.1.fB {a with defers:=[{target:= .collected w.heap.size,args:= #[]}]++a.defers} (w1.putObj (w.heap.size+1) (.loop {Lf lp c1.1 with state:= .exhausted})):=by
    refine hK c1.1 c1.2 _ _ e7 ⟨F2,G2,m1.Dw m2 _,m5.ll,λb hb=> ?_,λb hb=> ?_,λb hb bX=> ?_,?_,m5.os.trans Gg.2.1,m5.tape.trans Gg.2.2.1,m5.output.trans Gg.2.2.2⟩
    ·rcases m5.nj b hb with h' |h' |h'
     ·exact .inl h'
     ·exact .inr (.inl h')
     simp at h';exact .inr (.inr (by omega))
    ·rcases m5.l4 b hb with h' |h'
     ·exact .inl h'
     simp at h';exact .inr (by omega)
    ·have h':=m5.keep b (by simp;omega) bX;rw[eV _ _ _ (by omega),eV _ _ _ (by omega)] at h';rw[eV _ _ _ (by omega),h'];exact hold b hb
    simp;omega
   obtain⟨c1x,c1s⟩:=c1;cases c1x with
   |normal=>exact final
   |exit id=>exact wpIn_exit final
   |ret=>exact wpIn_ret final
  cases e with
  |normal=>exact fin uC
  |ret=>exact fin uC
  |exit id=>exact uC.elim
 |_=>exact hp.elim
def Xs(m:S×(PX×S)->K (PX×S×(PX×S)))(keep:Option (List Nat×List Nat))(y:S×(PX×S)):K (PX×S×(PX×S)):=
 K.bind (m y) λx=>match x.1 with
  | .normal=>K.bind (K.dW (cA keep x.2.1)) λs2=>K.ret (.normal,s2,x.2.2)
  |_=>K.bind (K.dW (dJ keep x.2.1)) λs2=>K.ret (x.1,s2,x.2.2)
def Jf(n:Nat)(I:Nat->S×(PX×S)->Prop)(O:PX×S×(PX×S)->Prop)(x:PX×S×(PX×S)):Prop:=match x.1 with | .normal=> ∃m,m<n/\I m x.2 |_=>O x
def ey(keep:Option (List Nat×List Nat))(g:S×(PX×S)->K (PX×S×(PX×S))):S×(PX×S)->K (PX×S×(PX×S)):=λy ae=>match cA keep y.1 with |some s0=>g (s0,y.2) ae |none=>False
end
end Pi
