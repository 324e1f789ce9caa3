/- The text PiY. -/
import Derived.Test.YtngoddkencoalaaGreatDoorPiRf
namespace Pi
open Go
def KG(rec:Loop)(x:PX):Loop:={rec with state:=if(PX.jump x).isNone then .ready else .done,pending:=PX.jump x}
section
variable{Q:Program}{T Ti:Tg}{F:Nat->Prop}{G:Nat->Value}{w:World}{a:Act}{s:S}
theorem aD.other(h:aD Q T F G w a s){w':World}(hF: ∀b,F b->w'.heap[b]?=w.heap[b]?)(hO: ∀b,Own G s.rg b->w'.heap[b]?=w.heap[b]?)(hm: ∀d∈a.defers,∀D,d={target:= .collected D,args:= #[]}->w'.heap[D]?=w.heap[D]?)
  (dt:w.heap.size<=w'.heap.size) (hd:T.w0.drawn<=w'.drawn):aD Q T F G w' a s:=by
 refine⟨⟨h.rp.1,λd hd=> ?_⟩,h.size,λt p hp=>cx.mono (λ_ h=>h) hF (Names.refl _ _) (h.tm t p hp),
  λn e he=>(h.rg n e he).mono (λ_ h=>h) hF (Names.refl _ _) rfl (λb hb=>hO b ⟨n,e,he,hb⟩),h.own,h.my,λb hb=>za4 (h.ji b hb) dt,h.tag,
  λb hb=>⟨(h.z b hb).1,(hF b (h.z b hb).1).trans (h.z b hb).2⟩,hd,zaI h.sz dt⟩
 obtain⟨D,h1,h0,h2,h3,h4⟩:=h.rp.2 d hd;grind
theorem aD.qh0(h:aD Q T F G w a s){F':Nat->Prop}(hF: ∀b,F b->F' b)(hn: ∀b,F' b->F b\/(¬Own G s.rg b/\b<w.heap.size/\ ∀d∈a.defers,d≠{target:= .collected b,args:= #[]})):aD Q T F' G w a s:=by
 refine⟨⟨h.rp.1,λd hd=> ?_⟩,h.size,λt p hp=>cx.mono hF (λ_ _=>rfl) (Names.refl _ _) (h.tm t p hp),
  λn e he=>(h.rg n e he).mono hF (λ_ _=>rfl) (Names.refl _ _) rfl (λb hb=>rfl),h.own,λn e b he hb hf=> ?_,λb hb=> ?_,h.tag,
  λb hb=>⟨hF b (h.z b hb).1,(h.z b hb).2⟩,h.dr,h.sz⟩
 ·obtain⟨D,h1,h0,h2,h3,h4⟩:=h.rp.2 d hd;grind
 ·rcases hn b hf with h5 | ⟨h5,_⟩
  ·exact h.my n e b he hb h5
  exact h5 ⟨n,e,he,hb⟩
 rcases hn b hb with h5 | ⟨_,h5,_⟩
 ·exact h.ji b h5
 exact h5
def oo(Q:Program)(T:Tg)(a:Act)(l:Nat)(rec:Loop)(own0 F0:Nat->Prop)(W0:World)(c:PX×S)(W:World)(ZF ZO:Nat->Prop):Prop:=
 W.heap[l]?=some (.loop (KG rec c.1))/\ ∃F G,aD Q T F G W a c.2/\q5 F G c.2.rg a.defers l/\(∀b,ZF b->F b)/\
  (∀b,ZO b-> ¬F b/\ ¬Own G c.2.rg b/\b≠l/\(own0 b\/W0.heap.size<=b)/\ ∀d∈a.defers,d≠{target:= .collected b,args:= #[]})/\
  Ext own0 (Own G c.2.rg) F0 F (W0.putObj l (.deferred none)) (W.putObj l (.deferred none))
theorem oo.step{l:Nat}{rec:Loop}{own0 F0:Nat->Prop}{W0 W W':World}{c:PX×S}{ZF ZO ZF' ZO':Nat->Prop}(h:oo Q T a l rec own0 F0 W0 c W ZF ZO)(hx:Ext ZO ZO' ZF ZF' W W')(hd:T.w0.drawn<=W'.drawn)(hb: ∀b,ZF' b->b<W'.heap.size)(qh1: ∀b,ZO' b-> ¬ZF' b):
  oo Q T a l rec own0 F0 W0 c W' ZF' ZO':=by
 obtain⟨hl,F,G,h1,h2,h3,h4,h5⟩:=h;have bI:l<W.heap.size:=(zar.1 hl).1;have hlZ: ¬ZO l:=λhz=>(h4 l hz).2.2.1 rfl;have hs0:W0.heap.size<=W.heap.size:=by simpa using h5.size
 have g1:aD Q T F G W' a c.2:=h1.other (λb hb=>hx.keep b (h1.ji b hb) λhz=>(h4 b hz).1 hb) (λb hb=>hx.keep b (h1.mI hb) λhz=>(h4 b hz).2.1 hb)
  (λd QA D hD=>by
   obtain⟨D',k1,_,k2,_⟩:=h1.rp.2 d QA;rw[k1] at hD;injection hD with e1 e2
   injection e1 with e1
   subst e1;exact hx.keep D' (zar.1 k2).1 λhz=>(h4 D' hz).2.2.2.2 d QA k1) hx.size hd
 have fY: ∀b,ZF' b->F b\/(¬Own G c.2.rg b/\b<W'.heap.size/\ ∀d∈a.defers,d≠{target:= .collected b,args:= #[]}):=λb hz=>by
  rcases hx.mH b hz with h |h |h
  ·grind
  ·grind
  refine .inr ⟨λho=> ?_,hb b hz,λd QA e=> ?_⟩
  ·have:=h1.mI ho;omega
  obtain⟨D',k1,_,k2,_⟩:=h1.rp.2 d QA;grind
 refine⟨(hx.keep l bI hlZ).trans hl,λb=>F b\/ZF' b,G,g1.qh0 (λ_ h=> .inl h) (λb dj=>dj.elim .inl (fY b)),⟨λhf=> ?_,h2.2⟩,λ_ h=> .inr h,λb hz=> ?_,?_⟩
 ·rcases hf with hf |hf
  ·exact h2.1 hf
  rcases hx.mH l hf with h |h |h
  ·exact h2.1 (h3 l h)
  ·exact hlZ h
  omega
 ·rcases hx.lH b hz with h |h
  ·grind
  refine⟨λhf=>hf.elim (λhf=>by have:=h1.ji b hf;omega) (qh1 b hz),λho=>(by have:=h1.mI ho;omega),λe=>(by omega),.inr (by omega),λd QA e=> ?_⟩;obtain⟨D',k1,_,k2,_⟩:=h1.rp.2 d QA;grind
 have e0:(W0.putObj l (.deferred none)).heap.size=W0.heap.size:=by simp
 refine⟨λb hf=> .inl (h5.kN b hf),λb hf=> ?_,h5.lH,λb qh2 b7=> ?_,?_,hx.os.trans h5.os,hx.tape.trans h5.tape,hx.output.trans h5.output⟩
 ·rcases hf with hf |hf
  ·exact h5.mH b hf
  rcases hx.mH b hf with h |h |h
  ·exact h5.mH b (h3 b h)
  ·grind
  grind
 ·rw[<-h5.keep b qh2 b7];by_cases Vk:b=l
  ·subst Vk;rw[World.putObj_heap_same (za4 bI hx.size),World.putObj_heap_same bI]
  rw[eS _ _ _ Vk,eS _ _ _ Vk];refine hx.keep b (by omega) λhz=> ?_;grind
 have e1:(W'.putObj l (.deferred none)).heap.size=W'.heap.size:=by simp
 rw[e0,e1];exact zaI hs0 hx.size
theorem oo.round{l:Nat}{rec:Loop}{own0 F0:Nat->Prop}{W0:World}{c:S}{Fi:Nat->Prop}{Gi:Nat->Value}{ai:Act}{si:S}(hlr:rec.state= .ready/\rec.pending=none/\rec.tmps=a.tmps)(hTi:Ti.w0=T.w0)(A4:Ti.O9=false)
  (h:oo Q T a l rec own0 F0 W0 (.normal,c) w Fi (Own Gi si.rg)) (hi:aD Q Ti Fi Gi w ai si) {base:Nat} {keep:Option (List Nat×List Nat)} {asg body:S->(PX×S->Prop)->Prop}
  (oE: ∀val lo s ae,asg s ae->TW Q ⟨val,T.w0,lo,false⟩ rec.assign s ae) (cG: ∀val lo s ae,body s ae->TW Q ⟨val,T.w0,lo,false⟩ rec.body s ae) {m:Nat} {vs:List Value} {args:List D} (hlen:vs.length=args.length) (qQ:vs.length=rec.params.size)
  (hv: ∀(i:Nat) (v:Value) (x:D),vs[i]?=some v->args[i]?=some x->a8 Fi w v x) {ae:PX×S->Prop} (hp:ke rec.params.toList base keep asg body c (args.map .d) ae):
  YieldAt (wd none) m Q l ⟨vs⟩ w (λe w'=> ∃x s',ae (x,s')/\e= .returned (.bool (PX.jump x).isNone)/\oo Q T a l rec own0 F0 W0 (x,s') w' Fi (Own Gi si.rg)/\aD Q Ti Fi Gi w' ai si):=by
 obtain⟨hl,F,G,h1,h2,h3,h4,h5⟩:=h;have Qq:KG rec .normal=rec:=by obtain⟨e1,e2,_⟩:=hlr;cases rec;subst e1;subst e2;rfl
 rw[Qq] at hl;obtain⟨fn,tmps,qbZ,body',y1,y2⟩:=Qz (m:=m) hl hlr.1 hlr.2.2 h2 h1 oE cG hlen qQ (λi v x hvv hx=>(hv i v x hvv hx).up h3) hp;refine⟨fn,tmps,qbZ,body',y1,y2.mono ?_⟩;rintro e w' ⟨x,s',p1,p2,p3,F',G',p4,p5,p6⟩;have q0: ∀b,b<w.heap.size->b≠l-> ¬Own G c.rg b->w'.heap[b]?=w.heap[b]?:=λb hb Vk b7=>by have:=p6.keep b (by simpa using hb) b7;rwa [eS _ _ _ Vk,eS _ _ _ Vk] at this
 have dt:w.heap.size<=w'.heap.size:=by simpa using p6.size
 refine⟨x,s',p1,p2,⟨p3,F',G',p4,p5,λb hb=>p6.kN b (h3 b hb),λb hb=>⟨λhf=> ?_,λho=> ?_,(h4 b hb).2.2⟩,h5.trans p6⟩,?_⟩
 ·rcases p6.mH b hf with h |h |h
  ·grind
  ·grind
  have:=hi.mI hb;simp at h;omega
 ·rcases p6.lH b ho with h |h
  ·grind
  have:=hi.mI hb;simp at h;omega
 refine hi.other (λb hb=>q0 b (hi.ji b hb) (λe=>h2.1 (e▸h3 b hb)) λ⟨n,e,he,hob⟩=>h1.my n e b he hob (h3 b hb)) (λb hb=>q0 b (hi.mI hb) (h4 b hb).2.2.1 (h4 b hb).2.1) (λd hd D hD=> ?_) dt (by rw[hTi];exact p4.dr);obtain⟨_,_,h0,_⟩:=hi.rp.2 d hd;rw[A4] at h0;cases h0.2
structure nN(Q:Program) where
 T:Tg
 a:Act
 l:Nat
 lp:Loop
 own0:Nat->Prop
 F0:Nat->Prop
 W0:World
def nN.at(B:nN Q)(c:PX×S)(W:World)(ZF ZO:Nat->Prop):Prop:=oo Q B.T B.a B.l B.lp B.own0 B.F0 B.W0 c W ZF ZO
def qd(B:nN Q)(Ti:Tg)(code:Code)(c:PX×S)(s:S)(ae:PX×S×(PX×S)->Prop):Prop:=
 ∀(F:Nat->Prop) (G:Nat->Value) (w:World) (a:Act) (Q':Exit->Act->World->Prop),aD Q Ti F G w a s->B.at c w F (Own G s.rg)->
  (∀e s' c' a' w',ae (e,s',c')->(∃F' G',aD Q Ti F' G' w' a' s'/\B.at c' w' F' (Own G' s'.rg))->Q' e.fq a' w')->code.wpIn (wd none) 0 Q Q' a w
theorem wF{B:nN Q}{c:PX×S}{F':Nat->Prop}{G':Nat->Value}{w':World}{a':Act}{s':S}(hT:Ti.w0=B.T.w0)(h:B.at c w F (Own G s.rg))(h1:aD Q Ti F' G' w' a' s')(hx:Ext (Own G s.rg) (Own G' s'.rg) F F' w w'):B.at c w' F' (Own G' s'.rg):=
 oo.step h hx (hT▸h1.dr) h1.ji λb ⟨n,e,he,hb⟩ hf=>h1.my n e b he hb hf
variable{B:nN Q}{c:PX×S}{code:Code}
theorem qd.lift(hT:Ti.w0=B.T.w0){p:PX×S->Prop}(h:TW Q Ti code s p):qd B Ti code c s (λx=>p (x.1,x.2.1)/\x.2.2=c):=λF G w a Q' hs hj hK=>h (λ_=>rfl) F G w a Q' hs λe s' a' w' hp ⟨F',G',h1,h2⟩=>hK e s' c a' w' ⟨hp,rfl⟩ ⟨F',G',h1,wF hT hj h1 h2⟩
theorem qd.mono{p q:PX×S×(PX×S)->Prop}(h:qd B Ti code c s p)(Pn: ∀x,p x->q x):qd B Ti code c s q:=λF G w a Q' hs hj hK=>h F G w a Q' hs hj λe s' c' a' w' hp=>hK e s' c' a' w' (Pn _ hp)
theorem qd.seq{x y:Code}{p ae:PX×S×(PX×S)->Prop}(h1:qd B Ti x c s p)(h2: ∀s1 c1,p (.normal,s1,c1)->qd B Ti y c1 s1 ae)(h3: ∀e s1 c1,e≠ .normal->p (e,s1,c1)->ae (e,s1,c1)):qd B Ti (.seq x y) c s ae:=λF G w a Q' hs hj hK=>by
 refine wpIn_seq (h1 F G w a _ hs hj λe s1 c1 a1 w1 hp hP=> ?_);cases e with
 |normal=>obtain⟨F1,G1,g1,g2⟩:=hP;exact h2 s1 c1 hp F1 G1 w1 a1 Q' g1 g2 hK
 |exit id=>exact hK _ s1 c1 a1 w1 (h3 _ _ _ (by simp) hp) hP
 |ret=>exact hK _ s1 c1 a1 w1 (h3 _ _ _ (by simp) hp) hP
theorem qd.cond{k:Operand}{x y:Code}{b:Bool}{ae:PX×S×(PX×S)->Prop}(hb:s.ev k= .d (.bool b))(h:qd B Ti (if b then x else y) c s ae):qd B Ti (.cond k x y) c s ae:=λF G w a Q' hs hj hK=>by
 have hv:a.eval k= .bool b:=by have:=w8 hs k;rw[hb] at this;exact aF.cA (p:= .d (.bool b)) this rfl
 refine wpIn_cond hv ?_;cases b with
 |true=>exact h F G w a Q' hs hj hK
 |false=>exact h F G w a Q' hs hj hK
theorem qd.block{id:Nat}{x:Code}{p ae:PX×S×(PX×S)->Prop}(h:qd B Ti x c s p)(hp: ∀e s1 c1,p (e,s1,c1)->match e with | .exit o6=>if Nat.beq o6 id then ae (.normal,s1,c1) else ae (.exit o6,s1,c1)|e=>ae (e,s1,c1)):qd B Ti (.block id x) c s ae:=λF G w a Q' hs hj hK=>by
 refine wpIn_block (h F G w a _ hs hj λe s1 c1 a1 w1 wE hP=> ?_);have hq:=hp e s1 c1 wE;cases e with
 |normal=>exact hK _ s1 c1 a1 w1 hq hP
 |ret=>exact hK _ s1 c1 a1 w1 hq hP
 |exit o6=>
  simp only at hq;by_cases hid:o6=id
  ·subst hid;rw[zao (by simp)] at hq;simp only[PX.fq,Exit.inBlock,zbb];exact hK _ s1 c1 a1 w1 hq hP
  rw[zam (by simpa using hid)] at hq;simp only[PX.fq,Exit.inBlock,hid,zbj];exact hK _ s1 c1 a1 w1 hq hP
theorem qd.scope{x:Code}{ae:PX×S×(PX×S)->Prop}(h:qd B Ti x c s ae):qd B Ti (.scope x) c s ae:=λF G w a Q' hs hj hK=>by refine fU (h F G w a _ hs hj λe s1 c1 a1 w1 hp hP=> ?_);have:=hK e s1 c1 a1 w1 hp hP;cases e<;>simpa [PX.fq,Exit.noGoto] using this
theorem wG(hT:Ti.w0=B.T.w0){keep:Option (List Nat×List Nat)}{s0:S}(hj:B.at c w F (Own G s.rg))(hs:aD Q Ti F G w a s)(h:cw keep s=some s0): ∃G0,aD Q Ti F G0 w a s0/\B.at c w F (Own G0 s0.rg):=by grind [fG,wF]
theorem qd.loop(hT:Ti.w0=B.T.w0){x:Code}{keep:Option (List Nat×List Nat)}{I:Nat->S->PX×S->Prop}{O:PX×S×(PX×S)->Prop}
  (hr: ∀n s c,I n s c->qd B Ti x c s (λy=>match y.1 with | .normal=> ∃s2,cw keep y.2.1=some s2/\ ∃m,m<n/\I m s2 y.2.2 |e=> ∃s2,dC keep y.2.1=some s2/\O (e,s2,y.2.2)))
  {n:Nat} {s0:S} (h0:cw keep s=some s0) (hI:I n s0 c):qd B Ti (.loop x) c s O:=λF G w a Q' hs hj hK=>by
 obtain⟨G0,g1,g2⟩:=wG hT hj hs h0;have key: ∀(N n:Nat) (s:S) (c:PX×S),n<N->I n s c-> ∀(F:Nat->Prop) (G:Nat->Value) (w:World) (a:Act),aD Q Ti F G w a s->B.at c w F (Own G s.rg)->Code.roundsIn (wd none) 0 Q x Q' N a w:=by
  intro N
  induction N with
  |zero=>simp
  |succ N ih=>
   intro n s c hn hI F G w a hs hj;refine hr n s c hI F G w a _ hs hj λe s1 c1 a1 w1 hp hP=> ?_;obtain⟨F1,G1,k1,k2⟩:=hP;cases e with
   |normal=>obtain⟨s2,h2,m,hm,hi⟩:=hp;obtain⟨G2,m1,m2⟩:=wG hT k2 k1 h2;exact ih m s2 c1 (by omega) hi F1 G2 w1 a1 m1 m2
   |exit id=>obtain⟨s2,h2,hO⟩:=hp;obtain⟨G2,m1,m2⟩:=wG (keep:=keep.map λl=>(l.2,l.2)) hT k2 k1 (by cases keep<;>exact h2);exact hK _ s2 c1 a1 w1 hO ⟨F1,G2,m1,m2⟩
   |ret=>obtain⟨s2,h2,hO⟩:=hp;obtain⟨G2,m1,m2⟩:=wG (keep:=keep.map λl=>(l.2,l.2)) hT k2 k1 (by cases keep<;>exact h2);exact hK _ s2 c1 a1 w1 hO ⟨F1,G2,m1,m2⟩
 exact wpIn_loop_rounds (n+1) (key (n+1) n s0 c (by omega) hI F G0 w a g1 g2)
def yieldOf(yt:Nat)(s:S)(o:Oper):Option (List D):=
 match gy o,o.guard with
 |some (f,xs),none=>match s.ev f with
  | .mp y v=>match lk s.rg y with
   |some e=>match e.obj,e.tag with
    | .ew,some i=>if Nat.beq e.aY v&&Nat.beq i yt then zJ (xs.map s.ev) else none
    |_,_=>none
   |none=>none
  |_=>none
 |_,_=>none
def nO(Q:Program)(kf:KF)(yt:Nat)(ry:S->List P->(PX×S->Prop)->Prop)(ops:List Oper):List Oper->List (Nat×Bool)->S×(PX×S)->(S×(PX×S)->Prop)->Prop
 | [],_,x,ae=>ae x
 |o::l,kn,x,ae=>match pB o with
  |some it=>Bd Q x.1 o.dst ((x.1.ev it).under none) λs1=>s1.force λs1=>nO Q kf yt ry ops l [] (s1,x.2) ae
  |none=>match yieldOf yt x.1 o with
  |some ds=>(match x.2.1 with
   | .normal=>ry x.2.2 (ds.map .d) λy=>match x.1.put o.dst (.d (.bool (PX.jump y.1).isNone)) with
    |some s1=>nO Q kf yt ry ops l [] (s1,y) ae
    |none=>False
   |_=>False)
  |none=>AH Q kf ops kn x.1 o λz=>z.1.force λs1=>nO Q kf yt ry ops l z.2 (s1,x.2) ae
theorem ye: ∀(ts:List Nat) (ps:List P) (s s1:S),kZ s ts ps=some s1->ts.length=ps.length
 | [],[],_,_,_=>rfl
 | [],_::_,s,s1,h=>by simp[kZ] at h
 |_::_,[],s,s1,h=>by simp[kZ] at h
 |t::ts,p::ps,s,s1,h=>by
  simp only[kZ] at h;split at h
  ·simp[ye ts ps _ _ h]
  cases h
theorem Ft{ps:List Nat}{base:Nat}{keep:Option (List Nat×List Nat)}{asg body:S->(PX×S->Prop)->Prop}{s:S}{args:List P}{ae:PX×S->Prop}(h:ke ps base keep asg body s args ae):ps.length=args.length:=by grind [ke,ye]
theorem Fu: ∀(ps:List P) (ds:List D),zJ ps=some ds->ps=ds.map .d
 | [],ds,h=>by grind [zJ]
 |p::ps,ds,h=>by
  cases p<;>simp only[zJ] at h<;>try (cases h;done)
  split at h
  next x xs hx=>simp at h;subst h;simp[Fu ps xs hx]
  cases h
theorem nP{kf:KF}{cf:Nat->Nat->CF}(hQ:z8 kf cf)(jl: ∀a b,du Q Ti.w0 (cf a b))(hT:Ti.w0=B.T.w0)(A4:Ti.O9=false){yt:Nat}(Fv:Ti.val yt= .func (.yield B.l) #[] #[])(Fw:B.lp.state= .ready/\B.lp.pending=none/\B.lp.tmps=B.a.tmps)
  {base:Nat} {keep:Option (List Nat×List Nat)} {asg body:S->(PX×S->Prop)->Prop} (oE: ∀val lo s ae,asg s ae->TW Q ⟨val,B.T.w0,lo,false⟩ B.lp.assign s ae) (cG: ∀val lo s ae,body s ae->TW Q ⟨val,B.T.w0,lo,false⟩ B.lp.body s ae)
  {ops:List Oper} {Q':Exit->Act->World->Prop} {ae:S×(PX×S)->Prop}: ∀(l:List Oper) (kn:List (Nat×Bool)) (F:Nat->Prop) (G:Nat->Value) (w:World) (a:Act) (s:S) (c:PX×S),jP kn s->aD Q Ti F G w a s->B.at c w F (Own G s.rg)->
  nO Q kf yt (ke B.lp.params.toList base keep asg body) ops l kn (s,c) ae->(∀s' c' a' w',ae (s',c')->(∃F' G',aD Q Ti F' G' w' a' s'/\B.at c' w' F' (Own G' s'.rg))->Q' .normal a' w')->wpListIn (wd none) 0 Q ops.toArray Q' l a w
 | [],kn,F,G,w,a,s,c,_,h,hj,hp,hK=>by unfold nO at hp;exact hK s c a w hp ⟨F,G,h,hj⟩
 |o::l,kn,F,G,w,a,s,c,dQ,h,hj,hp,hK=>by
  unfold nO at hp;split at hp
  next it ho=>
   have Kq:o.guard=none:=by
    unfold pB at ho;split at ho
    ·simp_all
    cases ho
   simp only[S.force_eq] at hp;have:o.wpIn (wd none) 0 Q a w (wpListIn (wd none) 0 Q ops.toArray Q' l) Q':=KD h ho hp λs1 a1 w1 wE ⟨F1,G1,g1,g2⟩=>nP hQ jl hT A4 Fv Fw oE cG l _ F1 G1 w1 a1 s1 c (jP.nil s1) g1 (wF hT hj g1 g2) wE hK;exact fo (by rw[zao (by simp[Region.wanted,Kq])];exact this)
  split at hp
  next ds hy=>
   split at hp
   ·rename_i Aa;unfold yieldOf at hy;split at hy
    ·rename_i f xs lS Kq;split at hy
     ·rename_i y v hfe;split at hy
      ·rename_i e he;split at hy
       ·rename_i i bV hei;split at hy
        ·rename_i fh;have dR:e.aY=v:=by simp_all
         have hi:i=yt:=by simp_all
         subst hi;have hG:G y= .func (.yield B.l) #[] #[]:=by rw[h.tag y e i he hei (by rw[bV];rfl)];exact Fv
         have hval:a.eval f= .func (.yield B.l) #[] #[]:=by
          have:=w8 h f;rw[hfe] at this;generalize a.eval f=u at this;cases this with
          |mp _ _ _ h1 hr=>rw[<-hG];exact hr.at he dR (by rw[bV];rfl)
         unfold gy at lS;split at lS
         ·rename_i cl sB;split at lS
          ·rename_i f' kS;obtain⟨rfl,rfl⟩:=lS;have cP:=Fu _ _ hy;have hlen:(cl.args.toList.map a.eval).length=ds.length:=by have:=congrArg List.length cP;grind
           have jI:c=(.normal,c.2):=by rw[<-Aa]
           have Kn:oo Q B.T B.a B.l B.lp B.own0 B.F0 B.W0 (.normal,c.2) w F (Own G s.rg):=by rw[<-jI];exact hj
           have qQ:(cl.args.toList.map a.eval).length=B.lp.params.size:=by have:=Ft hp;simp at this;rw[hlen,<-this]
           obtain⟨fn,tmps,qbZ,body',y1,y2⟩:=oo.round (m:=0-1) (vs:=cl.args.toList.map a.eval) Fw hT A4 Kn h oE cG hlen qQ (λj u x hu hx=>by
            rw[zaJ,zaw] at hu;obtain⟨z,hz,rfl⟩:=hu;have hzz:=w8 h z;have:s.ev z= .d x:=by have e1:=congrArg (λl=>l[j]?) cP;grind
            rw[this] at hzz;generalize a.eval z=u at hzz⊢;cases hzz with
            |d hd=>exact hd) hp
           have this:o.wpIn (wd none) 0 Q a w (wpListIn (wd none) 0 Q ops.toArray Q' l) Q':=by
            refine sH (λc' qV=>by rw[sB] at qV;cases qV) ?_;have bX:(execOp a.eval o).run Q w= .ok (.round B.l fn tmps qbZ body') w:=by
             have e:cl.args.map a.eval=⟨cl.args.toList.map a.eval⟩:=by grind
             rw[<-y1,<-e];simp[execOp,sB,resolve,kS,hval,Deferred.ofValue,invoke]
            rw[bX];refine⟨λh=>(by cases h),y2.mono ?_⟩;rintro e' w' ⟨x,s',p1,rfl,p3,p4⟩;split at p1
            next s1 r8=>obtain⟨c1,c2⟩:=cz p4 r8 (v:= .bool (PX.jump x).isNone) (cx.of (.d (.bool _)));exact nP hQ jl hT A4 Fv Fw oE cG l [] F G w' _ s1 (x,s') (jP.nil s1) c1 (by rw[c2];exact p3) p1 hK
            grind
           exact fo (by rw[zao (by simp[Region.wanted,Kq])];exact this)
          grind
         grind
        cases hy
       cases hy
      cases hy
     cases hy
    cases hy
   grind
  obtain⟨x,⟨hx,hk⟩,wE⟩:=sN hQ dQ _ hp;rw[S.force_eq] at wE;obtain⟨i,j,hx⟩:=hx.some;have kO:=kz (r:=none) (jl i j) h hx (K:=wpListIn (wd none) 0 Q ops.toArray Q' l) (Q':=Q') (λa' w' ⟨F',G',g1,g2⟩=>nP hQ jl hT A4 Fv Fw oE cG l _ F' G' w' a' x.1 c hk g1 (wF hT hj g1 g2) wE hK);exact fo kO
def eF(Q:Program)(kf:KF)(yt:Nat)(ry:S->List P->(PX×S->Prop)->Prop)(hk:List (Nat×(S×(PX×S)->K (PX×S×(PX×S)))))(dc:Nat->Nat):Code->S×(PX×S)->K (PX×S×(PX×S))
 | .skip,x=>K.ret (.normal,x)
 | .label _,x=>K.ret (.normal,x)
 | .region id ops draw,x=>if draw then K.bind (Er Q kf ops.toList (dc id) x.1) λs1=>K.ret (.normal,s1,x.2) else K.bind (nO Q kf yt ry ops.toList ops.toList [] x) λy=>K.ret (.normal,y)
 | .seq a b,x=>K.bind (eF Q kf yt ry hk dc a x) λy=>match y.1 with
  | .normal=>eF Q kf yt ry hk dc b y.2
  |_=>K.ret y
 | .cond c a b,x=>match x.1.ev c with
  | .d (.bool t)=>K.bind (K.dec t) λr=>if r then eF Q kf yt ry hk dc a x else eF Q kf yt ry hk dc b x
  |_=>K.fail
 | .block id c,x=>K.bind (eF Q kf yt ry hk dc c x) λy=>match y.1 with
  | .exit o6=>if Nat.beq o6 id then K.ret (.normal,y.2) else K.ret y
  |_=>K.ret y
 | .loop c,x=>match lk hk (Code.r5 c) with
  |some h=>h x
  |none=>K.fail
 | .scope c,x=>eF Q kf yt ry hk dc c x
 | .exit id,x=>K.ret (.exit id,x)
 | .ret,x=>K.ret (.ret,x)
 |_,_=>K.fail
variable{kp:pZ}
theorem gJ{kf:KF}(hQ:z8 kf (ff Q kp))(hX:du Q Ti.w0 kp.X)(hdr:Q.follows .mixedOrders=true)(hT:Ti.w0=B.T.w0)(A4:Ti.O9=false){yt:Nat}(Fv:Ti.val yt= .func (.yield B.l) #[] #[])(Fw:B.lp.state= .ready/\B.lp.pending=none/\B.lp.tmps=B.a.tmps)
  {base:Nat} {keep:Option (List Nat×List Nat)} {asg body:S->(PX×S->Prop)->Prop} (oE: ∀val lo s ae,asg s ae->TW Q ⟨val,B.T.w0,lo,false⟩ B.lp.assign s ae) (cG: ∀val lo s ae,body s ae->TW Q ⟨val,B.T.w0,lo,false⟩ B.lp.body s ae)
  {hk:List (Nat×(S×(PX×S)->K (PX×S×(PX×S))))} {dc:Nat->Nat}: ∀(code:Code),b8 dc code=true->
  (∀d∈aS code,∀h,lk hk (Code.r5 d)=some h-> ∀x ae,h x ae->qd B Ti (.loop d) x.2 x.1 ae)-> ∀(x:S×(PX×S)) (ae:PX×S×(PX×S)->Prop),eF Q kf yt (ke B.lp.params.toList base keep asg body) hk dc code x ae->qd B Ti code x.2 x.1 ae
 | .skip,_,_,x,ae,hp=>λF G w a Q' hs hj hK=>wpIn_skip (hK .normal x.1 x.2 a w hp ⟨F,G,hs,hj⟩)
 | .label _,_,_,x,ae,hp=>λF G w a Q' hs hj hK=>wpIn_label (hK .normal x.1 x.2 a w hp ⟨F,G,hs,hj⟩)
 | .region id ops draw,hl,_,x,ae,hp=>by
  have jl: ∀a b,du Q Ti.w0 (ff Q kp a b):=λa b=>sQ hX hdr b;unfold eF at hp;cases draw with
  |true=>obtain⟨s1,h1,hp⟩:=xV hQ (zaf (by simpa [b8] using hl)) _ hp;obtain⟨i,j,h1⟩:=h1.some;refine qd.mono (qd.lift hT (TW.of_run (kp:=λ_=>none) (lf:=0) (jl i j) hdr (x:=(.normal,s1)) (by grind [bB]) (ae:=λy=>ae (y.1,y.2,x.2)) hp)) ?_;simp
  |false=>exact λF G w a Q' hs hj hK=>wpIn_region_list (by simpa using nP hQ jl hT A4 Fv Fw oE cG ops.toList [] F G w a x.1 x.2 (jP.nil x.1) hs hj hp λs' c' a' w' qQ hP=>hK .normal s' c' a' w' qQ hP)
 | .seq a b,hl,hh,x,ae,hp=>by
  unfold eF at hp;have G9:b8 dc a=true/\b8 dc b=true:=by simpa [b8] using hl
  refine qd.seq (gJ hQ hX hdr hT A4 Fv Fw oE cG a G9.1 (λd hd=>hh d (by simp[aS,hd])) x _ hp) (λs1 c1 h1=>gJ hQ hX hdr hT A4 Fv Fw oE cG b G9.2 (λd hd=>hh d (by simp[aS,hd])) (s1,c1) ae h1) λe s1 c1 he h1=> ?_;cases e with
  |normal=>grind
  |exit id=>exact h1
  |ret=>exact h1
 | .cond k a b,hl,hh,x,ae,hp=>by
  unfold eF at hp;have G9:b8 dc a=true/\b8 dc b=true:=by simpa [b8] using hl
  have hbx: ∃b,x.1.ev k= .d (.bool b):=by
   cases hb:x.1.ev k with
   |d y=>
    cases y with
    |bool b=>simp
    |_=>simp only[hb] at hp;exact hp.elim
   |_=>simp only[hb] at hp;exact hp.elim
  obtain⟨t,hb⟩:=hbx;simp only[hb] at hp;refine qd.cond hb ?_;cases t with
  |true=>exact gJ hQ hX hdr hT A4 Fv Fw oE cG a G9.1 (λd hd=>hh d (by simp[aS,hd])) x ae hp
  |false=>exact gJ hQ hX hdr hT A4 Fv Fw oE cG b G9.2 (λd hd=>hh d (by simp[aS,hd])) x ae hp
 | .block id k,hl,hh,x,ae,hp=>by
  unfold eF at hp;refine qd.block (gJ hQ hX hdr hT A4 Fv Fw oE cG k hl (λd hd=>hh d (by simpa [aS] using hd)) x _ hp) λe s1 c1 h1=> ?_;cases e with
  |normal=>exact h1
  |ret=>exact h1
  |exit o6=>
   simp only at h1⊢;split
   next h=>rw[zao h] at h1;exact h1
   rename_i h;rw[zam h] at h1;exact h1
 | .loop k,hl,hh,x,ae,hp=>by
  cases Wv:lk hk (Code.r5 k) with
  |some h=>simp_all [eF,aS]
  |none=>simp only[eF,Wv] at hp;exact hp.elim
 | .scope k,hl,hh,x,ae,hp=>by unfold eF at hp;exact qd.scope (gJ hQ hX hdr hT A4 Fv Fw oE cG k hl (λd hd=>hh d (by simpa [aS] using hd)) x ae hp)
 | .exit id,_,_,x,ae,hp=>λF G w a Q' hs hj hK=>wpIn_exit (hK (.exit id) x.1 x.2 a w hp ⟨F,G,hs,hj⟩)
 | .ret,_,_,x,ae,hp=>λF G w a Q' hs hj hK=>wpIn_ret (hK .ret x.1 x.2 a w hp ⟨F,G,hs,hj⟩)
 | .rangeFunc _ _ _ _,_,_,x,ae,hp=>by unfold eF at hp;exact hp.elim
 | .goto _,_,_,x,ae,hp=>by unfold eF at hp;exact hp.elim
 | .refuse _,_,_,x,ae,hp=>by unfold eF at hp;exact hp.elim
end
end Pi
