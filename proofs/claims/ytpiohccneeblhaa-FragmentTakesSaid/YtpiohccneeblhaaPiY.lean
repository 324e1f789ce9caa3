/- The text PiY. -/
import Derived.Test.YtpiohccneeblhaaPiRf
namespace Pi
open Go
def zi(rec:Loop)(x:PX):Loop:={rec with state:=if(PX.jump x).isNone then .ready else .done,pending:=PX.jump x}
section
variable{Q:Program}{T Ti:Tg}{F:Nat->Prop}{G:Nat->Value}{w:World}{a:Act}{s:S}
theorem aq.other(h:aq Q T F G w a s){w':World}(hF: ∀b,F b->w'.heap[b]?=w.heap[b]?)(hO: ∀b,Own G s.rg b->w'.heap[b]?=w.heap[b]?)(hm: ∀d∈a.defers,∀D,d={target:= .collected D,args:= #[]}->w'.heap[D]?=w.heap[D]?)
  (cm:w.heap.size<=w'.heap.size) (hd:T.w0.drawn<=w'.drawn):aq Q T F G w' a s:=by
 refine⟨⟨h.ma.1,λd hd=> ?_⟩,h.size,λt p hp=>br.mono (λ_ h=>h) hF (Names.refl _ _) (h.tm t p hp),
  λn e he=>(h.rg n e he).mono (λ_ h=>h) hF (Names.refl _ _) rfl (λb hb=>hO b ⟨n,e,he,hb⟩),h.own,h.gG,λb hb=>zaK (h.fw b hb) cm,h.tag,
  λb hb=>⟨(h.z b hb).1,(hF b (h.z b hb).1).trans (h.z b hb).2⟩,hd,zaN h.sz cm⟩
 obtain⟨D,h1,h0,h2,h3,h4⟩:=h.ma.2 d hd;grind
theorem aq.MC(h:aq Q T F G w a s){F':Nat->Prop}(hF: ∀b,F b->F' b)(hn: ∀b,F' b->F b\/(¬Own G s.rg b/\b<w.heap.size/\ ∀d∈a.defers,d≠{target:= .collected b,args:= #[]})):aq Q T F' G w a s:=by
 refine⟨⟨h.ma.1,λd hd=> ?_⟩,h.size,λt p hp=>br.mono hF (λ_ _=>rfl) (Names.refl _ _) (h.tm t p hp),
  λn e he=>(h.rg n e he).mono hF (λ_ _=>rfl) (Names.refl _ _) rfl (λb hb=>rfl),h.own,λn e b he hb hf=> ?_,λb hb=> ?_,h.tag,
  λb hb=>⟨hF b (h.z b hb).1,(h.z b hb).2⟩,h.dr,h.sz⟩
 ·obtain⟨D,h1,h0,h2,h3,h4⟩:=h.ma.2 d hd;grind
 ·rcases hn b hf with h5 | ⟨h5,_⟩
  ·exact h.gG n e b he hb h5
  exact h5 ⟨n,e,he,hb⟩
 rcases hn b hb with h5 | ⟨_,h5,_⟩
 ·exact h.fw b h5
 exact h5
def jO(Q:Program)(T:Tg)(a:Act)(l:Nat)(rec:Loop)(own0 F0:Nat->Prop)(W0:World)(c:PX×S)(W:World)(ZF ZO:Nat->Prop):Prop:=
 W.heap[l]?=some (.loop (zi rec c.1))/\ ∃F G,aq Q T F G W a c.2/\lI F G c.2.rg a.defers l/\(∀b,ZF b->F b)/\
  (∀b,ZO b-> ¬F b/\ ¬Own G c.2.rg b/\b≠l/\(own0 b\/W0.heap.size<=b)/\ ∀d∈a.defers,d≠{target:= .collected b,args:= #[]})/\
  Ext own0 (Own G c.2.rg) F0 F (W0.putObj l (.deferred none)) (W.putObj l (.deferred none))
theorem jO.step{l:Nat}{rec:Loop}{own0 F0:Nat->Prop}{W0 W W':World}{c:PX×S}{ZF ZO Iq MD:Nat->Prop}(h:jO Q T a l rec own0 F0 W0 c W ZF ZO)(hx:Ext ZO MD ZF Iq W W')(hd:T.w0.drawn<=W'.drawn)(hb: ∀b,Iq b->b<W'.heap.size)(ME: ∀b,MD b-> ¬Iq b):
  jO Q T a l rec own0 F0 W0 c W' Iq MD:=by
 obtain⟨hl,F,G,h1,h2,h3,h4,h5⟩:=h;have bj:l<W.heap.size:=(zap.1 hl).1;have N8: ¬ZO l:=λhz=>(h4 l hz).2.2.1 rfl;have Jz:W0.heap.size<=W.heap.size:=by simpa using h5.size
 have g1:aq Q T F G W' a c.2:=h1.other (λb hb=>hx.keep b (h1.fw b hb) λhz=>(h4 b hz).1 hb) (λb hb=>hx.keep b (h1.cy hb) λhz=>(h4 b hz).2.1 hb)
  (λd C8 D hD=>by
   obtain⟨D',k1,_,k2,_⟩:=h1.ma.2 d C8;rw[k1] at hD;injection hD with e1 e2
   injection e1 with e1
   subst e1;exact hx.keep D' (zap.1 k2).1 λhz=>(h4 D' hz).2.2.2.2 d C8 k1) hx.size hd
 have bV: ∀b,Iq b->F b\/(¬Own G c.2.rg b/\b<W'.heap.size/\ ∀d∈a.defers,d≠{target:= .collected b,args:= #[]}):=λb hz=>by
  rcases hx.iN b hz with h |h |h
  ·grind
  ·grind
  refine .inr ⟨λho=> ?_,hb b hz,λd C8 e=> ?_⟩
  ·have:=h1.cy ho;omega
  obtain⟨D',k1,_,k2,_⟩:=h1.ma.2 d C8;grind
 refine⟨(hx.keep l bj N8).trans hl,λb=>F b\/Iq b,G,g1.MC (λ_ h=> .inl h) (λb ca=>ca.elim .inl (bV b)),⟨λhf=> ?_,h2.2⟩,λ_ h=> .inr h,λb hz=> ?_,?_⟩
 ·rcases hf with hf |hf
  ·exact h2.1 hf
  rcases hx.iN l hf with h |h |h
  ·exact h2.1 (h3 l h)
  ·exact N8 h
  omega
 ·rcases hx.fe b hz with h |h
  ·grind
  refine⟨λhf=>hf.elim (λhf=>by have:=h1.fw b hf;omega) (ME b hz),λho=>(by have:=h1.cy ho;omega),λe=>(by omega),.inr (by omega),λd C8 e=> ?_⟩;obtain⟨D',k1,_,k2,_⟩:=h1.ma.2 d C8;grind
 have e0:(W0.putObj l (.deferred none)).heap.size=W0.heap.size:=by simp
 refine⟨λb hf=> .inl (h5.fV b hf),λb hf=> ?_,h5.fe,λb MF bg=> ?_,?_,hx.os.trans h5.os,hx.tape.trans h5.tape,hx.output.trans h5.output⟩
 ·rcases hf with hf |hf
  ·exact h5.iN b hf
  rcases hx.iN b hf with h |h |h
  ·exact h5.iN b (h3 b h)
  ·grind
  grind
 ·rw[<-h5.keep b MF bg];by_cases D0:b=l
  ·subst D0;rw[World.putObj_heap_same (zaK bj hx.size),World.putObj_heap_same bj]
  rw[c8 _ _ _ D0,c8 _ _ _ D0];refine hx.keep b (by omega) λhz=> ?_;grind
 have e1:(W'.putObj l (.deferred none)).heap.size=W'.heap.size:=by simp
 rw[e0,e1];exact zaN Jz hx.size
theorem jO.round{l:Nat}{rec:Loop}{own0 F0:Nat->Prop}{W0:World}{c:S}{Fi:Nat->Prop}{Gi:Nat->Value}{ai:Act}{si:S}(MG:rec.state= .ready/\rec.pending=none/\rec.tmps=a.tmps)(Ir:Ti.w0=T.w0)(sB:Ti.DT=false)
  (h:jO Q T a l rec own0 F0 W0 (.normal,c) w Fi (Own Gi si.rg)) (hi:aq Q Ti Fi Gi w ai si) {base:Nat} {keep:Option (List Nat×List Nat)} {asg body:S->(PX×S->Prop)->Prop}
  (jV: ∀val lo s ae,asg s ae->TW Q ⟨val,T.w0,lo,false⟩ rec.assign s ae) (bX: ∀val lo s ae,body s ae->TW Q ⟨val,T.w0,lo,false⟩ rec.body s ae) {m:Nat} {vs:List Value} {args:List D} (hlen:vs.length=args.length) (km:vs.length=rec.params.size)
  (hv: ∀(i:Nat) (v:Value) (x:D),vs[i]?=some v->args[i]?=some x->az Fi w v x) {ae:PX×S->Prop} (hp:iq rec.params.toList base keep asg body c (args.map .d) ae):
  YieldAt (wd none) m Q l ⟨vs⟩ w (λe w'=> ∃x s',ae (x,s')/\e= .returned (.bool (PX.jump x).isNone)/\jO Q T a l rec own0 F0 W0 (x,s') w' Fi (Own Gi si.rg)/\aq Q Ti Fi Gi w' ai si):=by
 obtain⟨hl,F,G,h1,h2,h3,h4,h5⟩:=h;have CY:zi rec .normal=rec:=by obtain⟨e1,e2,_⟩:=MG;cases rec;subst e1;subst e2;rfl
 rw[CY] at hl;obtain⟨fn,tmps,Hq,body',y1,y2⟩:=C7 (m:=m) hl MG.1 MG.2.2 h2 h1 jV bX hlen km (λi v x Jq hx=>(hv i v x Jq hx).up h3) hp;refine⟨fn,tmps,Hq,body',y1,y2.mono ?_⟩;rintro e w' ⟨x,s',p1,p2,p3,F',G',p4,p5,p6⟩;have q0: ∀b,b<w.heap.size->b≠l-> ¬Own G c.rg b->w'.heap[b]?=w.heap[b]?:=λb hb D0 bg=>by have:=p6.keep b (by simpa using hb) bg;rwa [c8 _ _ _ D0,c8 _ _ _ D0] at this
 have cm:w.heap.size<=w'.heap.size:=by simpa using p6.size
 refine⟨x,s',p1,p2,⟨p3,F',G',p4,p5,λb hb=>p6.fV b (h3 b hb),λb hb=>⟨λhf=> ?_,λho=> ?_,(h4 b hb).2.2⟩,h5.trans p6⟩,?_⟩
 ·rcases p6.iN b hf with h |h |h
  ·grind
  ·grind
  have:=hi.cy hb;simp at h;omega
 ·rcases p6.fe b ho with h |h
  ·grind
  have:=hi.cy hb;simp at h;omega
 refine hi.other (λb hb=>q0 b (hi.fw b hb) (λe=>h2.1 (e▸h3 b hb)) λ⟨n,e,he,zY⟩=>h1.gG n e b he zY (h3 b hb)) (λb hb=>q0 b (hi.cy hb) (h4 b hb).2.2.1 (h4 b hb).2.1) (λd hd D hD=> ?_) cm (by rw[Ir];exact p4.dr);obtain⟨_,_,h0,_⟩:=hi.ma.2 d hd;rw[sB] at h0;cases h0.2
structure kR(Q:Program) where
 T:Tg
 a:Act
 l:Nat
 lp:Loop
 own0:Nat->Prop
 F0:Nat->Prop
 W0:World
def kR.at(B:kR Q)(c:PX×S)(W:World)(ZF ZO:Nat->Prop):Prop:=jO Q B.T B.a B.l B.lp B.own0 B.F0 B.W0 c W ZF ZO
def mb(B:kR Q)(Ti:Tg)(code:Code)(c:PX×S)(s:S)(ae:PX×S×(PX×S)->Prop):Prop:=
 ∀(F:Nat->Prop) (G:Nat->Value) (w:World) (a:Act) (Q':Exit->Act->World->Prop),aq Q Ti F G w a s->B.at c w F (Own G s.rg)->
  (∀e s' c' a' w',ae (e,s',c')->(∃F' G',aq Q Ti F' G' w' a' s'/\B.at c' w' F' (Own G' s'.rg))->Q' e.dx a' w')->code.wpIn (wd none) 0 Q Q' a w
theorem o8{B:kR Q}{c:PX×S}{F':Nat->Prop}{G':Nat->Value}{w':World}{a':Act}{s':S}(hT:Ti.w0=B.T.w0)(h:B.at c w F (Own G s.rg))(h1:aq Q Ti F' G' w' a' s')(hx:Ext (Own G s.rg) (Own G' s'.rg) F F' w w'):B.at c w' F' (Own G' s'.rg):=
 jO.step h hx (hT▸h1.dr) h1.fw λb ⟨n,e,he,hb⟩ hf=>h1.gG n e b he hb hf
variable{B:kR Q}{c:PX×S}{code:Code}
theorem mb.lift(hT:Ti.w0=B.T.w0){p:PX×S->Prop}(h:TW Q Ti code s p):mb B Ti code c s (λx=>p (x.1,x.2.1)/\x.2.2=c):=λF G w a Q' hs hj hK=>h (λ_=>rfl) F G w a Q' hs λe s' a' w' hp ⟨F',G',h1,h2⟩=>hK e s' c a' w' ⟨hp,rfl⟩ ⟨F',G',h1,o8 hT hj h1 h2⟩
theorem mb.mono{p q:PX×S×(PX×S)->Prop}(h:mb B Ti code c s p)(Ew: ∀x,p x->q x):mb B Ti code c s q:=λF G w a Q' hs hj hK=>h F G w a Q' hs hj λe s' c' a' w' hp=>hK e s' c' a' w' (Ew _ hp)
theorem mb.seq{x y:Code}{p ae:PX×S×(PX×S)->Prop}(h1:mb B Ti x c s p)(h2: ∀s1 c1,p (.normal,s1,c1)->mb B Ti y c1 s1 ae)(h3: ∀e s1 c1,e≠ .normal->p (e,s1,c1)->ae (e,s1,c1)):mb B Ti (.seq x y) c s ae:=λF G w a Q' hs hj hK=>by
 refine wpIn_seq (h1 F G w a _ hs hj λe s1 c1 a1 w1 hp hP=> ?_);cases e with
 |normal=>obtain⟨F1,G1,g1,g2⟩:=hP;exact h2 s1 c1 hp F1 G1 w1 a1 Q' g1 g2 hK
 |exit id=>exact hK _ s1 c1 a1 w1 (h3 _ _ _ (by simp) hp) hP
 |ret=>exact hK _ s1 c1 a1 w1 (h3 _ _ _ (by simp) hp) hP
theorem mb.cond{k:Operand}{x y:Code}{b:Bool}{ae:PX×S×(PX×S)->Prop}(hb:s.ev k= .d (.bool b))(h:mb B Ti (if b then x else y) c s ae):mb B Ti (.cond k x y) c s ae:=λF G w a Q' hs hj hK=>by
 have hv:a.eval k= .bool b:=by have:=pw hs k;rw[hb] at this;exact ao.bq (p:= .d (.bool b)) this rfl
 refine wpIn_cond hv ?_;cases b with
 |true=>exact h F G w a Q' hs hj hK
 |false=>exact h F G w a Q' hs hj hK
theorem mb.block{id:Nat}{x:Code}{p ae:PX×S×(PX×S)->Prop}(h:mb B Ti x c s p)(hp: ∀e s1 c1,p (e,s1,c1)->match e with | .exit kl=>if Nat.beq kl id then ae (.normal,s1,c1) else ae (.exit kl,s1,c1)|e=>ae (e,s1,c1)):mb B Ti (.block id x) c s ae:=λF G w a Q' hs hj hK=>by
 refine wpIn_block (h F G w a _ hs hj λe s1 c1 a1 w1 qW hP=> ?_);have hq:=hp e s1 c1 qW;cases e with
 |normal=>exact hK _ s1 c1 a1 w1 hq hP
 |ret=>exact hK _ s1 c1 a1 w1 hq hP
 |exit kl=>
  simp only at hq;by_cases nW:kl=id
  ·subst nW;rw[zat (by simp)] at hq;simp only[PX.dx,Exit.inBlock,zaT];exact hK _ s1 c1 a1 w1 hq hP
  rw[zaC (by simpa using nW)] at hq;simp only[PX.dx,Exit.inBlock,nW,za2];exact hK _ s1 c1 a1 w1 hq hP
theorem mb.scope{x:Code}{ae:PX×S×(PX×S)->Prop}(h:mb B Ti x c s ae):mb B Ti (.scope x) c s ae:=λF G w a Q' hs hj hK=>by refine dI (h F G w a _ hs hj λe s1 c1 a1 w1 hp hP=> ?_);have:=hK e s1 c1 a1 w1 hp hP;cases e<;>simpa [PX.dx,Exit.noGoto] using this
theorem o9(hT:Ti.w0=B.T.w0){keep:Option (List Nat×List Nat)}{s0:S}(hj:B.at c w F (Own G s.rg))(hs:aq Q Ti F G w a s)(h:cw keep s=some s0): ∃G0,aq Q Ti F G0 w a s0/\B.at c w F (Own G0 s0.rg):=by grind [dD,o8]
theorem mb.loop(hT:Ti.w0=B.T.w0){x:Code}{keep:Option (List Nat×List Nat)}{I:Nat->S->PX×S->Prop}{O:PX×S×(PX×S)->Prop}
  (hr: ∀n s c,I n s c->mb B Ti x c s (λy=>match y.1 with | .normal=> ∃s2,cw keep y.2.1=some s2/\ ∃m,m<n/\I m s2 y.2.2 |e=> ∃s2,eI keep y.2.1=some s2/\O (e,s2,y.2.2)))
  {n:Nat} {s0:S} (h0:cw keep s=some s0) (hI:I n s0 c):mb B Ti (.loop x) c s O:=λF G w a Q' hs hj hK=>by
 obtain⟨G0,g1,g2⟩:=o9 hT hj hs h0;have key: ∀(N n:Nat) (s:S) (c:PX×S),n<N->I n s c-> ∀(F:Nat->Prop) (G:Nat->Value) (w:World) (a:Act),aq Q Ti F G w a s->B.at c w F (Own G s.rg)->Code.roundsIn (wd none) 0 Q x Q' N a w:=by
  intro N
  induction N with
  |zero=>simp
  |succ N ih=>
   intro n s c hn hI F G w a hs hj;refine hr n s c hI F G w a _ hs hj λe s1 c1 a1 w1 hp hP=> ?_;obtain⟨F1,G1,k1,k2⟩:=hP;cases e with
   |normal=>obtain⟨s2,h2,m,hm,hi⟩:=hp;obtain⟨G2,m1,m2⟩:=o9 hT k2 k1 h2;exact ih m s2 c1 (by omega) hi F1 G2 w1 a1 m1 m2
   |exit id=>obtain⟨s2,h2,hO⟩:=hp;obtain⟨G2,m1,m2⟩:=o9 (keep:=keep.map λl=>(l.2,l.2)) hT k2 k1 (by cases keep<;>exact h2);exact hK _ s2 c1 a1 w1 hO ⟨F1,G2,m1,m2⟩
   |ret=>obtain⟨s2,h2,hO⟩:=hp;obtain⟨G2,m1,m2⟩:=o9 (keep:=keep.map λl=>(l.2,l.2)) hT k2 k1 (by cases keep<;>exact h2);exact hK _ s2 c1 a1 w1 hO ⟨F1,G2,m1,m2⟩
 exact wpIn_loop_rounds (n+1) (key (n+1) n s0 c (by omega) hI F G0 w a g1 g2)
def yieldOf(yt:Nat)(s:S)(o:Oper):Option (List D):=
 match dT o,o.guard with
 |some (f,xs),none=>match s.ev f with
  | .mp y v=>match lk s.rg y with
   |some e=>match e.obj,e.tag with
    | .fy,some i=>if Nat.beq e.ay v&&Nat.beq i yt then pk (xs.map s.ev) else none
    |_,_=>none
   |none=>none
  |_=>none
 |_,_=>none
def jA(Q:Program)(kf:KF)(yt:Nat)(ry:S->List P->(PX×S->Prop)->Prop)(ops:List Oper):List Oper->List (Nat×Bool)->S×(PX×S)->(S×(PX×S)->Prop)->Prop
 | [],_,x,ae=>ae x
 |o::l,kn,x,ae=>match kQ o with
  |some it=>kP Q x.1 o.dst ((x.1.ev it).under none) λs1=>s1.force λs1=>jA Q kf yt ry ops l [] (s1,x.2) ae
  |none=>match yieldOf yt x.1 o with
  |some ds=>(match x.2.1 with
   | .normal=>ry x.2.2 (ds.map .d) λy=>match x.1.put o.dst (.d (.bool (PX.jump y.1).isNone)) with
    |some s1=>jA Q kf yt ry ops l [] (s1,y) ae
    |none=>False
   |_=>False)
  |none=>rY Q kf ops kn x.1 o λz=>z.1.force λs1=>jA Q kf yt ry ops l z.2 (s1,x.2) ae
theorem qD: ∀(ts:List Nat) (ps:List P) (s s1:S),gX s ts ps=some s1->ts.length=ps.length
 | [],[],_,_,_=>rfl
 | [],_::_,s,s1,h=>by simp[gX] at h
 |_::_,[],s,s1,h=>by simp[gX] at h
 |t::ts,p::ps,s,s1,h=>by
  simp only[gX] at h;split at h
  ·simp[qD ts ps _ _ h]
  cases h
theorem wx{ps:List Nat}{base:Nat}{keep:Option (List Nat×List Nat)}{asg body:S->(PX×S->Prop)->Prop}{s:S}{args:List P}{ae:PX×S->Prop}(h:iq ps base keep asg body s args ae):ps.length=args.length:=by grind [iq,qD]
theorem wy: ∀(ps:List P) (ds:List D),pk ps=some ds->ps=ds.map .d
 | [],ds,h=>by grind [pk]
 |p::ps,ds,h=>by
  cases p<;>simp only[pk] at h<;>try (cases h;done)
  split at h
  next x xs hx=>simp at h;subst h;simp[wy ps xs hx]
  cases h
theorem jB{kf:KF}{cf:Nat->Nat->CF}(eE:oN kf cf)(fG: ∀a b,cL Q Ti.w0 (cf a b))(hT:Ti.w0=B.T.w0)(sB:Ti.DT=false){yt:Nat}(uM:Ti.val yt= .func (.yield B.l) #[] #[])(wz:B.lp.state= .ready/\B.lp.pending=none/\B.lp.tmps=B.a.tmps)
  {base:Nat} {keep:Option (List Nat×List Nat)} {asg body:S->(PX×S->Prop)->Prop} (jV: ∀val lo s ae,asg s ae->TW Q ⟨val,B.T.w0,lo,false⟩ B.lp.assign s ae) (bX: ∀val lo s ae,body s ae->TW Q ⟨val,B.T.w0,lo,false⟩ B.lp.body s ae)
  {ops:List Oper} {Q':Exit->Act->World->Prop} {ae:S×(PX×S)->Prop}: ∀(l:List Oper) (kn:List (Nat×Bool)) (F:Nat->Prop) (G:Nat->Value) (w:World) (a:Act) (s:S) (c:PX×S),fT kn s->aq Q Ti F G w a s->B.at c w F (Own G s.rg)->
  jA Q kf yt (iq B.lp.params.toList base keep asg body) ops l kn (s,c) ae->(∀s' c' a' w',ae (s',c')->(∃F' G',aq Q Ti F' G' w' a' s'/\B.at c' w' F' (Own G' s'.rg))->Q' .normal a' w')->wpListIn (wd none) 0 Q ops.toArray Q' l a w
 | [],kn,F,G,w,a,s,c,_,h,hj,hp,hK=>by unfold jA at hp;exact hK s c a w hp ⟨F,G,h,hj⟩
 |o::l,kn,F,G,w,a,s,c,o5,h,hj,hp,hK=>by
  unfold jA at hp;split at hp
  next it ho=>
   have Bh:o.guard=none:=by
    unfold kQ at ho;split at ho
    ·simp_all
    cases ho
   simp only[S.force_eq] at hp;have:o.wpIn (wd none) 0 Q a w (wpListIn (wd none) 0 Q ops.toArray Q' l) Q':=zg h ho hp λs1 a1 w1 qW ⟨F1,G1,g1,g2⟩=>jB eE fG hT sB uM wz jV bX l _ F1 G1 w1 a1 s1 c (fT.nil s1) g1 (o8 hT hj g1 g2) qW hK;exact du (by rw[zat (by simp[Region.wanted,Bh])];exact this)
  split at hp
  next ds hy=>
   split at hp
   ·rename_i FY;unfold yieldOf at hy;split at hy
    ·rename_i f xs nL Bh;split at hy
     ·rename_i y v Mv;split at hy
      ·rename_i e he;split at hy
       ·rename_i i aP Ii;split at hy
        ·rename_i cu;have bL:e.ay=v:=by simp_all
         have hi:i=yt:=by simp_all
         subst hi;have hG:G y= .func (.yield B.l) #[] #[]:=by
          rcases h.tag y e i he Ii (by rw[aP];rfl) with h0 | ⟨_,_,_,_,h0⟩
          ·rw[h0];exact uM
          rw[uM] at h0;cases h0
         have hval:a.eval f= .func (.yield B.l) #[] #[]:=by
          have:=pw h f;rw[Mv] at this;generalize a.eval f=u at this;cases this with
          |mp _ _ _ h1 hr=>rw[<-hG];exact hr.at he bL (by rw[aP];rfl)
         unfold dT at nL;split at nL
         ·rename_i cl mZ;split at nL
          ·rename_i f' fR;obtain⟨rfl,rfl⟩:=nL;have bp:=wy _ _ hy;have hlen:(cl.args.toList.map a.eval).length=ds.length:=by have:=congrArg List.length bp;grind
           have fO:c=(.normal,c.2):=by rw[<-FY]
           have Ck:jO Q B.T B.a B.l B.lp B.own0 B.F0 B.W0 (.normal,c.2) w F (Own G s.rg):=by rw[<-fO];exact hj
           have km:(cl.args.toList.map a.eval).length=B.lp.params.size:=by have:=wx hp;simp at this;rw[hlen,<-this]
           obtain⟨fn,tmps,Hq,body',y1,y2⟩:=jO.round (m:=0-1) (vs:=cl.args.toList.map a.eval) wz hT sB Ck h jV bX hlen km (λj u x hu hx=>by
            rw[zah,zaj] at hu;obtain⟨z,hz,rfl⟩:=hu;have KV:=pw h z;have:s.ev z= .d x:=by have e1:=congrArg (λl=>l[j]?) bp;grind
            rw[this] at KV;generalize a.eval z=u at KV⊢;cases KV with
            |d hd=>exact hd) hp
           have this:o.wpIn (wd none) 0 Q a w (wpListIn (wd none) 0 Q ops.toArray Q' l) Q':=by
            refine mF (λc' tN=>by rw[mZ] at tN;cases tN) ?_;have aX:(execOp a.eval o).run Q w= .ok (.round B.l fn tmps Hq body') w:=by
             have e:cl.args.map a.eval=⟨cl.args.toList.map a.eval⟩:=by grind
             rw[<-y1,<-e];simp[execOp,mZ,resolve,fR,hval,Deferred.ofValue,invoke]
            rw[aX];refine⟨λh=>(by cases h),y2.mono ?_⟩;rintro e' w' ⟨x,s',p1,rfl,p3,p4⟩;split at p1
            next s1 mD=>obtain⟨c1,c2⟩:=bf p4 mD (v:= .bool (PX.jump x).isNone) (br.of (.d (.bool _)));exact jB eE fG hT sB uM wz jV bX l [] F G w' _ s1 (x,s') (fT.nil s1) c1 (by rw[c2];exact p3) p1 hK
            grind
           exact du (by rw[zat (by simp[Region.wanted,Bh])];exact this)
          grind
         grind
        cases hy
       cases hy
      cases hy
     cases hy
    cases hy
   grind
  obtain⟨x,⟨hx,hk⟩,qW⟩:=mK eE o5 _ hp;rw[S.force_eq] at qW;obtain⟨i,j,hx⟩:=hx.some;have iO:=gq (r:=none) (fG i j) h hx (K:=wpListIn (wd none) 0 Q ops.toArray Q' l) (Q':=Q') (λa' w' ⟨F',G',g1,g2⟩=>jB eE fG hT sB uM wz jV bX l _ F' G' w' a' x.1 c hk g1 (o8 hT hj g1 g2) qW hK);exact du iO
def db(Q:Program)(kf:KF)(yt:Nat)(ry:S->List P->(PX×S->Prop)->Prop)(hk:List (Nat×(S×(PX×S)->K (PX×S×(PX×S)))))(dc:Nat->Nat):Code->S×(PX×S)->K (PX×S×(PX×S))
 | .skip,x=>K.ret (.normal,x)
 | .label _,x=>K.ret (.normal,x)
 | .region id ops draw,x=>if draw then K.bind (u9 Q kf ops.toList (dc id) x.1) λs1=>K.ret (.normal,s1,x.2) else K.bind (jA Q kf yt ry ops.toList ops.toList [] x) λy=>K.ret (.normal,y)
 | .seq a b,x=>K.bind (db Q kf yt ry hk dc a x) λy=>match y.1 with
  | .normal=>db Q kf yt ry hk dc b y.2
  |_=>K.ret y
 | .cond c a b,x=>match x.1.ev c with
  | .d (.bool t)=>K.bind (K.dec t) λr=>if r then db Q kf yt ry hk dc a x else db Q kf yt ry hk dc b x
  |_=>K.fail
 | .block id c,x=>K.bind (db Q kf yt ry hk dc c x) λy=>match y.1 with
  | .exit kl=>if Nat.beq kl id then K.ret (.normal,y.2) else K.ret y
  |_=>K.ret y
 | .loop c,x=>match lk hk (Code.lz c) with
  |some h=>h x
  |none=>K.fail
 | .scope c,x=>db Q kf yt ry hk dc c x
 | .exit id,x=>K.ret (.exit id,x)
 | .ret,x=>K.ret (.ret,x)
 |_,_=>K.fail
variable{kp:tf}
theorem fm{kf:KF}(eE:oN kf (dh Q kp))(hX:cL Q Ti.w0 kp.X)(hdr:Q.follows .mixedOrders=true)(hT:Ti.w0=B.T.w0)(sB:Ti.DT=false){yt:Nat}(uM:Ti.val yt= .func (.yield B.l) #[] #[])(wz:B.lp.state= .ready/\B.lp.pending=none/\B.lp.tmps=B.a.tmps)
  {base:Nat} {keep:Option (List Nat×List Nat)} {asg body:S->(PX×S->Prop)->Prop} (jV: ∀val lo s ae,asg s ae->TW Q ⟨val,B.T.w0,lo,false⟩ B.lp.assign s ae) (bX: ∀val lo s ae,body s ae->TW Q ⟨val,B.T.w0,lo,false⟩ B.lp.body s ae)
  {hk:List (Nat×(S×(PX×S)->K (PX×S×(PX×S))))} {dc:Nat->Nat}: ∀(code:Code),bB dc code=true->
  (∀d∈aw code,∀h,lk hk (Code.lz d)=some h-> ∀x ae,h x ae->mb B Ti (.loop d) x.2 x.1 ae)-> ∀(x:S×(PX×S)) (ae:PX×S×(PX×S)->Prop),db Q kf yt (iq B.lp.params.toList base keep asg body) hk dc code x ae->mb B Ti code x.2 x.1 ae
 | .skip,_,_,x,ae,hp=>λF G w a Q' hs hj hK=>wpIn_skip (hK .normal x.1 x.2 a w hp ⟨F,G,hs,hj⟩)
 | .label _,_,_,x,ae,hp=>λF G w a Q' hs hj hK=>wpIn_label (hK .normal x.1 x.2 a w hp ⟨F,G,hs,hj⟩)
 | .region id ops draw,hl,_,x,ae,hp=>by
  have fG: ∀a b,cL Q Ti.w0 (dh Q kp a b):=λa b=>mM hX hdr b;unfold db at hp;cases draw with
  |true=>obtain⟨s1,h1,hp⟩:=qq eE (zab (by simpa [bB] using hl)) _ hp;obtain⟨i,j,h1⟩:=h1.some;refine mb.mono (mb.lift hT (TW.uv (kp:=λ_=>none) (lf:=0) (fG i j) hdr (x:=(.normal,s1)) (by grind [aT]) (ae:=λy=>ae (y.1,y.2,x.2)) hp)) ?_;simp
  |false=>exact λF G w a Q' hs hj hK=>wpIn_region_list (by simpa using jB eE fG hT sB uM wz jV bX ops.toList [] F G w a x.1 x.2 (fT.nil x.1) hs hj hp λs' c' a' w' km hP=>hK .normal s' c' a' w' km hP)
 | .seq a b,hl,hh,x,ae,hp=>by
  unfold db at hp;have w7:bB dc a=true/\bB dc b=true:=by simpa [bB] using hl
  refine mb.seq (fm eE hX hdr hT sB uM wz jV bX a w7.1 (λd hd=>hh d (by simp[aw,hd])) x _ hp) (λs1 c1 h1=>fm eE hX hdr hT sB uM wz jV bX b w7.2 (λd hd=>hh d (by simp[aw,hd])) (s1,c1) ae h1) λe s1 c1 he h1=> ?_;cases e with
  |normal=>grind
  |exit id=>exact h1
  |ret=>exact h1
 | .cond k a b,hl,hh,x,ae,hp=>by
  unfold db at hp;have w7:bB dc a=true/\bB dc b=true:=by simpa [bB] using hl
  have Io: ∃b,x.1.ev k= .d (.bool b):=by
   cases hb:x.1.ev k with
   |d y=>
    cases y with
    |bool b=>simp
    |_=>simp only[hb] at hp;exact hp.elim
   |_=>simp only[hb] at hp;exact hp.elim
  obtain⟨t,hb⟩:=Io;simp only[hb] at hp;refine mb.cond hb ?_;cases t with
  |true=>exact fm eE hX hdr hT sB uM wz jV bX a w7.1 (λd hd=>hh d (by simp[aw,hd])) x ae hp
  |false=>exact fm eE hX hdr hT sB uM wz jV bX b w7.2 (λd hd=>hh d (by simp[aw,hd])) x ae hp
 | .block id k,hl,hh,x,ae,hp=>by
  unfold db at hp;refine mb.block (fm eE hX hdr hT sB uM wz jV bX k hl (λd hd=>hh d (by simpa [aw] using hd)) x _ hp) λe s1 c1 h1=> ?_;cases e with
  |normal=>exact h1
  |ret=>exact h1
  |exit kl=>
   simp only at h1⊢;split
   next h=>rw[zat h] at h1;exact h1
   rename_i h;rw[zaC h] at h1;exact h1
 | .loop k,hl,hh,x,ae,hp=>by
  cases EY:lk hk (Code.lz k) with
  |some h=>simp_all [db,aw]
  |none=>simp only[db,EY] at hp;exact hp.elim
 | .scope k,hl,hh,x,ae,hp=>by unfold db at hp;exact mb.scope (fm eE hX hdr hT sB uM wz jV bX k hl (λd hd=>hh d (by simpa [aw] using hd)) x ae hp)
 | .exit id,_,_,x,ae,hp=>λF G w a Q' hs hj hK=>wpIn_exit (hK (.exit id) x.1 x.2 a w hp ⟨F,G,hs,hj⟩)
 | .ret,_,_,x,ae,hp=>λF G w a Q' hs hj hK=>wpIn_ret (hK .ret x.1 x.2 a w hp ⟨F,G,hs,hj⟩)
 | .rangeFunc _ _ _ _,_,_,x,ae,hp=>by unfold db at hp;exact hp.elim
 | .goto _,_,_,x,ae,hp=>by unfold db at hp;exact hp.elim
 | .refuse _,_,_,x,ae,hp=>by unfold db at hp;exact hp.elim
end
end Pi
