/- The text PiY. -/
import Derived.Test.YtngoddkencoalaaGreatDoorPiRf
namespace Pi
open Go
def MQ(rec:Loop)(x:PX):Loop:={rec with state:=if(PX.jump x).isNone then .ready else .done,pending:=PX.jump x}
section
variable{Q:Program}{T Ti:Tg}{F:Nat->Prop}{G:Nat->Value}{w:World}{a:Act}{s:S}
theorem aG.other(h:aG Q T F G w a s){w':World}(hF: ∀b,F b->w'.heap[b]?=w.heap[b]?)(hO: ∀b,Own G s.rg b->w'.heap[b]?=w.heap[b]?)(hm: ∀d∈a.defers,∀D,d={target:= .collected D,args:= #[]}->w'.heap[D]?=w.heap[D]?)
  (dN:w.heap.size<=w'.heap.size) (hd:T.w0.drawn<=w'.drawn):aG Q T F G w' a s:=by
 refine⟨⟨h.sg.1,λd hd=> ?_⟩,h.size,λt p hp=>cA.mono (λ_ h=>h) hF (Names.refl _ _) (h.tm t p hp),
  λn e he=>(h.rg n e he).mono (λ_ h=>h) hF (Names.refl _ _) rfl (λb hb=>hO b ⟨n,e,he,hb⟩),h.own,h.nf,λb hb=>zbb (h.jE b hb) dN,h.tag,
  λb hb=>⟨(h.z b hb).1,(hF b (h.z b hb).1).trans (h.z b hb).2⟩,hd,zaE h.sz dN⟩
 obtain⟨D,h1,h0,h2,h3,h4⟩:=h.sg.2 d hd;grind
theorem aG.qk6(h:aG Q T F G w a s){F':Nat->Prop}(hF: ∀b,F b->F' b)(hn: ∀b,F' b->F b\/(¬Own G s.rg b/\b<w.heap.size/\ ∀d∈a.defers,d≠{target:= .collected b,args:= #[]})):aG Q T F' G w a s:=by
 refine⟨⟨h.sg.1,λd hd=> ?_⟩,h.size,λt p hp=>cA.mono hF (λ_ _=>rfl) (Names.refl _ _) (h.tm t p hp),
  λn e he=>(h.rg n e he).mono hF (λ_ _=>rfl) (Names.refl _ _) rfl (λb hb=>rfl),h.own,λn e b he hb hf=> ?_,λb hb=> ?_,h.tag,
  λb hb=>⟨hF b (h.z b hb).1,(h.z b hb).2⟩,h.dr,h.sz⟩
 ·obtain⟨D,h1,h0,h2,h3,h4⟩:=h.sg.2 d hd;grind
 ·rcases hn b hf with h5 | ⟨h5,_⟩
  ·exact h.nf n e b he hb h5
  exact h5 ⟨n,e,he,hb⟩
 rcases hn b hb with h5 | ⟨_,h5,_⟩
 ·exact h.jE b h5
 exact h5
def pr(Q:Program)(T:Tg)(a:Act)(l:Nat)(rec:Loop)(own0 F0:Nat->Prop)(W0:World)(c:PX×S)(W:World)(ZF ZO:Nat->Prop):Prop:=
 W.heap[l]?=some (.loop (MQ rec c.1))/\ ∃F G,aG Q T F G W a c.2/\r1 F G c.2.rg a.defers l/\(∀b,ZF b->F b)/\
  (∀b,ZO b-> ¬F b/\ ¬Own G c.2.rg b/\b≠l/\(own0 b\/W0.heap.size<=b)/\ ∀d∈a.defers,d≠{target:= .collected b,args:= #[]})/\
  Ext own0 (Own G c.2.rg) F0 F (W0.putObj l (.deferred none)) (W.putObj l (.deferred none))
theorem pr.step{l:Nat}{rec:Loop}{own0 F0:Nat->Prop}{W0 W W':World}{c:PX×S}{ZF ZO ZF' ZO':Nat->Prop}(h:pr Q T a l rec own0 F0 W0 c W ZF ZO)(hx:Ext ZO ZO' ZF ZF' W W')(hd:T.w0.drawn<=W'.drawn)(hb: ∀b,ZF' b->b<W'.heap.size)(qk7: ∀b,ZO' b-> ¬ZF' b):
  pr Q T a l rec own0 F0 W0 c W' ZF' ZO':=by
 obtain⟨hl,F,G,h1,h2,h3,h4,h5⟩:=h;have bJ:l<W.heap.size:=(zaz.1 hl).1;have hlZ: ¬ZO l:=λhz=>(h4 l hz).2.2.1 rfl;have hs0:W0.heap.size<=W.heap.size:=by simpa using h5.size
 have g1:aG Q T F G W' a c.2:=h1.other (λb hb=>hx.keep b (h1.jE b hb) λhz=>(h4 b hz).1 hb) (λb hb=>hx.keep b (h1.nD hb) λhz=>(h4 b hz).2.1 hb)
  (λd Ta D hD=>by
   obtain⟨D',k1,_,k2,_⟩:=h1.sg.2 d Ta;rw[k1] at hD;injection hD with e1 e2
   injection e1 with e1
   subst e1;exact hx.keep D' (zaz.1 k2).1 λhz=>(h4 D' hz).2.2.2.2 d Ta k1) hx.size hd
 have gl: ∀b,ZF' b->F b\/(¬Own G c.2.rg b/\b<W'.heap.size/\ ∀d∈a.defers,d≠{target:= .collected b,args:= #[]}):=λb hz=>by
  rcases hx.nC b hz with h |h |h
  ·grind
  ·grind
  refine .inr ⟨λho=> ?_,hb b hz,λd Ta e=> ?_⟩
  ·have:=h1.nD ho;omega
  obtain⟨D',k1,_,k2,_⟩:=h1.sg.2 d Ta;grind
 refine⟨(hx.keep l bJ hlZ).trans hl,λb=>F b\/ZF' b,G,g1.qk6 (λ_ h=> .inl h) (λb dm=>dm.elim .inl (gl b)),⟨λhf=> ?_,h2.2⟩,λ_ h=> .inr h,λb hz=> ?_,?_⟩
 ·rcases hf with hf |hf
  ·exact h2.1 hf
  rcases hx.nC l hf with h |h |h
  ·exact h2.1 (h3 l h)
  ·exact hlZ h
  omega
 ·rcases hx.mc b hz with h |h
  ·grind
  refine⟨λhf=>hf.elim (λhf=>by have:=h1.jE b hf;omega) (qk7 b hz),λho=>(by have:=h1.nD ho;omega),λe=>(by omega),.inr (by omega),λd Ta e=> ?_⟩;obtain⟨D',k1,_,k2,_⟩:=h1.sg.2 d Ta;grind
 have e0:(W0.putObj l (.deferred none)).heap.size=W0.heap.size:=by simp
 refine⟨λb hf=> .inl (h5.lx b hf),λb hf=> ?_,h5.mc,λb qk8 bS=> ?_,?_,hx.os.trans h5.os,hx.tape.trans h5.tape,hx.output.trans h5.output⟩
 ·rcases hf with hf |hf
  ·exact h5.nC b hf
  rcases hx.nC b hf with h |h |h
  ·exact h5.nC b (h3 b h)
  ·grind
  grind
 ·rw[<-h5.keep b qk8 bS];by_cases S8:b=l
  ·subst S8;rw[World.putObj_heap_same (zbb bJ hx.size),World.putObj_heap_same bJ]
  rw[eW _ _ _ S8,eW _ _ _ S8];refine hx.keep b (by omega) λhz=> ?_;grind
 have e1:(W'.putObj l (.deferred none)).heap.size=W'.heap.size:=by simp
 rw[e0,e1];exact zaE hs0 hx.size
theorem pr.round{l:Nat}{rec:Loop}{own0 F0:Nat->Prop}{W0:World}{c:S}{Fi:Nat->Prop}{Gi:Nat->Value}{ai:Act}{si:S}(hlr:rec.state= .ready/\rec.pending=none/\rec.tmps=a.tmps)(hTi:Ti.w0=T.w0)(CI:Ti.RN=false)
  (h:pr Q T a l rec own0 F0 W0 (.normal,c) w Fi (Own Gi si.rg)) (hi:aG Q Ti Fi Gi w ai si) {base:Nat} {keep:Option (List Nat×List Nat)} {asg body:S->(PX×S->Prop)->Prop}
  (pJ: ∀val lo s ae,asg s ae->TW Q ⟨val,T.w0,lo,false⟩ rec.assign s ae) (cN: ∀val lo s ae,body s ae->TW Q ⟨val,T.w0,lo,false⟩ rec.body s ae) {m:Nat} {vs:List Value} {args:List D} (hlen:vs.length=args.length) (rP:vs.length=rec.params.size)
  (hv: ∀(i:Nat) (v:Value) (x:D),vs[i]?=some v->args[i]?=some x->aS Fi w v x) {ae:PX×S->Prop} (hp:kJ rec.params.toList base keep asg body c (args.map .d) ae):
  YieldAt (wd none) m Q l ⟨vs⟩ w (λe w'=> ∃x s',ae (x,s')/\e= .returned (.bool (PX.jump x).isNone)/\pr Q T a l rec own0 F0 W0 (x,s') w' Fi (Own Gi si.rg)/\aG Q Ti Fi Gi w' ai si):=by
 obtain⟨hl,F,G,h1,h2,h3,h4,h5⟩:=h;have SZ:MQ rec .normal=rec:=by obtain⟨e1,e2,_⟩:=hlr;cases rec;subst e1;subst e2;rfl
 rw[SZ] at hl;obtain⟨fn,tmps,qeG,body',y1,y2⟩:=S9 (m:=m) hl hlr.1 hlr.2.2 h2 h1 pJ cN hlen rP (λi v x hvv hx=>(hv i v x hvv hx).up h3) hp;refine⟨fn,tmps,qeG,body',y1,y2.mono ?_⟩;rintro e w' ⟨x,s',p1,p2,p3,F',G',p4,p5,p6⟩;have q0: ∀b,b<w.heap.size->b≠l-> ¬Own G c.rg b->w'.heap[b]?=w.heap[b]?:=λb hb S8 bS=>by have:=p6.keep b (by simpa using hb) bS;rwa [eW _ _ _ S8,eW _ _ _ S8] at this
 have dN:w.heap.size<=w'.heap.size:=by simpa using p6.size
 refine⟨x,s',p1,p2,⟨p3,F',G',p4,p5,λb hb=>p6.lx b (h3 b hb),λb hb=>⟨λhf=> ?_,λho=> ?_,(h4 b hb).2.2⟩,h5.trans p6⟩,?_⟩
 ·rcases p6.nC b hf with h |h |h
  ·grind
  ·grind
  have:=hi.nD hb;simp at h;omega
 ·rcases p6.mc b ho with h |h
  ·grind
  have:=hi.nD hb;simp at h;omega
 refine hi.other (λb hb=>q0 b (hi.jE b hb) (λe=>h2.1 (e▸h3 b hb)) λ⟨n,e,he,hob⟩=>h1.nf n e b he hob (h3 b hb)) (λb hb=>q0 b (hi.nD hb) (h4 b hb).2.2.1 (h4 b hb).2.1) (λd hd D hD=> ?_) dN (by rw[hTi];exact p4.dr);obtain⟨_,_,h0,_⟩:=hi.sg.2 d hd;rw[CI] at h0;cases h0.2
structure oR(Q:Program) where
 T:Tg
 a:Act
 l:Nat
 lp:Loop
 own0:Nat->Prop
 F0:Nat->Prop
 W0:World
def oR.at(B:oR Q)(c:PX×S)(W:World)(ZF ZO:Nat->Prop):Prop:=pr Q B.T B.a B.l B.lp B.own0 B.F0 B.W0 c W ZF ZO
def q7(B:oR Q)(Ti:Tg)(code:Code)(c:PX×S)(s:S)(ae:PX×S×(PX×S)->Prop):Prop:=
 ∀(F:Nat->Prop) (G:Nat->Value) (w:World) (a:Act) (Q':Exit->Act->World->Prop),aG Q Ti F G w a s->B.at c w F (Own G s.rg)->
  (∀e s' c' a' w',ae (e,s',c')->(∃F' G',aG Q Ti F' G' w' a' s'/\B.at c' w' F' (Own G' s'.rg))->Q' e.fC a' w')->code.wpIn (wd none) 0 Q Q' a w
theorem xW{B:oR Q}{c:PX×S}{F':Nat->Prop}{G':Nat->Value}{w':World}{a':Act}{s':S}(hT:Ti.w0=B.T.w0)(h:B.at c w F (Own G s.rg))(h1:aG Q Ti F' G' w' a' s')(hx:Ext (Own G s.rg) (Own G' s'.rg) F F' w w'):B.at c w' F' (Own G' s'.rg):=
 pr.step h hx (hT▸h1.dr) h1.jE λb ⟨n,e,he,hb⟩ hf=>h1.nf n e b he hb hf
variable{B:oR Q}{c:PX×S}{code:Code}
theorem q7.lift(hT:Ti.w0=B.T.w0){p:PX×S->Prop}(h:TW Q Ti code s p):q7 B Ti code c s (λx=>p (x.1,x.2.1)/\x.2.2=c):=λF G w a Q' hs hj hK=>h (λ_=>rfl) F G w a Q' hs λe s' a' w' hp ⟨F',G',h1,h2⟩=>hK e s' c a' w' ⟨hp,rfl⟩ ⟨F',G',h1,xW hT hj h1 h2⟩
theorem q7.mono{p q:PX×S×(PX×S)->Prop}(h:q7 B Ti code c s p)(R4: ∀x,p x->q x):q7 B Ti code c s q:=λF G w a Q' hs hj hK=>h F G w a Q' hs hj λe s' c' a' w' hp=>hK e s' c' a' w' (R4 _ hp)
theorem q7.seq{x y:Code}{p ae:PX×S×(PX×S)->Prop}(h1:q7 B Ti x c s p)(h2: ∀s1 c1,p (.normal,s1,c1)->q7 B Ti y c1 s1 ae)(h3: ∀e s1 c1,e≠ .normal->p (e,s1,c1)->ae (e,s1,c1)):q7 B Ti (.seq x y) c s ae:=λF G w a Q' hs hj hK=>by
 refine wpIn_seq (h1 F G w a _ hs hj λe s1 c1 a1 w1 hp hP=> ?_);cases e with
 |normal=>obtain⟨F1,G1,g1,g2⟩:=hP;exact h2 s1 c1 hp F1 G1 w1 a1 Q' g1 g2 hK
 |exit id=>exact hK _ s1 c1 a1 w1 (h3 _ _ _ (by simp) hp) hP
 |ret=>exact hK _ s1 c1 a1 w1 (h3 _ _ _ (by simp) hp) hP
theorem q7.cond{k:Operand}{x y:Code}{b:Bool}{ae:PX×S×(PX×S)->Prop}(hb:s.ev k= .d (.bool b))(h:q7 B Ti (if b then x else y) c s ae):q7 B Ti (.cond k x y) c s ae:=λF G w a Q' hs hj hK=>by
 have hv:a.eval k= .bool b:=by have:=yA hs k;rw[hb] at this;exact aH.cF (p:= .d (.bool b)) this rfl
 refine wpIn_cond hv ?_;cases b with
 |true=>exact h F G w a Q' hs hj hK
 |false=>exact h F G w a Q' hs hj hK
theorem q7.block{id:Nat}{x:Code}{p ae:PX×S×(PX×S)->Prop}(h:q7 B Ti x c s p)(hp: ∀e s1 c1,p (e,s1,c1)->match e with | .exit qi=>if Nat.beq qi id then ae (.normal,s1,c1) else ae (.exit qi,s1,c1)|e=>ae (e,s1,c1)):q7 B Ti (.block id x) c s ae:=λF G w a Q' hs hj hK=>by
 refine wpIn_block (h F G w a _ hs hj λe s1 c1 a1 w1 xU hP=> ?_);have hq:=hp e s1 c1 xU;cases e with
 |normal=>exact hK _ s1 c1 a1 w1 hq hP
 |ret=>exact hK _ s1 c1 a1 w1 hq hP
 |exit qi=>
  simp only at hq;by_cases hid:qi=id
  ·subst hid;rw[zap (by simp)] at hq;simp only[PX.fC,Exit.inBlock,zbr];exact hK _ s1 c1 a1 w1 hq hP
  rw[zan (by simpa using hid)] at hq;simp only[PX.fC,Exit.inBlock,hid,zbt];exact hK _ s1 c1 a1 w1 hq hP
theorem q7.scope{x:Code}{ae:PX×S×(PX×S)->Prop}(h:q7 B Ti x c s ae):q7 B Ti (.scope x) c s ae:=λF G w a Q' hs hj hK=>by refine gb (h F G w a _ hs hj λe s1 c1 a1 w1 hp hP=> ?_);have:=hK e s1 c1 a1 w1 hp hP;cases e<;>simpa [PX.fC,Exit.noGoto] using this
theorem xX(hT:Ti.w0=B.T.w0){keep:Option (List Nat×List Nat)}{s0:S}(hj:B.at c w F (Own G s.rg))(hs:aG Q Ti F G w a s)(h:cz keep s=some s0): ∃G0,aG Q Ti F G0 w a s0/\B.at c w F (Own G0 s0.rg):=by grind [fO,xW]
theorem q7.loop(hT:Ti.w0=B.T.w0){x:Code}{keep:Option (List Nat×List Nat)}{I:Nat->S->PX×S->Prop}{O:PX×S×(PX×S)->Prop}
  (hr: ∀n s c,I n s c->q7 B Ti x c s (λy=>match y.1 with | .normal=> ∃s2,cz keep y.2.1=some s2/\ ∃m,m<n/\I m s2 y.2.2 |e=> ∃s2,dG keep y.2.1=some s2/\O (e,s2,y.2.2)))
  {n:Nat} {s0:S} (h0:cz keep s=some s0) (hI:I n s0 c):q7 B Ti (.loop x) c s O:=λF G w a Q' hs hj hK=>by
 obtain⟨G0,g1,g2⟩:=xX hT hj hs h0;have key: ∀(N n:Nat) (s:S) (c:PX×S),n<N->I n s c-> ∀(F:Nat->Prop) (G:Nat->Value) (w:World) (a:Act),aG Q Ti F G w a s->B.at c w F (Own G s.rg)->Code.roundsIn (wd none) 0 Q x Q' N a w:=by
  intro N
  induction N with
  |zero=>simp
  |succ N ih=>
   intro n s c hn hI F G w a hs hj;refine hr n s c hI F G w a _ hs hj λe s1 c1 a1 w1 hp hP=> ?_;obtain⟨F1,G1,k1,k2⟩:=hP;cases e with
   |normal=>obtain⟨s2,h2,m,hm,hi⟩:=hp;obtain⟨G2,m1,m2⟩:=xX hT k2 k1 h2;exact ih m s2 c1 (by omega) hi F1 G2 w1 a1 m1 m2
   |exit id=>obtain⟨s2,h2,hO⟩:=hp;obtain⟨G2,m1,m2⟩:=xX (keep:=keep.map λl=>(l.2,l.2)) hT k2 k1 (by cases keep<;>exact h2);exact hK _ s2 c1 a1 w1 hO ⟨F1,G2,m1,m2⟩
   |ret=>obtain⟨s2,h2,hO⟩:=hp;obtain⟨G2,m1,m2⟩:=xX (keep:=keep.map λl=>(l.2,l.2)) hT k2 k1 (by cases keep<;>exact h2);exact hK _ s2 c1 a1 w1 hO ⟨F1,G2,m1,m2⟩
 exact wpIn_loop_rounds (n+1) (key (n+1) n s0 c (by omega) hI F G0 w a g1 g2)
def yieldOf(yt:Nat)(s:S)(o:Oper):Option (List D):=
 match gC o,o.guard with
 |some (f,xs),none=>match s.ev f with
  | .mp y v=>match lk s.rg y with
   |some e=>match e.obj,e.tag with
    | .ey,some i=>if Nat.beq e.aV v&&Nat.beq i yt then Bt (xs.map s.ev) else none
    |_,_=>none
   |none=>none
  |_=>none
 |_,_=>none
def oS(Q:Program)(kf:KF)(yt:Nat)(ry:S->List P->(PX×S->Prop)->Prop)(ops:List Oper):List Oper->List (Nat×Bool)->S×(PX×S)->(S×(PX×S)->Prop)->Prop
 | [],_,x,ae=>ae x
 |o::l,kn,x,ae=>match qC o with
  |some it=>CT Q x.1 o.dst ((x.1.ev it).under none) λs1=>s1.force λs1=>oS Q kf yt ry ops l [] (s1,x.2) ae
  |none=>match yieldOf yt x.1 o with
  |some ds=>(match x.2.1 with
   | .normal=>ry x.2.2 (ds.map .d) λy=>match x.1.put o.dst (.d (.bool (PX.jump y.1).isNone)) with
    |some s1=>oS Q kf yt ry ops l [] (s1,y) ae
    |none=>False
   |_=>False)
  |none=>Ck Q kf ops kn x.1 o λz=>z.1.force λs1=>oS Q kf yt ry ops l z.2 (s1,x.2) ae
theorem zK: ∀(ts:List Nat) (ps:List P) (s s1:S),lI s ts ps=some s1->ts.length=ps.length
 | [],[],_,_,_=>rfl
 | [],_::_,s,s1,h=>by simp[lI] at h
 |_::_,[],s,s1,h=>by simp[lI] at h
 |t::ts,p::ps,s,s1,h=>by
  simp only[lI] at h;split at h
  ·simp[zK ts ps _ _ h]
  cases h
theorem HB{ps:List Nat}{base:Nat}{keep:Option (List Nat×List Nat)}{asg body:S->(PX×S->Prop)->Prop}{s:S}{args:List P}{ae:PX×S->Prop}(h:kJ ps base keep asg body s args ae):ps.length=args.length:=by grind [kJ,zK]
theorem HE: ∀(ps:List P) (ds:List D),Bt ps=some ds->ps=ds.map .d
 | [],ds,h=>by grind [Bt]
 |p::ps,ds,h=>by
  cases p<;>simp only[Bt] at h<;>try (cases h;done)
  split at h
  next x xs hx=>simp at h;subst h;simp[HE ps xs hx]
  cases h
theorem oT{kf:KF}{cf:Nat->Nat->CF}(ic:BN kf cf)(jH: ∀a b,dw Q Ti.w0 (cf a b))(hT:Ti.w0=B.T.w0)(CI:Ti.RN=false){yt:Nat}(HF:Ti.val yt= .func (.yield B.l) #[] #[])(HG:B.lp.state= .ready/\B.lp.pending=none/\B.lp.tmps=B.a.tmps)
  {base:Nat} {keep:Option (List Nat×List Nat)} {asg body:S->(PX×S->Prop)->Prop} (pJ: ∀val lo s ae,asg s ae->TW Q ⟨val,B.T.w0,lo,false⟩ B.lp.assign s ae) (cN: ∀val lo s ae,body s ae->TW Q ⟨val,B.T.w0,lo,false⟩ B.lp.body s ae)
  {ops:List Oper} {Q':Exit->Act->World->Prop} {ae:S×(PX×S)->Prop}: ∀(l:List Oper) (kn:List (Nat×Bool)) (F:Nat->Prop) (G:Nat->Value) (w:World) (a:Act) (s:S) (c:PX×S),kc kn s->aG Q Ti F G w a s->B.at c w F (Own G s.rg)->
  oS Q kf yt (kJ B.lp.params.toList base keep asg body) ops l kn (s,c) ae->(∀s' c' a' w',ae (s',c')->(∃F' G',aG Q Ti F' G' w' a' s'/\B.at c' w' F' (Own G' s'.rg))->Q' .normal a' w')->wpListIn (wd none) 0 Q ops.toArray Q' l a w
 | [],kn,F,G,w,a,s,c,_,h,hj,hp,hK=>by unfold oS at hp;exact hK s c a w hp ⟨F,G,h,hj⟩
 |o::l,kn,F,G,w,a,s,c,du,h,hj,hp,hK=>by
  unfold oS at hp;split at hp
  next it ho=>
   have MB:o.guard=none:=by
    unfold qC at ho;split at ho
    ·simp_all
    cases ho
   simp only[S.force_eq] at hp;have:o.wpIn (wd none) 0 Q a w (wpListIn (wd none) 0 Q ops.toArray Q' l) Q':=MO h ho hp λs1 a1 w1 xU ⟨F1,G1,g1,g2⟩=>oT ic jH hT CI HF HG pJ cN l _ F1 G1 w1 a1 s1 c (kc.nil s1) g1 (xW hT hj g1 g2) xU hK;exact fA (by rw[zap (by simp[Region.wanted,MB])];exact this)
  split at hp
  next ds hy=>
   split at hp
   ·rename_i BO;unfold yieldOf at hy;split at hy
    ·rename_i f xs mB MB;split at hy
     ·rename_i y v hfe;split at hy
      ·rename_i e he;split at hy
       ·rename_i i b9 hei;split at hy
        ·rename_i eP;have dT:e.aV=v:=by simp_all
         have hi:i=yt:=by simp_all
         subst hi;have hG:G y= .func (.yield B.l) #[] #[]:=by rw[h.tag y e i he hei (by rw[b9];rfl)];exact HF
         have hval:a.eval f= .func (.yield B.l) #[] #[]:=by
          have:=yA h f;rw[hfe] at this;generalize a.eval f=u at this;cases this with
          |mp _ _ _ h1 hr=>rw[<-hG];exact hr.at he dT (by rw[b9];rfl)
         unfold gC at mB;split at mB
         ·rename_i cl sk;split at mB
          ·rename_i f' lB;obtain⟨rfl,rfl⟩:=mB;have cW:=HE _ _ hy;have hlen:(cl.args.toList.map a.eval).length=ds.length:=by have:=congrArg List.length cW;grind
           have l7:c=(.normal,c.2):=by rw[<-BO]
           have My:pr Q B.T B.a B.l B.lp B.own0 B.F0 B.W0 (.normal,c.2) w F (Own G s.rg):=by rw[<-l7];exact hj
           have rP:(cl.args.toList.map a.eval).length=B.lp.params.size:=by have:=HB hp;simp at this;rw[hlen,<-this]
           obtain⟨fn,tmps,qeG,body',y1,y2⟩:=pr.round (m:=0-1) (vs:=cl.args.toList.map a.eval) HG hT CI My h pJ cN hlen rP (λj u x hu hx=>by
            rw[zaD,zax] at hu;obtain⟨z,hz,rfl⟩:=hu;have hzz:=yA h z;have:s.ev z= .d x:=by have e1:=congrArg (λl=>l[j]?) cW;grind
            rw[this] at hzz;generalize a.eval z=u at hzz⊢;cases hzz with
            |d hd=>exact hd) hp
           have this:o.wpIn (wd none) 0 Q a w (wpListIn (wd none) 0 Q ops.toArray Q' l) Q':=by
            refine tO (λc' rU=>by rw[sk] at rU;cases rU) ?_;have cb:(execOp a.eval o).run Q w= .ok (.round B.l fn tmps qeG body') w:=by
             have e:cl.args.map a.eval=⟨cl.args.toList.map a.eval⟩:=by grind
             rw[<-y1,<-e];simp[execOp,sk,resolve,lB,hval,Deferred.ofValue,invoke]
            rw[cb];refine⟨λh=>(by cases h),y2.mono ?_⟩;rintro e' w' ⟨x,s',p1,rfl,p3,p4⟩;split at p1
            next s1 rV=>obtain⟨c1,c2⟩:=cC p4 rV (v:= .bool (PX.jump x).isNone) (cA.of (.d (.bool _)));exact oT ic jH hT CI HF HG pJ cN l [] F G w' _ s1 (x,s') (kc.nil s1) c1 (by rw[c2];exact p3) p1 hK
            grind
           exact fA (by rw[zap (by simp[Region.wanted,MB])];exact this)
          grind
         grind
        cases hy
       cases hy
      cases hy
     cases hy
    cases hy
   grind
  obtain⟨x,⟨hx,hk⟩,xU⟩:=tV ic du _ hp;rw[S.force_eq] at xU;obtain⟨i,j,hx⟩:=hx.some;have jv:=kZ (r:=none) (jH i j) h hx (K:=wpListIn (wd none) 0 Q ops.toArray Q' l) (Q':=Q') (λa' w' ⟨F',G',g1,g2⟩=>oT ic jH hT CI HF HG pJ cN l _ F' G' w' a' x.1 c hk g1 (xW hT hj g1 g2) xU hK);exact fA jv
def eJ(Q:Program)(kf:KF)(yt:Nat)(ry:S->List P->(PX×S->Prop)->Prop)(hk:List (Nat×(S×(PX×S)->K (PX×S×(PX×S)))))(dc:Nat->Nat):Code->S×(PX×S)->K (PX×S×(PX×S))
 | .skip,x=>K.ret (.normal,x)
 | .label _,x=>K.ret (.normal,x)
 | .region id ops draw,x=>if draw then K.bind (Gv Q kf ops.toList (dc id) x.1) λs1=>K.ret (.normal,s1,x.2) else K.bind (oS Q kf yt ry ops.toList ops.toList [] x) λy=>K.ret (.normal,y)
 | .seq a b,x=>K.bind (eJ Q kf yt ry hk dc a x) λy=>match y.1 with
  | .normal=>eJ Q kf yt ry hk dc b y.2
  |_=>K.ret y
 | .cond c a b,x=>match x.1.ev c with
  | .d (.bool t)=>K.bind (K.dec t) λr=>if r then eJ Q kf yt ry hk dc a x else eJ Q kf yt ry hk dc b x
  |_=>K.fail
 | .block id c,x=>K.bind (eJ Q kf yt ry hk dc c x) λy=>match y.1 with
  | .exit qi=>if Nat.beq qi id then K.ret (.normal,y.2) else K.ret y
  |_=>K.ret y
 | .loop c,x=>match lk hk (Code.s9 c) with
  |some h=>h x
  |none=>K.fail
 | .scope c,x=>eJ Q kf yt ry hk dc c x
 | .exit id,x=>K.ret (.exit id,x)
 | .ret,x=>K.ret (.ret,x)
 |_,_=>K.fail
variable{kp:qV}
theorem gP{kf:KF}(ic:BN kf (fJ Q kp))(hX:dw Q Ti.w0 kp.X)(hdr:Q.follows .mixedOrders=true)(hT:Ti.w0=B.T.w0)(CI:Ti.RN=false){yt:Nat}(HF:Ti.val yt= .func (.yield B.l) #[] #[])(HG:B.lp.state= .ready/\B.lp.pending=none/\B.lp.tmps=B.a.tmps)
  {base:Nat} {keep:Option (List Nat×List Nat)} {asg body:S->(PX×S->Prop)->Prop} (pJ: ∀val lo s ae,asg s ae->TW Q ⟨val,B.T.w0,lo,false⟩ B.lp.assign s ae) (cN: ∀val lo s ae,body s ae->TW Q ⟨val,B.T.w0,lo,false⟩ B.lp.body s ae)
  {hk:List (Nat×(S×(PX×S)->K (PX×S×(PX×S))))} {dc:Nat->Nat}: ∀(code:Code),cc dc code=true->
  (∀d∈aN code,∀h,lk hk (Code.s9 d)=some h-> ∀x ae,h x ae->q7 B Ti (.loop d) x.2 x.1 ae)-> ∀(x:S×(PX×S)) (ae:PX×S×(PX×S)->Prop),eJ Q kf yt (kJ B.lp.params.toList base keep asg body) hk dc code x ae->q7 B Ti code x.2 x.1 ae
 | .skip,_,_,x,ae,hp=>λF G w a Q' hs hj hK=>wpIn_skip (hK .normal x.1 x.2 a w hp ⟨F,G,hs,hj⟩)
 | .label _,_,_,x,ae,hp=>λF G w a Q' hs hj hK=>wpIn_label (hK .normal x.1 x.2 a w hp ⟨F,G,hs,hj⟩)
 | .region id ops draw,hl,_,x,ae,hp=>by
  have jH: ∀a b,dw Q Ti.w0 (fJ Q kp a b):=λa b=>tY hX hdr b;unfold eJ at hp;cases draw with
  |true=>obtain⟨s1,h1,hp⟩:=zr ic (zag (by simpa [cc] using hl)) _ hp;obtain⟨i,j,h1⟩:=h1.some;refine q7.mono (q7.lift hT (TW.of_run (kp:=λ_=>none) (lf:=0) (jH i j) hdr (x:=(.normal,s1)) (by grind [bQ]) (ae:=λy=>ae (y.1,y.2,x.2)) hp)) ?_;simp
  |false=>exact λF G w a Q' hs hj hK=>wpIn_region_list (by simpa using oT ic jH hT CI HF HG pJ cN ops.toList [] F G w a x.1 x.2 (kc.nil x.1) hs hj hp λs' c' a' w' rP hP=>hK .normal s' c' a' w' rP hP)
 | .seq a b,hl,hh,x,ae,hp=>by
  unfold eJ at hp;have xV:cc dc a=true/\cc dc b=true:=by simpa [cc] using hl
  refine q7.seq (gP ic hX hdr hT CI HF HG pJ cN a xV.1 (λd hd=>hh d (by simp[aN,hd])) x _ hp) (λs1 c1 h1=>gP ic hX hdr hT CI HF HG pJ cN b xV.2 (λd hd=>hh d (by simp[aN,hd])) (s1,c1) ae h1) λe s1 c1 he h1=> ?_;cases e with
  |normal=>grind
  |exit id=>exact h1
  |ret=>exact h1
 | .cond k a b,hl,hh,x,ae,hp=>by
  unfold eJ at hp;have xV:cc dc a=true/\cc dc b=true:=by simpa [cc] using hl
  have hbx: ∃b,x.1.ev k= .d (.bool b):=by
   cases hb:x.1.ev k with
   |d y=>
    cases y with
    |bool b=>simp
    |_=>simp only[hb] at hp;exact hp.elim
   |_=>simp only[hb] at hp;exact hp.elim
  obtain⟨t,hb⟩:=hbx;simp only[hb] at hp;refine q7.cond hb ?_;cases t with
  |true=>exact gP ic hX hdr hT CI HF HG pJ cN a xV.1 (λd hd=>hh d (by simp[aN,hd])) x ae hp
  |false=>exact gP ic hX hdr hT CI HF HG pJ cN b xV.2 (λd hd=>hh d (by simp[aN,hd])) x ae hp
 | .block id k,hl,hh,x,ae,hp=>by
  unfold eJ at hp;refine q7.block (gP ic hX hdr hT CI HF HG pJ cN k hl (λd hd=>hh d (by simpa [aN] using hd)) x _ hp) λe s1 c1 h1=> ?_;cases e with
  |normal=>exact h1
  |ret=>exact h1
  |exit qi=>
   simp only at h1⊢;split
   next h=>rw[zap h] at h1;exact h1
   rename_i h;rw[zan h] at h1;exact h1
 | .loop k,hl,hh,x,ae,hp=>by
  cases hh1:lk hk (Code.s9 k) with
  |some h=>simp_all [eJ,aN]
  |none=>simp only[eJ,hh1] at hp;exact hp.elim
 | .scope k,hl,hh,x,ae,hp=>by unfold eJ at hp;exact q7.scope (gP ic hX hdr hT CI HF HG pJ cN k hl (λd hd=>hh d (by simpa [aN] using hd)) x ae hp)
 | .exit id,_,_,x,ae,hp=>λF G w a Q' hs hj hK=>wpIn_exit (hK (.exit id) x.1 x.2 a w hp ⟨F,G,hs,hj⟩)
 | .ret,_,_,x,ae,hp=>λF G w a Q' hs hj hK=>wpIn_ret (hK .ret x.1 x.2 a w hp ⟨F,G,hs,hj⟩)
 | .rangeFunc _ _ _ _,_,_,x,ae,hp=>by unfold eJ at hp;exact hp.elim
 | .goto _,_,_,x,ae,hp=>by unfold eJ at hp;exact hp.elim
 | .refuse _,_,_,x,ae,hp=>by unfold eJ at hp;exact hp.elim
end
end Pi
