/- The text PiY. -/
import Derived.Test.YtdgkdigdflkjhaaGreatDoorPiRf
namespace Pi
open Go
def N9(rec:Loop) x:={rec with state:=if(PX.jump x).isNone then .ready else .done,pending:=PX.jump x}
section
variable{Q:Program}{T Ti:Tg}{F:Nat->Prop}{G:Nat->Value}{w:World}{a:Act}{s:S}
theorem aC.other(h:aC Q T F G w a s){w'}(hF: ∀b,F b->w'.heap[b]?=w.heap[b]?)(hO: ∀b,Own G s.rg b->w'.heap[b]?=w.heap[b]?)(hm: ∀d∈a.defers,∀D,d={target:= .collected D,args:= #[]}->w'.heap[D]?=w.heap[D]?)
  (dS:w.heap.size<=w'.heap.size) (hd:T.w0.drawn<=w'.drawn):aC Q T F G w' a s:=by
 refine⟨⟨h.s7.1,λd hd=> ?_⟩,h.size,λt p hp=>cE.mono (λ_ h=>h) hF (Names.refl _ _) (h.tm t p hp),
  λn e he=>(h.rg n e he).mono (λ_ h=>h) hF (Names.refl _ _) rfl (λb hb=>hO b ⟨n,e,he,hb⟩),h.own,h.nA,λb hb=>zbf (h.jE b hb) dS,h.tag,
  λb hb=>⟨(h.z b hb).1,(hF b (h.z b hb).1).trans (h.z b hb).2⟩,hd,zaL h.sz dS⟩
 obtain⟨D,h1,h0,h2,h3,h4⟩:=h.s7.2 d hd;grind
theorem aC.qnv(h:aC Q T F G w a s){F'}(hF: ∀b,F b->F' b)(hn: ∀b,F' b->F b\/(¬Own G s.rg b/\b<w.heap.size/\ ∀d∈a.defers,d≠{target:= .collected b,args:= #[]})):aC Q T F' G w a s:=by
 refine⟨⟨h.s7.1,λd hd=> ?_⟩,h.size,λt p hp=>cE.mono hF (λ_ _=>rfl) (Names.refl _ _) (h.tm t p hp),
  λn e he=>(h.rg n e he).mono hF (λ_ _=>rfl) (Names.refl _ _) rfl (λb hb=>rfl),h.own,λn e b he hb hf=> ?_,λb hb=> ?_,h.tag,
  λb hb=>⟨hF b (h.z b hb).1,(h.z b hb).2⟩,h.dr,h.sz⟩
 ·obtain⟨D,h1,h0,h2,h3,h4⟩:=h.s7.2 d hd;grind
 ·rcases hn b hf with h5 | ⟨h5,_⟩
  ·exact h.nA n e b he hb h5
  exact h5 ⟨n,e,he,hb⟩
 rcases hn b hb with h5 | ⟨_,h5,_⟩
 ·exact h.jE b h5
 exact h5
def pS Q T a l rec own0 F0 (W0:World)(c:PX×S) W (ZF ZO:Nat->Prop):=
 W.heap[l]?=some (.loop (N9 rec c.1))/\ ∃F G,aC Q T F G W a c.2/\sG F G c.2.rg a.defers l/\(∀b,ZF b->F b)/\
  (∀b,ZO b-> ¬F b/\ ¬Own G c.2.rg b/\b≠l/\(own0 b\/W0.heap.size<=b)/\ ∀d∈a.defers,d≠{target:= .collected b,args:= #[]})/\
  Ext own0 (Own G c.2.rg) F0 F (W0.putObj l (.deferred none)) (W.putObj l (.deferred none))
theorem pS.step{l rec own0 F0 W0 W W'}{c ZF ZO ZF' ZO'}(h:pS Q T a l rec own0 F0 W0 c W ZF ZO)(hx:Ext ZO ZO' ZF ZF' W W')(hd:T.w0.drawn<=W'.drawn)(hb: ∀b,ZF' b->b<W'.heap.size)(qnw: ∀b,ZO' b-> ¬ZF' b):
  pS Q T a l rec own0 F0 W0 c W' ZF' ZO':=by
 obtain⟨hl,F,G,h1,h2,h3,h4,h5⟩:=h;have bK:l<W.heap.size:=(zax.1 hl).1;have hlZ: ¬ZO l:=λhz=>(h4 l hz).2.2.1 rfl;have hs0:W0.heap.size<=W.heap.size:=by simpa using h5.size
 have g1:aC Q T F G W' a c.2:=h1.other (λb hb=>hx.keep b (h1.jE b hb) λhz=>(h4 b hz).1 hb) (λb hb=>hx.keep b (h1.oa hb) λhz=>(h4 b hz).2.1 hb)
  (λd UX D hD=>by
   obtain⟨D',k1,_,k2,_⟩:=h1.s7.2 d UX;rw[k1] at hD;injection hD with e1 e2
   injection e1 with e1
   subst e1;exact hx.keep D' (zax.1 k2).1 λhz=>(h4 D' hz).2.2.2.2 d UX k1) hx.size hd
 have fV: ∀b,ZF' b->F b\/(¬Own G c.2.rg b/\b<W'.heap.size/\ ∀d∈a.defers,d≠{target:= .collected b,args:= #[]}):=λb hz=>by
  rcases hx.n9 b hz with h |h |h
  ·grind
  ·grind
  refine .inr ⟨λho=> ?_,hb b hz,λd UX e=> ?_⟩
  ·have:=h1.oa ho;omega
  obtain⟨D',k1,_,k2,_⟩:=h1.s7.2 d UX;grind
 refine⟨(hx.keep l bK hlZ).trans hl,λb=>F b\/ZF' b,G,g1.qnv (λ_ h=> .inl h) (λb dq=>dq.elim .inl (fV b)),⟨λhf=> ?_,h2.2⟩,λ_ h=> .inr h,λb hz=> ?_,?_⟩
 ·rcases hf with hf |hf
  ·exact h2.1 hf
  rcases hx.n9 l hf with h |h |h
  ·exact h2.1 (h3 l h)
  ·exact hlZ h
  omega
 ·rcases hx.mH b hz with h |h
  ·grind
  refine⟨λhf=>hf.elim (λhf=>by have:=h1.jE b hf;omega) (qnw b hz),λho=>(by have:=h1.oa ho;omega),λe=>(by omega),.inr (by omega),λd UX e=> ?_⟩;obtain⟨D',k1,_,k2,_⟩:=h1.s7.2 d UX;grind
 have e0:(W0.putObj l (.deferred none)).heap.size=W0.heap.size:=by simp
 refine⟨λb hf=> .inl (h5.lH b hf),λb hf=> ?_,h5.mH,λb qnx bI=> ?_,?_,hx.os.trans h5.os,hx.tape.trans h5.tape,hx.output.trans h5.output⟩
 ·rcases hf with hf |hf
  ·exact h5.n9 b hf
  rcases hx.n9 b hf with h |h |h
  ·exact h5.n9 b (h3 b h)
  ·grind
  grind
 ·rw[<-h5.keep b qnx bI];by_cases SD:b=l
  ·subst SD;rw[World.putObj_heap_same (zbf bK hx.size),World.putObj_heap_same bK]
  rw[eZ _ _ _ SD,eZ _ _ _ SD];refine hx.keep b (by omega) λhz=> ?_;grind
 have e1:(W'.putObj l (.deferred none)).heap.size=W'.heap.size:=by simp
 rw[e0,e1];exact zaL hs0 hx.size
theorem pS.round{l rec own0 F0 W0}{c Fi Gi ai}{si}(hlr:rec.state= .ready/\rec.pending=none/\rec.tmps=a.tmps)(hTi:Ti.w0=T.w0)(BS:Ti.TK=false)
  (h:pS Q T a l rec own0 F0 W0 (.normal,c) w Fi (Own Gi si.rg)) (hi:aC Q Ti Fi Gi w ai si) {base keep asg body}
  (p9: ∀val lo s ae,asg s ae->TW Q ⟨val,T.w0,lo,false⟩ rec.assign s ae) (cS: ∀val lo s ae,body s ae->TW Q ⟨val,T.w0,lo,false⟩ rec.body s ae) {m vs} {args:List D} (hlen:vs.length=args.length) (sq:vs.length=rec.params.size)
  (hv: ∀(i:Nat) (v:Value) (x:D),vs[i]?=some v->args[i]?=some x->aY Fi w v x) {ae} (hp:kR rec.params.toList base keep asg body c (args.map .d) ae):
  YieldAt (wd none) m Q l ⟨vs⟩ w (λe w'=> ∃x s',ae (x,s')/\e= .returned (.bool (PX.jump x).isNone)/\pS Q T a l rec own0 F0 W0 (x,s') w' Fi (Own Gi si.rg)/\aC Q Ti Fi Gi w' ai si):=by
 obtain⟨hl,F,G,h1,h2,h3,h4,h5⟩:=h;have UP:N9 rec .normal=rec:=by obtain⟨e1,e2,_⟩:=hlr;cases rec;subst e1;subst e2;rfl
 rw[UP] at hl;obtain⟨fn,tmps,qfR,body',y1,y2⟩:=UW (m:=m) hl hlr.1 hlr.2.2 h2 h1 p9 cS hlen sq (λi v x hvv hx=>(hv i v x hvv hx).up h3) hp;refine⟨fn,tmps,qfR,body',y1,y2.mono ?_⟩;rintro e w' ⟨x,s',p1,p2,p3,F',G',p4,p5,p6⟩;have q0: ∀b,b<w.heap.size->b≠l-> ¬Own G c.rg b->w'.heap[b]?=w.heap[b]?:=λb hb SD bI=>by have:=p6.keep b (by simpa using hb) bI;rwa [eZ _ _ _ SD,eZ _ _ _ SD] at this
 have dS:w.heap.size<=w'.heap.size:=by simpa using p6.size
 refine⟨x,s',p1,p2,⟨p3,F',G',p4,p5,λb hb=>p6.lH b (h3 b hb),λb hb=>⟨λhf=> ?_,λho=> ?_,(h4 b hb).2.2⟩,h5.trans p6⟩,?_⟩
 ·rcases p6.n9 b hf with h |h |h
  ·grind
  ·grind
  have:=hi.oa hb;simp at h;omega
 ·rcases p6.mH b ho with h |h
  ·grind
  have:=hi.oa hb;simp at h;omega
 refine hi.other (λb hb=>q0 b (hi.jE b hb) (λe=>h2.1 (e▸h3 b hb)) λ⟨n,e,he,hob⟩=>h1.nA n e b he hob (h3 b hb)) (λb hb=>q0 b (hi.oa hb) (h4 b hb).2.2.1 (h4 b hb).2.1) (λd hd D hD=> ?_) dS (by rw[hTi];exact p4.dr);obtain⟨_,_,h0,_⟩:=hi.s7.2 d hd;rw[BS] at h0;cases h0.2
structure pn(Q:Program) where
 T:Tg
 a:Act
 l:Nat
 lp:Loop
 own0:Nat->Prop
 F0:Nat->Prop
 W0:World
def pn.at(B:pn Q) c W ZF ZO:=pS Q B.T B.a B.l B.lp B.own0 B.F0 B.W0 c W ZF ZO
def rD(B:pn Q) Ti (code:Code) c s (ae:PX×S×(PX×S)->Prop):=
 ∀(F:Nat->Prop) (G:Nat->Value) (w:World) (a:Act) (Q':Exit->Act->World->Prop),aC Q Ti F G w a s->B.at c w F (Own G s.rg)->
  (∀e s' c' a' w',ae (e,s',c')->(∃F' G',aC Q Ti F' G' w' a' s'/\B.at c' w' F' (Own G' s'.rg))->Q' e.fH a' w')->code.wpIn (wd none) 0 Q Q' a w
theorem yO{B:pn Q}{c F' G' w'}{a' s'}(hT:Ti.w0=B.T.w0)(h:B.at c w F (Own G s.rg))(h1:aC Q Ti F' G' w' a' s')(hx:Ext (Own G s.rg) (Own G' s'.rg) F F' w w'):B.at c w' F' (Own G' s'.rg):=
 pS.step h hx (hT▸h1.dr) h1.jE λb ⟨n,e,he,hb⟩ hf=>h1.nA n e b he hb hf
variable{B:pn Q}{c:PX×S}{code:Code}
theorem rD.lift(hT:Ti.w0=B.T.w0){p}(h:TW Q Ti code s p):rD B Ti code c s (λx=>p (x.1,x.2.1)/\x.2.2=c):=λF G w a Q' hs hj hK=>h (λ_=>rfl) F G w a Q' hs λe s' a' w' hp ⟨F',G',h1,h2⟩=>hK e s' c a' w' ⟨hp,rfl⟩ ⟨F',G',h1,yO hT hj h1 h2⟩
theorem rD.mono{p q}(h:rD B Ti code c s p)(TX: ∀x,p x->q x):rD B Ti code c s q:=λF G w a Q' hs hj hK=>h F G w a Q' hs hj λe s' c' a' w' hp=>hK e s' c' a' w' (TX _ hp)
theorem rD.seq{x y p ae}(h1:rD B Ti x c s p)(h2: ∀s1 c1,p (.normal,s1,c1)->rD B Ti y c1 s1 ae)(h3: ∀e s1 c1,e≠ .normal->p (e,s1,c1)->ae (e,s1,c1)):rD B Ti (.seq x y) c s ae:=λF G w a Q' hs hj hK=>by
 refine wpIn_seq (h1 F G w a _ hs hj λe s1 c1 a1 w1 hp hP=> ?_);cases e with
 |normal=>obtain⟨F1,G1,g1,g2⟩:=hP;exact h2 s1 c1 hp F1 G1 w1 a1 Q' g1 g2 hK
 |exit id=>exact hK _ s1 c1 a1 w1 (h3 _ _ _ (by simp) hp) hP
 |ret=>exact hK _ s1 c1 a1 w1 (h3 _ _ _ (by simp) hp) hP
theorem rD.cond{k x y b ae}(hb:s.ev k= .d (.bool b))(h:rD B Ti (if b then x else y) c s ae):rD B Ti (.cond k x y) c s ae:=λF G w a Q' hs hj hK=>by
 have hv:a.eval k= .bool b:=by have:=zx hs k;rw[hb] at this;exact aH.cD (p:= .d (.bool b)) this rfl
 refine wpIn_cond hv ?_;cases b with
 |true=>exact h F G w a Q' hs hj hK
 |false=>exact h F G w a Q' hs hj hK
theorem rD.block{id:Nat}{x p ae}(h:rD B Ti x c s p)(hp: ∀e s1 c1,p (e,s1,c1)->match e with | .exit qA=>if Nat.beq qA id then ae (.normal,s1,c1) else ae (.exit qA,s1,c1)|e=>ae (e,s1,c1)):rD B Ti (.block id x) c s ae:=λF G w a Q' hs hj hK=>by
 refine wpIn_block (h F G w a _ hs hj λe s1 c1 a1 w1 yN hP=> ?_);have hq:=hp e s1 c1 yN;cases e with
 |normal=>exact hK _ s1 c1 a1 w1 hq hP
 |ret=>exact hK _ s1 c1 a1 w1 hq hP
 |exit qA=>
  simp only at hq;by_cases hid:qA=id
  ·subst hid;rw[zap (by simp)] at hq;simp only[PX.fH,Exit.inBlock,zbo];exact hK _ s1 c1 a1 w1 hq hP
  rw[zan (by simpa using hid)] at hq;simp only[PX.fH,Exit.inBlock,hid,zbn];exact hK _ s1 c1 a1 w1 hq hP
theorem rD.scope{x ae}(h:rD B Ti x c s ae):rD B Ti (.scope x) c s ae:=λF G w a Q' hs hj hK=>by refine gu (h F G w a _ hs hj λe s1 c1 a1 w1 hp hP=> ?_);have:=hK e s1 c1 a1 w1 hp hP;cases e<;>simpa [PX.fH,Exit.noGoto] using this
theorem yP(hT:Ti.w0=B.T.w0){keep s0}(hj:B.at c w F (Own G s.rg))(hs:aC Q Ti F G w a s)(h:cG keep s=some s0): ∃G0,aC Q Ti F G0 w a s0/\B.at c w F (Own G0 s0.rg):=by grind [fZ,yO]
theorem rD.loop(hT:Ti.w0=B.T.w0){x keep}{I:Nat->S->PX×S->Prop}{O}
  (hr: ∀n s c,I n s c->rD B Ti x c s (λy=>match y.1 with | .normal=> ∃s2,cG keep y.2.1=some s2/\ ∃m,m<n/\I m s2 y.2.2 |e=> ∃s2,dL keep y.2.1=some s2/\O (e,s2,y.2.2)))
  {n s0} (h0:cG keep s=some s0) (hI:I n s0 c):rD B Ti (.loop x) c s O:=λF G w a Q' hs hj hK=>by
 obtain⟨G0,g1,g2⟩:=yP hT hj hs h0;have key: ∀(N n:Nat) (s:S) (c:PX×S),n<N->I n s c-> ∀(F:Nat->Prop) (G:Nat->Value) (w:World) (a:Act),aC Q Ti F G w a s->B.at c w F (Own G s.rg)->Code.roundsIn (wd none) 0 Q x Q' N a w:=by
  intro N
  induction N with
  |zero=>simp
  |succ N ih=>
   intro n s c hn hI F G w a hs hj;refine hr n s c hI F G w a _ hs hj λe s1 c1 a1 w1 hp hP=> ?_;obtain⟨F1,G1,k1,k2⟩:=hP;cases e with
   |normal=>obtain⟨s2,h2,m,hm,hi⟩:=hp;obtain⟨G2,m1,m2⟩:=yP hT k2 k1 h2;exact ih m s2 c1 (by omega) hi F1 G2 w1 a1 m1 m2
   |exit id=>obtain⟨s2,h2,hO⟩:=hp;obtain⟨G2,m1,m2⟩:=yP (keep:=keep.map λl=>(l.2,l.2)) hT k2 k1 (by cases keep<;>exact h2);exact hK _ s2 c1 a1 w1 hO ⟨F1,G2,m1,m2⟩
   |ret=>obtain⟨s2,h2,hO⟩:=hp;obtain⟨G2,m1,m2⟩:=yP (keep:=keep.map λl=>(l.2,l.2)) hT k2 k1 (by cases keep<;>exact h2);exact hK _ s2 c1 a1 w1 hO ⟨F1,G2,m1,m2⟩
 exact wpIn_loop_rounds (n+1) (key (n+1) n s0 c (by omega) hI F G0 w a g1 g2)
def yieldOf(yt:Nat)(s:S)(o:Oper):Option (List D):=
 match gV o,o.guard with
 |some (f,xs),none=>match s.ev f with
  | .mp y v=>match lk s.rg y with
   |some e=>match e.obj,e.tag with
    | .eJ,some i=>if Nat.beq e.aV v&&Nat.beq i yt then Cj (xs.map s.ev) else none
    |_,_=>none
   |none=>none
  |_=>none
 |_,_=>none
def po(Q:Program)(kf:KF)(yt:Nat)(ry:S->List P->(PX×S->Prop)->Prop)(ops:List Oper):List Oper->List (Nat×Bool)->S×(PX×S)->(S×(PX×S)->Prop)->Prop
 | [],_,x,ae=>ae x
 |o::l,kn,x,ae=>match qV o with
  |some it=>qU Q x.1 o.dst ((x.1.ev it).under none) λs1=>s1.force λs1=>po Q kf yt ry ops l [] (s1,x.2) ae
  |none=>match yieldOf yt x.1 o with
  |some ds=>(match x.2.1 with
   | .normal=>ry x.2.2 (ds.map .d) λy=>match x.1.put o.dst (.d (.bool (PX.jump y.1).isNone)) with
    |some s1=>po Q kf yt ry ops l [] (s1,y) ae
    |none=>False
   |_=>False)
  |none=>Dj Q kf ops kn x.1 o λz=>z.1.force λs1=>po Q kf yt ry ops l z.2 (s1,x.2) ae
theorem AF: ∀ts ps s s1,lX s ts ps=some s1->ts.length=ps.length
 | [],[],_,_,_=>rfl
 | [],_::_,s,s1,h=>by simp[lX] at h
 |_::_,[],s,s1,h=>by simp[lX] at h
 |t::ts,p::ps,s,s1,h=>by
  simp only[lX] at h;split at h
  ·simp[AF ts ps _ _ h]
  cases h
theorem IZ{ps base keep asg body}{s args ae}(h:kR ps base keep asg body s args ae):ps.length=args.length:=by grind [kR,AF]
theorem I0: ∀ps ds,Cj ps=some ds->ps=ds.map .d
 | [],ds,h=>by grind [Cj]
 |p::ps,ds,h=>by
  cases p<;>simp only[Cj] at h<;>try (cases h;done)
  split at h
  next x xs hx=>simp at h;subst h;simp[I0 ps xs hx]
  cases h
theorem pq{kf cf}(hJ:yd kf cf)(jO: ∀a b,cz Q Ti.w0 (cf a b))(hT:Ti.w0=B.T.w0)(BS:Ti.TK=false){yt}(I1:Ti.val yt= .func (.yield B.l) #[] #[])(I2:B.lp.state= .ready/\B.lp.pending=none/\B.lp.tmps=B.a.tmps)
  {base keep asg body} (p9: ∀val lo s ae,asg s ae->TW Q ⟨val,B.T.w0,lo,false⟩ B.lp.assign s ae) (cS: ∀val lo s ae,body s ae->TW Q ⟨val,B.T.w0,lo,false⟩ B.lp.body s ae)
  {ops Q' ae}: ∀l kn F G w a s c,kr kn s->aC Q Ti F G w a s->B.at c w F (Own G s.rg)->
  po Q kf yt (kR B.lp.params.toList base keep asg body) ops l kn (s,c) ae->(∀s' c' a' w',ae (s',c')->(∃F' G',aC Q Ti F' G' w' a' s'/\B.at c' w' F' (Own G' s'.rg))->Q' .normal a' w')->wpListIn (wd none) 0 Q ops.toArray Q' l a w
 | [],kn,F,G,w,a,s,c,_,h,hj,hp,hK=>by unfold po at hp;exact hK s c a w hp ⟨F,G,h,hj⟩
 |o::l,kn,F,G,w,a,s,c,eD,h,hj,hp,hK=>by
  unfold po at hp;split at hp
  next it ho=>
   have Sy:o.guard=none:=by
    unfold qV at ho;split at ho
    ·simp_all
    cases ho
   simp only[S.force_eq] at hp;have:o.wpIn (wd none) 0 Q a w (wpListIn (wd none) 0 Q ops.toArray Q' l) Q':=N7 h ho hp λs1 a1 w1 yN ⟨F1,G1,g1,g2⟩=>pq hJ jO hT BS I1 I2 p9 cS l _ F1 G1 w1 a1 s1 c (kr.nil s1) g1 (yO hT hj g1 g2) yN hK;exact fE (by rw[zap (by simp[Region.wanted,Sy])];exact this)
  split at hp
  next ds hy=>
   split at hp
   ·rename_i CD;unfold yieldOf at hy;split at hy
    ·rename_i f xs mU Sy;split at hy
     ·rename_i y v hfe;split at hy
      ·rename_i e he;split at hy
       ·rename_i i b8 hei;split at hy
        ·rename_i fy;have eb:e.aV=v:=by simp_all
         have hi:i=yt:=by simp_all
         subst hi;have hG:G y= .func (.yield B.l) #[] #[]:=by rw[h.tag y e i he hei (by rw[b8];rfl)];exact I1
         have hval:a.eval f= .func (.yield B.l) #[] #[]:=by
          have:=zx h f;rw[hfe] at this;generalize a.eval f=u at this;cases this with
          |mp _ _ _ h1 hr=>rw[<-hG];exact hr.at he eb (by rw[b8];rfl)
         unfold gV at mU;split at mU
         ·rename_i cl ux;split at mU
          ·rename_i f' ko;obtain⟨rfl,rfl⟩:=mU;have cx:=I0 _ _ hy;have hlen:(cl.args.toList.map a.eval).length=ds.length:=by have:=congrArg List.length cx;grind
           have lF:c=(.normal,c.2):=by rw[<-CD]
           have NU:pS Q B.T B.a B.l B.lp B.own0 B.F0 B.W0 (.normal,c.2) w F (Own G s.rg):=by rw[<-lF];exact hj
           have sq:(cl.args.toList.map a.eval).length=B.lp.params.size:=by have:=IZ hp;simp at this;rw[hlen,<-this]
           obtain⟨fn,tmps,qfR,body',y1,y2⟩:=pS.round (m:=0-1) (vs:=cl.args.toList.map a.eval) I2 hT BS NU h p9 cS hlen sq (λj u x hu hx=>by
            rw[zaN,zay] at hu;obtain⟨z,hz,rfl⟩:=hu;have hzz:=zx h z;have:s.ev z= .d x:=by have e1:=congrArg (λl=>l[j]?) cx;grind
            rw[this] at hzz;generalize a.eval z=u at hzz⊢;cases hzz with
            |d hd=>exact hd) hp
           have this:o.wpIn (wd none) 0 Q a w (wpListIn (wd none) 0 Q ops.toArray Q' l) Q':=by
            refine uF (λc' oN=>by rw[ux] at oN;cases oN) ?_;have ca:(execOp a.eval o).run Q w= .ok (.round B.l fn tmps qfR body') w:=by
             have e:cl.args.map a.eval=⟨cl.args.toList.map a.eval⟩:=by grind
             rw[<-y1,<-e];simp[execOp,ux,resolve,ko,hval,Deferred.ofValue,invoke]
            rw[ca];refine⟨λh=>(by cases h),y2.mono ?_⟩;rintro e' w' ⟨x,s',p1,rfl,p3,p4⟩;split at p1
            next s1 s9=>obtain⟨c1,c2⟩:=cy p4 s9 (v:= .bool (PX.jump x).isNone) (cE.of (.d (.bool _)));exact pq hJ jO hT BS I1 I2 p9 cS l [] F G w' _ s1 (x,s') (kr.nil s1) c1 (by rw[c2];exact p3) p1 hK
            grind
           exact fE (by rw[zap (by simp[Region.wanted,Sy])];exact this)
          grind
         grind
        cases hy
       cases hy
      cases hy
     cases hy
    cases hy
   grind
  obtain⟨x,⟨hx,hk⟩,yN⟩:=uL hJ eD _ hp;rw[S.force_eq] at yN;obtain⟨i,j,hx⟩:=hx.some;have kH:=lg (r:=none) (jO i j) h hx (K:=wpListIn (wd none) 0 Q ops.toArray Q' l) (Q':=Q') (λa' w' ⟨F',G',g1,g2⟩=>pq hJ jO hT BS I1 I2 p9 cS l _ F' G' w' a' x.1 c hk g1 (yO hT hj g1 g2) yN hK);exact fE kH
def eQ(Q:Program)(kf:KF)(yt:Nat)(ry:S->List P->(PX×S->Prop)->Prop)(hk:List (Nat×(S×(PX×S)->K (PX×S×(PX×S)))))(dc:Nat->Nat):Code->S×(PX×S)->K (PX×S×(PX×S))
 | .skip,x=>K.ret (.normal,x)
 | .label _,x=>K.ret (.normal,x)
 | .region id ops draw,x=>if draw then K.bind (HT Q kf ops.toList (dc id) x.1) λs1=>K.ret (.normal,s1,x.2) else K.bind (po Q kf yt ry ops.toList ops.toList [] x) λy=>K.ret (.normal,y)
 | .seq a b,x=>K.bind (eQ Q kf yt ry hk dc a x) λy=>match y.1 with
  | .normal=>eQ Q kf yt ry hk dc b y.2
  |_=>K.ret y
 | .cond c a b,x=>match x.1.ev c with
  | .d (.bool t)=>K.bind (K.dec t) λr=>if r then eQ Q kf yt ry hk dc a x else eQ Q kf yt ry hk dc b x
  |_=>K.fail
 | .block id c,x=>K.bind (eQ Q kf yt ry hk dc c x) λy=>match y.1 with
  | .exit qA=>if Nat.beq qA id then K.ret (.normal,y.2) else K.ret y
  |_=>K.ret y
 | .loop c,x=>match lk hk (Code.s5 c) with
  |some h=>h x
  |none=>K.fail
 | .scope c,x=>eQ Q kf yt ry hk dc c x
 | .exit id,x=>K.ret (.exit id,x)
 | .ret,x=>K.ret (.ret,x)
 |_,_=>K.fail
variable{kp:rq}
theorem ig{kf}(hJ:yd kf (fj Q kp))(hX:cz Q Ti.w0 kp.X)(hdr:Q.follows .mixedOrders=true)(hT:Ti.w0=B.T.w0)(BS:Ti.TK=false){yt}(I1:Ti.val yt= .func (.yield B.l) #[] #[])(I2:B.lp.state= .ready/\B.lp.pending=none/\B.lp.tmps=B.a.tmps)
  {base keep asg body} (p9: ∀val lo s ae,asg s ae->TW Q ⟨val,B.T.w0,lo,false⟩ B.lp.assign s ae) (cS: ∀val lo s ae,body s ae->TW Q ⟨val,B.T.w0,lo,false⟩ B.lp.body s ae)
  {hk dc}: ∀code,cj dc code=true->
  (∀d∈aN code,∀h,lk hk (Code.s5 d)=some h-> ∀x ae,h x ae->rD B Ti (.loop d) x.2 x.1 ae)-> ∀x ae,eQ Q kf yt (kR B.lp.params.toList base keep asg body) hk dc code x ae->rD B Ti code x.2 x.1 ae
 | .skip,_,_,x,ae,hp=>λF G w a Q' hs hj hK=>wpIn_skip (hK .normal x.1 x.2 a w hp ⟨F,G,hs,hj⟩)
 | .label _,_,_,x,ae,hp=>λF G w a Q' hs hj hK=>wpIn_label (hK .normal x.1 x.2 a w hp ⟨F,G,hs,hj⟩)
 | .region id ops draw,hl,_,x,ae,hp=>by
  have jO: ∀a b,cz Q Ti.w0 (fj Q kp a b):=λa b=>uN hX hdr b;unfold eQ at hp;cases draw with
  |true=>obtain⟨s1,h1,hp⟩:=Ap hJ (zag (by simpa [cj] using hl)) _ hp;obtain⟨i,j,h1⟩:=h1.some;refine rD.mono (rD.lift hT (TW.of_run (kp:=λ_=>none) (lf:=0) (jO i j) hdr (x:=(.normal,s1)) (by grind [bU]) (ae:=λy=>ae (y.1,y.2,x.2)) hp)) ?_;simp
  |false=>exact λF G w a Q' hs hj hK=>wpIn_region_list (by simpa using pq hJ jO hT BS I1 I2 p9 cS ops.toList [] F G w a x.1 x.2 (kr.nil x.1) hs hj hp λs' c' a' w' sq hP=>hK .normal s' c' a' w' sq hP)
 | .seq a b,hl,hh,x,ae,hp=>by
  unfold eQ at hp;have KT:cj dc a=true/\cj dc b=true:=by simpa [cj] using hl
  refine rD.seq (ig hJ hX hdr hT BS I1 I2 p9 cS a KT.1 (λd hd=>hh d (by simp[aN,hd])) x _ hp) (λs1 c1 h1=>ig hJ hX hdr hT BS I1 I2 p9 cS b KT.2 (λd hd=>hh d (by simp[aN,hd])) (s1,c1) ae h1) λe s1 c1 he h1=> ?_;cases e with
  |normal=>grind
  |exit id=>exact h1
  |ret=>exact h1
 | .cond k a b,hl,hh,x,ae,hp=>by
  unfold eQ at hp;have KT:cj dc a=true/\cj dc b=true:=by simpa [cj] using hl
  have hbx: ∃b,x.1.ev k= .d (.bool b):=by
   cases hb:x.1.ev k with
   |d y=>
    cases y with
    |bool b=>simp
    |_=>simp only[hb] at hp;exact hp.elim
   |_=>simp only[hb] at hp;exact hp.elim
  obtain⟨t,hb⟩:=hbx;simp only[hb] at hp;refine rD.cond hb ?_;cases t with
  |true=>exact ig hJ hX hdr hT BS I1 I2 p9 cS a KT.1 (λd hd=>hh d (by simp[aN,hd])) x ae hp
  |false=>exact ig hJ hX hdr hT BS I1 I2 p9 cS b KT.2 (λd hd=>hh d (by simp[aN,hd])) x ae hp
 | .block id k,hl,hh,x,ae,hp=>by
  unfold eQ at hp;refine rD.block (ig hJ hX hdr hT BS I1 I2 p9 cS k hl (λd hd=>hh d (by simpa [aN] using hd)) x _ hp) λe s1 c1 h1=> ?_;cases e with
  |normal=>exact h1
  |ret=>exact h1
  |exit qA=>
   simp only at h1⊢;split
   next h=>rw[zap h] at h1;exact h1
   rename_i h;rw[zan h] at h1;exact h1
 | .loop k,hl,hh,x,ae,hp=>by
  cases hh1:lk hk (Code.s5 k) with
  |some h=>simp_all [eQ,aN]
  |none=>simp only[eQ,hh1] at hp;exact hp.elim
 | .scope k,hl,hh,x,ae,hp=>by unfold eQ at hp;exact rD.scope (ig hJ hX hdr hT BS I1 I2 p9 cS k hl (λd hd=>hh d (by simpa [aN] using hd)) x ae hp)
 | .exit id,_,_,x,ae,hp=>λF G w a Q' hs hj hK=>wpIn_exit (hK (.exit id) x.1 x.2 a w hp ⟨F,G,hs,hj⟩)
 | .ret,_,_,x,ae,hp=>λF G w a Q' hs hj hK=>wpIn_ret (hK .ret x.1 x.2 a w hp ⟨F,G,hs,hj⟩)
 | .rangeFunc _ _ _ _,_,_,x,ae,hp=>by unfold eQ at hp;exact hp.elim
 | .goto _,_,_,x,ae,hp=>by unfold eQ at hp;exact hp.elim
 | .refuse _,_,_,x,ae,hp=>by unfold eQ at hp;exact hp.elim
end
end Pi
