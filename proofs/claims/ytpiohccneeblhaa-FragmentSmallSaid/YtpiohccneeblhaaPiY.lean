/- The text PiY. -/
import Derived.Test.YtpiohccneeblhaaPiRf
namespace Pi
open Go
def zx(rec:Loop)(x:PX):Loop:={rec with state:=if(PX.jump x).isNone then .ready else .done,pending:=PX.jump x}
section
variable{Q:Program}{T Ti:Tg}{F:Nat->Prop}{G:Nat->Value}{w:World}{a:Act}{s:S}
theorem aq.other(h:aq Q T F G w a s){w':World}(hF: ∀b,F b->w'.heap[b]?=w.heap[b]?)(hO: ∀b,Own G s.rg b->w'.heap[b]?=w.heap[b]?)(hm: ∀d∈a.defers,∀D,d={target:= .collected D,args:= #[]}->w'.heap[D]?=w.heap[D]?)
  (cp:w.heap.size<=w'.heap.size) (hd:T.w0.drawn<=w'.drawn):aq Q T F G w' a s:=by
 refine⟨⟨h.mf.1,λd hd=> ?_⟩,h.size,λt p hp=>bt.mono (λ_ h=>h) hF (Names.refl _ _) (h.tm t p hp),
  λn e he=>(h.rg n e he).mono (λ_ h=>h) hF (Names.refl _ _) rfl (λb hb=>hO b ⟨n,e,he,hb⟩),h.own,h.gG,λb hb=>zaK (h.fw b hb) cp,h.tag,
  λb hb=>⟨(h.z b hb).1,(hF b (h.z b hb).1).trans (h.z b hb).2⟩,hd,zaN h.sz cp⟩
 obtain⟨D,h1,h0,h2,h3,h4⟩:=h.mf.2 d hd;grind
theorem aq.M6(h:aq Q T F G w a s){F':Nat->Prop}(hF: ∀b,F b->F' b)(hn: ∀b,F' b->F b\/(¬Own G s.rg b/\b<w.heap.size/\ ∀d∈a.defers,d≠{target:= .collected b,args:= #[]})):aq Q T F' G w a s:=by
 refine⟨⟨h.mf.1,λd hd=> ?_⟩,h.size,λt p hp=>bt.mono hF (λ_ _=>rfl) (Names.refl _ _) (h.tm t p hp),
  λn e he=>(h.rg n e he).mono hF (λ_ _=>rfl) (Names.refl _ _) rfl (λb hb=>rfl),h.own,λn e b he hb hf=> ?_,λb hb=> ?_,h.tag,
  λb hb=>⟨hF b (h.z b hb).1,(h.z b hb).2⟩,h.dr,h.sz⟩
 ·obtain⟨D,h1,h0,h2,h3,h4⟩:=h.mf.2 d hd;grind
 ·rcases hn b hf with h5 | ⟨h5,_⟩
  ·exact h.gG n e b he hb h5
  exact h5 ⟨n,e,he,hb⟩
 rcases hn b hb with h5 | ⟨_,h5,_⟩
 ·exact h.fw b h5
 exact h5
def jN(Q:Program)(T:Tg)(a:Act)(l:Nat)(rec:Loop)(own0 F0:Nat->Prop)(W0:World)(c:PX×S)(W:World)(ZF ZO:Nat->Prop):Prop:=
 W.heap[l]?=some (.loop (zx rec c.1))/\ ∃F G,aq Q T F G W a c.2/\lK F G c.2.rg a.defers l/\(∀b,ZF b->F b)/\
  (∀b,ZO b-> ¬F b/\ ¬Own G c.2.rg b/\b≠l/\(own0 b\/W0.heap.size<=b)/\ ∀d∈a.defers,d≠{target:= .collected b,args:= #[]})/\
  Ext own0 (Own G c.2.rg) F0 F (W0.putObj l (.deferred none)) (W.putObj l (.deferred none))
theorem jN.step{l:Nat}{rec:Loop}{own0 F0:Nat->Prop}{W0 W W':World}{c:PX×S}{ZF ZO IJ M7:Nat->Prop}(h:jN Q T a l rec own0 F0 W0 c W ZF ZO)(hx:Ext ZO M7 ZF IJ W W')(hd:T.w0.drawn<=W'.drawn)(hb: ∀b,IJ b->b<W'.heap.size)(M8: ∀b,M7 b-> ¬IJ b):
  jN Q T a l rec own0 F0 W0 c W' IJ M7:=by
 obtain⟨hl,F,G,h1,h2,h3,h4,h5⟩:=h;have bj:l<W.heap.size:=(zap.1 hl).1;have OJ: ¬ZO l:=λhz=>(h4 l hz).2.2.1 rfl;have J7:W0.heap.size<=W.heap.size:=by simpa using h5.size
 have g1:aq Q T F G W' a c.2:=h1.other (λb hb=>hx.keep b (h1.fw b hb) λhz=>(h4 b hz).1 hb) (λb hb=>hx.keep b (h1.cz hb) λhz=>(h4 b hz).2.1 hb)
  (λd Dp D hD=>by
   obtain⟨D',k1,_,k2,_⟩:=h1.mf.2 d Dp;rw[k1] at hD;injection hD with e1 e2
   injection e1 with e1
   subst e1;exact hx.keep D' (zap.1 k2).1 λhz=>(h4 D' hz).2.2.2.2 d Dp k1) hx.size hd
 have bX: ∀b,IJ b->F b\/(¬Own G c.2.rg b/\b<W'.heap.size/\ ∀d∈a.defers,d≠{target:= .collected b,args:= #[]}):=λb hz=>by
  rcases hx.iN b hz with h |h |h
  ·grind
  ·grind
  refine .inr ⟨λho=> ?_,hb b hz,λd Dp e=> ?_⟩
  ·have:=h1.cz ho;omega
  obtain⟨D',k1,_,k2,_⟩:=h1.mf.2 d Dp;grind
 refine⟨(hx.keep l bj OJ).trans hl,λb=>F b\/IJ b,G,g1.M6 (λ_ h=> .inl h) (λb cb=>cb.elim .inl (bX b)),⟨λhf=> ?_,h2.2⟩,λ_ h=> .inr h,λb hz=> ?_,?_⟩
 ·rcases hf with hf |hf
  ·exact h2.1 hf
  rcases hx.iN l hf with h |h |h
  ·exact h2.1 (h3 l h)
  ·exact OJ h
  omega
 ·rcases hx.fe b hz with h |h
  ·grind
  refine⟨λhf=>hf.elim (λhf=>by have:=h1.fw b hf;omega) (M8 b hz),λho=>(by have:=h1.cz ho;omega),λe=>(by omega),.inr (by omega),λd Dp e=> ?_⟩;obtain⟨D',k1,_,k2,_⟩:=h1.mf.2 d Dp;grind
 have e0:(W0.putObj l (.deferred none)).heap.size=W0.heap.size:=by simp
 refine⟨λb hf=> .inl (h5.fV b hf),λb hf=> ?_,h5.fe,λb M9 bg=> ?_,?_,hx.os.trans h5.os,hx.tape.trans h5.tape,hx.output.trans h5.output⟩
 ·rcases hf with hf |hf
  ·exact h5.iN b hf
  rcases hx.iN b hf with h |h |h
  ·exact h5.iN b (h3 b h)
  ·grind
  grind
 ·rw[<-h5.keep b M9 bg];by_cases Eh:b=l
  ·subst Eh;rw[World.putObj_heap_same (zaK bj hx.size),World.putObj_heap_same bj]
  rw[c8 _ _ _ Eh,c8 _ _ _ Eh];refine hx.keep b (by omega) λhz=> ?_;grind
 have e1:(W'.putObj l (.deferred none)).heap.size=W'.heap.size:=by simp
 rw[e0,e1];exact zaN J7 hx.size
theorem jN.round{l:Nat}{rec:Loop}{own0 F0:Nat->Prop}{W0:World}{c:S}{Fi:Nat->Prop}{Gi:Nat->Value}{ai:Act}{si:S}(Na:rec.state= .ready/\rec.pending=none/\rec.tmps=a.tmps)(IK:Ti.w0=T.w0)(sH:Ti.Ea=false)
  (h:jN Q T a l rec own0 F0 W0 (.normal,c) w Fi (Own Gi si.rg)) (hi:aq Q Ti Fi Gi w ai si) {base:Nat} {keep:Option (List Nat×List Nat)} {asg body:S->(PX×S->Prop)->Prop}
  (jV: ∀val lo s ae,asg s ae->TW Q ⟨val,T.w0,lo,false⟩ rec.assign s ae) (bZ: ∀val lo s ae,body s ae->TW Q ⟨val,T.w0,lo,false⟩ rec.body s ae) {m:Nat} {vs:List Value} {args:List D} (hlen:vs.length=args.length) (km:vs.length=rec.params.size)
  (hv: ∀(i:Nat) (v:Value) (x:D),vs[i]?=some v->args[i]?=some x->aA Fi w v x) {ae:PX×S->Prop} (hp:iu rec.params.toList base keep asg body c (args.map .d) ae):
  YieldAt (wd none) m Q l ⟨vs⟩ w (λe w'=> ∃x s',ae (x,s')/\e= .returned (.bool (PX.jump x).isNone)/\jN Q T a l rec own0 F0 W0 (x,s') w' Fi (Own Gi si.rg)/\aq Q Ti Fi Gi w' ai si):=by
 obtain⟨hl,F,G,h1,h2,h3,h4,h5⟩:=h;have De:zx rec .normal=rec:=by obtain⟨e1,e2,_⟩:=Na;cases rec;subst e1;subst e2;rfl
 rw[De] at hl;obtain⟨fn,tmps,HI,body',y1,y2⟩:=Dn (m:=m) hl Na.1 Na.2.2 h2 h1 jV bZ hlen km (λi v x JY hx=>(hv i v x JY hx).up h3) hp;refine⟨fn,tmps,HI,body',y1,y2.mono ?_⟩;rintro e w' ⟨x,s',p1,p2,p3,F',G',p4,p5,p6⟩;have q0: ∀b,b<w.heap.size->b≠l-> ¬Own G c.rg b->w'.heap[b]?=w.heap[b]?:=λb hb Eh bg=>by have:=p6.keep b (by simpa using hb) bg;rwa [c8 _ _ _ Eh,c8 _ _ _ Eh] at this
 have cp:w.heap.size<=w'.heap.size:=by simpa using p6.size
 refine⟨x,s',p1,p2,⟨p3,F',G',p4,p5,λb hb=>p6.fV b (h3 b hb),λb hb=>⟨λhf=> ?_,λho=> ?_,(h4 b hb).2.2⟩,h5.trans p6⟩,?_⟩
 ·rcases p6.iN b hf with h |h |h
  ·grind
  ·grind
  have:=hi.cz hb;simp at h;omega
 ·rcases p6.fe b ho with h |h
  ·grind
  have:=hi.cz hb;simp at h;omega
 refine hi.other (λb hb=>q0 b (hi.fw b hb) (λe=>h2.1 (e▸h3 b hb)) λ⟨n,e,he,Ak⟩=>h1.gG n e b he Ak (h3 b hb)) (λb hb=>q0 b (hi.cz hb) (h4 b hb).2.2.1 (h4 b hb).2.1) (λd hd D hD=> ?_) cp (by rw[IK];exact p4.dr);obtain⟨_,_,h0,_⟩:=hi.mf.2 d hd;rw[sH] at h0;cases h0.2
structure kR(Q:Program) where
 T:Tg
 a:Act
 l:Nat
 lp:Loop
 own0:Nat->Prop
 F0:Nat->Prop
 W0:World
def kR.at(B:kR Q)(c:PX×S)(W:World)(ZF ZO:Nat->Prop):Prop:=jN Q B.T B.a B.l B.lp B.own0 B.F0 B.W0 c W ZF ZO
def mg(B:kR Q)(Ti:Tg)(code:Code)(c:PX×S)(s:S)(ae:PX×S×(PX×S)->Prop):Prop:=
 ∀(F:Nat->Prop) (G:Nat->Value) (w:World) (a:Act) (Q':Exit->Act->World->Prop),aq Q Ti F G w a s->B.at c w F (Own G s.rg)->
  (∀e s' c' a' w',ae (e,s',c')->(∃F' G',aq Q Ti F' G' w' a' s'/\B.at c' w' F' (Own G' s'.rg))->Q' e.dx a' w')->code.wpIn (wd none) 0 Q Q' a w
theorem pb{B:kR Q}{c:PX×S}{F':Nat->Prop}{G':Nat->Value}{w':World}{a':Act}{s':S}(hT:Ti.w0=B.T.w0)(h:B.at c w F (Own G s.rg))(h1:aq Q Ti F' G' w' a' s')(hx:Ext (Own G s.rg) (Own G' s'.rg) F F' w w'):B.at c w' F' (Own G' s'.rg):=
 jN.step h hx (hT▸h1.dr) h1.fw λb ⟨n,e,he,hb⟩ hf=>h1.gG n e b he hb hf
variable{B:kR Q}{c:PX×S}{code:Code}
theorem mg.lift(hT:Ti.w0=B.T.w0){p:PX×S->Prop}(h:TW Q Ti code s p):mg B Ti code c s (λx=>p (x.1,x.2.1)/\x.2.2=c):=λF G w a Q' hs hj hK=>h (λ_=>rfl) F G w a Q' hs λe s' a' w' hp ⟨F',G',h1,h2⟩=>hK e s' c a' w' ⟨hp,rfl⟩ ⟨F',G',h1,pb hT hj h1 h2⟩
theorem mg.mono{p q:PX×S×(PX×S)->Prop}(h:mg B Ti code c s p)(EM: ∀x,p x->q x):mg B Ti code c s q:=λF G w a Q' hs hj hK=>h F G w a Q' hs hj λe s' c' a' w' hp=>hK e s' c' a' w' (EM _ hp)
theorem mg.seq{x y:Code}{p ae:PX×S×(PX×S)->Prop}(h1:mg B Ti x c s p)(h2: ∀s1 c1,p (.normal,s1,c1)->mg B Ti y c1 s1 ae)(h3: ∀e s1 c1,e≠ .normal->p (e,s1,c1)->ae (e,s1,c1)):mg B Ti (.seq x y) c s ae:=λF G w a Q' hs hj hK=>by
 refine wpIn_seq (h1 F G w a _ hs hj λe s1 c1 a1 w1 hp hP=> ?_);cases e with
 |normal=>obtain⟨F1,G1,g1,g2⟩:=hP;exact h2 s1 c1 hp F1 G1 w1 a1 Q' g1 g2 hK
 |exit id=>exact hK _ s1 c1 a1 w1 (h3 _ _ _ (by simp) hp) hP
 |ret=>exact hK _ s1 c1 a1 w1 (h3 _ _ _ (by simp) hp) hP
theorem mg.cond{k:Operand}{x y:Code}{b:Bool}{ae:PX×S×(PX×S)->Prop}(hb:s.ev k= .d (.bool b))(h:mg B Ti (if b then x else y) c s ae):mg B Ti (.cond k x y) c s ae:=λF G w a Q' hs hj hK=>by
 have hv:a.eval k= .bool b:=by have:=pC hs k;rw[hb] at this;exact ao.br (p:= .d (.bool b)) this rfl
 refine wpIn_cond hv ?_;cases b with
 |true=>exact h F G w a Q' hs hj hK
 |false=>exact h F G w a Q' hs hj hK
theorem mg.block{id:Nat}{x:Code}{p ae:PX×S×(PX×S)->Prop}(h:mg B Ti x c s p)(hp: ∀e s1 c1,p (e,s1,c1)->match e with | .exit kl=>if Nat.beq kl id then ae (.normal,s1,c1) else ae (.exit kl,s1,c1)|e=>ae (e,s1,c1)):mg B Ti (.block id x) c s ae:=λF G w a Q' hs hj hK=>by
 refine wpIn_block (h F G w a _ hs hj λe s1 c1 a1 w1 qZ hP=> ?_);have hq:=hp e s1 c1 qZ;cases e with
 |normal=>exact hK _ s1 c1 a1 w1 hq hP
 |ret=>exact hK _ s1 c1 a1 w1 hq hP
 |exit kl=>
  simp only at hq;by_cases nY:kl=id
  ·subst nY;rw[zat (by simp)] at hq;simp only[PX.dx,Exit.inBlock,zaT];exact hK _ s1 c1 a1 w1 hq hP
  rw[zaB (by simpa using nY)] at hq;simp only[PX.dx,Exit.inBlock,nY,za3];exact hK _ s1 c1 a1 w1 hq hP
theorem mg.scope{x:Code}{ae:PX×S×(PX×S)->Prop}(h:mg B Ti x c s ae):mg B Ti (.scope x) c s ae:=λF G w a Q' hs hj hK=>by refine dJ (h F G w a _ hs hj λe s1 c1 a1 w1 hp hP=> ?_);have:=hK e s1 c1 a1 w1 hp hP;cases e<;>simpa [PX.dx,Exit.noGoto] using this
theorem pc(hT:Ti.w0=B.T.w0){keep:Option (List Nat×List Nat)}{s0:S}(hj:B.at c w F (Own G s.rg))(hs:aq Q Ti F G w a s)(h:cx keep s=some s0): ∃G0,aq Q Ti F G0 w a s0/\B.at c w F (Own G0 s0.rg):=by grind [dD,pb]
theorem mg.loop(hT:Ti.w0=B.T.w0){x:Code}{keep:Option (List Nat×List Nat)}{I:Nat->S->PX×S->Prop}{O:PX×S×(PX×S)->Prop}
  (hr: ∀n s c,I n s c->mg B Ti x c s (λy=>match y.1 with | .normal=> ∃s2,cx keep y.2.1=some s2/\ ∃m,m<n/\I m s2 y.2.2 |e=> ∃s2,eI keep y.2.1=some s2/\O (e,s2,y.2.2)))
  {n:Nat} {s0:S} (h0:cx keep s=some s0) (hI:I n s0 c):mg B Ti (.loop x) c s O:=λF G w a Q' hs hj hK=>by
 obtain⟨G0,g1,g2⟩:=pc hT hj hs h0;have key: ∀(N n:Nat) (s:S) (c:PX×S),n<N->I n s c-> ∀(F:Nat->Prop) (G:Nat->Value) (w:World) (a:Act),aq Q Ti F G w a s->B.at c w F (Own G s.rg)->Code.roundsIn (wd none) 0 Q x Q' N a w:=by
  intro N
  induction N with
  |zero=>simp
  |succ N ih=>
   intro n s c hn hI F G w a hs hj;refine hr n s c hI F G w a _ hs hj λe s1 c1 a1 w1 hp hP=> ?_;obtain⟨F1,G1,k1,k2⟩:=hP;cases e with
   |normal=>obtain⟨s2,h2,m,hm,hi⟩:=hp;obtain⟨G2,m1,m2⟩:=pc hT k2 k1 h2;exact ih m s2 c1 (by omega) hi F1 G2 w1 a1 m1 m2
   |exit id=>obtain⟨s2,h2,hO⟩:=hp;obtain⟨G2,m1,m2⟩:=pc (keep:=keep.map λl=>(l.2,l.2)) hT k2 k1 (by cases keep<;>exact h2);exact hK _ s2 c1 a1 w1 hO ⟨F1,G2,m1,m2⟩
   |ret=>obtain⟨s2,h2,hO⟩:=hp;obtain⟨G2,m1,m2⟩:=pc (keep:=keep.map λl=>(l.2,l.2)) hT k2 k1 (by cases keep<;>exact h2);exact hK _ s2 c1 a1 w1 hO ⟨F1,G2,m1,m2⟩
 exact wpIn_loop_rounds (n+1) (key (n+1) n s0 c (by omega) hI F G0 w a g1 g2)
def yieldOf(yt:Nat)(s:S)(o:Oper):Option (List D):=
 match dU o,o.guard with
 |some (f,xs),none=>match s.ev f with
  | .mp y v=>match lk s.rg y with
   |some e=>match e.obj,e.tag with
    | .fy,some i=>if Nat.beq e.az v&&Nat.beq i yt then pq (xs.map s.ev) else none
    |_,_=>none
   |none=>none
  |_=>none
 |_,_=>none
def jA(Q:Program)(kf:KF)(yt:Nat)(ry:S->List P->(PX×S->Prop)->Prop)(ops:List Oper):List Oper->List (Nat×Bool)->S×(PX×S)->(S×(PX×S)->Prop)->Prop
 | [],_,x,ae=>ae x
 |o::l,kn,x,ae=>match kQ o with
  |some it=>kP Q x.1 o.dst ((x.1.ev it).under none) λs1=>s1.force λs1=>jA Q kf yt ry ops l [] (s1,x.2) ae
  |none=>match yieldOf yt x.1 o with
  |some ds=>(match x.2.1 with
   | .normal=>ry x.2.2 (ds.map .d) λy=>match x.1.put o.dst (.d (.bool (PX.jump y.1).isNone)) with
    |some s1=>jA Q kf yt ry ops l [] (s1,y) ae
    |none=>False
   |_=>False)
  |none=>r7 Q kf ops kn x.1 o λz=>z.1.force λs1=>jA Q kf yt ry ops l z.2 (s1,x.2) ae
theorem qI: ∀(ts:List Nat) (ps:List P) (s s1:S),gX s ts ps=some s1->ts.length=ps.length
 | [],[],_,_,_=>rfl
 | [],_::_,s,s1,h=>by simp[gX] at h
 |_::_,[],s,s1,h=>by simp[gX] at h
 |t::ts,p::ps,s,s1,h=>by
  simp only[gX] at h;split at h
  ·simp[qI ts ps _ _ h]
  cases h
theorem wI{ps:List Nat}{base:Nat}{keep:Option (List Nat×List Nat)}{asg body:S->(PX×S->Prop)->Prop}{s:S}{args:List P}{ae:PX×S->Prop}(h:iu ps base keep asg body s args ae):ps.length=args.length:=by grind [iu,qI]
theorem wJ: ∀(ps:List P) (ds:List D),pq ps=some ds->ps=ds.map .d
 | [],ds,h=>by grind [pq]
 |p::ps,ds,h=>by
  cases p<;>simp only[pq] at h<;>try (cases h;done)
  split at h
  next x xs hx=>simp at h;subst h;simp[wJ ps xs hx]
  cases h
theorem jB{kf:KF}{cf:Nat->Nat->CF}(eE:oO kf cf)(fG: ∀a b,cL Q Ti.w0 (cf a b))(hT:Ti.w0=B.T.w0)(sH:Ti.Ea=false){yt:Nat}(uW:Ti.val yt= .func (.yield B.l) #[] #[])(wK:B.lp.state= .ready/\B.lp.pending=none/\B.lp.tmps=B.a.tmps)
  {base:Nat} {keep:Option (List Nat×List Nat)} {asg body:S->(PX×S->Prop)->Prop} (jV: ∀val lo s ae,asg s ae->TW Q ⟨val,B.T.w0,lo,false⟩ B.lp.assign s ae) (bZ: ∀val lo s ae,body s ae->TW Q ⟨val,B.T.w0,lo,false⟩ B.lp.body s ae)
  {ops:List Oper} {Q':Exit->Act->World->Prop} {ae:S×(PX×S)->Prop}: ∀(l:List Oper) (kn:List (Nat×Bool)) (F:Nat->Prop) (G:Nat->Value) (w:World) (a:Act) (s:S) (c:PX×S),fT kn s->aq Q Ti F G w a s->B.at c w F (Own G s.rg)->
  jA Q kf yt (iu B.lp.params.toList base keep asg body) ops l kn (s,c) ae->(∀s' c' a' w',ae (s',c')->(∃F' G',aq Q Ti F' G' w' a' s'/\B.at c' w' F' (Own G' s'.rg))->Q' .normal a' w')->wpListIn (wd none) 0 Q ops.toArray Q' l a w
 | [],kn,F,G,w,a,s,c,_,h,hj,hp,hK=>by unfold jA at hp;exact hK s c a w hp ⟨F,G,h,hj⟩
 |o::l,kn,F,G,w,a,s,c,o7,h,hj,hp,hK=>by
  unfold jA at hp;split at hp
  next it ho=>
   have Bx:o.guard=none:=by
    unfold kQ at ho;split at ho
    ·simp_all
    cases ho
   simp only[S.force_eq] at hp;have:o.wpIn (wd none) 0 Q a w (wpListIn (wd none) 0 Q ops.toArray Q' l) Q':=zu h ho hp λs1 a1 w1 qZ ⟨F1,G1,g1,g2⟩=>jB eE fG hT sH uW wK jV bZ l _ F1 G1 w1 a1 s1 c (fT.nil s1) g1 (pb hT hj g1 g2) qZ hK;exact du (by rw[zat (by simp[Region.wanted,Bx])];exact this)
  split at hp
  next ds hy=>
   split at hp
   ·rename_i Gg;unfold yieldOf at hy;split at hy
    ·rename_i f xs nN Bx;split at hy
     ·rename_i y v MY;split at hy
      ·rename_i e he;split at hy
       ·rename_i i aP IA;split at hy
        ·rename_i cv;have bN:e.az=v:=by simp_all
         have hi:i=yt:=by simp_all
         subst hi;have hG:G y= .func (.yield B.l) #[] #[]:=by
          rcases h.tag y e i he IA (by rw[aP];rfl) with h0 | ⟨_,_,_,_,h0⟩
          ·rw[h0];exact uW
          rw[uW] at h0;cases h0
         have hval:a.eval f= .func (.yield B.l) #[] #[]:=by
          have:=pC h f;rw[MY] at this;generalize a.eval f=u at this;cases this with
          |mp _ _ _ h1 hr=>rw[<-hG];exact hr.at he bN (by rw[aP];rfl)
         unfold dU at nN;split at nN
         ·rename_i cl nc;split at nN
          ·rename_i f' fR;obtain⟨rfl,rfl⟩:=nN;have bq:=wJ _ _ hy;have hlen:(cl.args.toList.map a.eval).length=ds.length:=by have:=congrArg List.length bq;grind
           have fO:c=(.normal,c.2):=by rw[<-Gg]
           have CB:jN Q B.T B.a B.l B.lp B.own0 B.F0 B.W0 (.normal,c.2) w F (Own G s.rg):=by rw[<-fO];exact hj
           have km:(cl.args.toList.map a.eval).length=B.lp.params.size:=by have:=wI hp;simp at this;rw[hlen,<-this]
           obtain⟨fn,tmps,HI,body',y1,y2⟩:=jN.round (m:=0-1) (vs:=cl.args.toList.map a.eval) wK hT sH CB h jV bZ hlen km (λj u x hu hx=>by
            rw[zai,zaj] at hu;obtain⟨z,hz,rfl⟩:=hu;have Lq:=pC h z;have:s.ev z= .d x:=by have e1:=congrArg (λl=>l[j]?) bq;grind
            rw[this] at Lq;generalize a.eval z=u at Lq⊢;cases Lq with
            |d hd=>exact hd) hp
           have this:o.wpIn (wd none) 0 Q a w (wpListIn (wd none) 0 Q ops.toArray Q' l) Q':=by
            refine mJ (λc' tU=>by rw[nc] at tU;cases tU) ?_;have aX:(execOp a.eval o).run Q w= .ok (.round B.l fn tmps HI body') w:=by
             have e:cl.args.map a.eval=⟨cl.args.toList.map a.eval⟩:=by grind
             rw[<-y1,<-e];simp[execOp,nc,resolve,fR,hval,Deferred.ofValue,invoke]
            rw[aX];refine⟨λh=>(by cases h),y2.mono ?_⟩;rintro e' w' ⟨x,s',p1,rfl,p3,p4⟩;split at p1
            next s1 mH=>obtain⟨c1,c2⟩:=bc p4 mH (v:= .bool (PX.jump x).isNone) (bt.of (.d (.bool _)));exact jB eE fG hT sH uW wK jV bZ l [] F G w' _ s1 (x,s') (fT.nil s1) c1 (by rw[c2];exact p3) p1 hK
            grind
           exact du (by rw[zat (by simp[Region.wanted,Bx])];exact this)
          grind
         grind
        cases hy
       cases hy
      cases hy
     cases hy
    cases hy
   grind
  obtain⟨x,⟨hx,hk⟩,qZ⟩:=mO eE o7 _ hp;rw[S.force_eq] at qZ;obtain⟨i,j,hx⟩:=hx.some;have iO:=gq (r:=none) (fG i j) h hx (K:=wpListIn (wd none) 0 Q ops.toArray Q' l) (Q':=Q') (λa' w' ⟨F',G',g1,g2⟩=>jB eE fG hT sH uW wK jV bZ l _ F' G' w' a' x.1 c hk g1 (pb hT hj g1 g2) qZ hK);exact du iO
def db(Q:Program)(kf:KF)(yt:Nat)(ry:S->List P->(PX×S->Prop)->Prop)(hk:List (Nat×(S×(PX×S)->K (PX×S×(PX×S)))))(dc:Nat->Nat):Code->S×(PX×S)->K (PX×S×(PX×S))
 | .skip,x=>K.ret (.normal,x)
 | .label _,x=>K.ret (.normal,x)
 | .region id ops draw,x=>if draw then K.bind (vp Q kf ops.toList (dc id) x.1) λs1=>K.ret (.normal,s1,x.2) else K.bind (jA Q kf yt ry ops.toList ops.toList [] x) λy=>K.ret (.normal,y)
 | .seq a b,x=>K.bind (db Q kf yt ry hk dc a x) λy=>match y.1 with
  | .normal=>db Q kf yt ry hk dc b y.2
  |_=>K.ret y
 | .cond c a b,x=>match x.1.ev c with
  | .d (.bool t)=>K.bind (K.dec t) λr=>if r then db Q kf yt ry hk dc a x else db Q kf yt ry hk dc b x
  |_=>K.fail
 | .block id c,x=>K.bind (db Q kf yt ry hk dc c x) λy=>match y.1 with
  | .exit kl=>if Nat.beq kl id then K.ret (.normal,y.2) else K.ret y
  |_=>K.ret y
 | .loop c,x=>match lk hk (Code.lB c) with
  |some h=>h x
  |none=>K.fail
 | .scope c,x=>db Q kf yt ry hk dc c x
 | .exit id,x=>K.ret (.exit id,x)
 | .ret,x=>K.ret (.ret,x)
 |_,_=>K.fail
variable{kp:tq}
theorem fm{kf:KF}(eE:oO kf (dh Q kp))(hX:cL Q Ti.w0 kp.X)(hdr:Q.follows .mixedOrders=true)(hT:Ti.w0=B.T.w0)(sH:Ti.Ea=false){yt:Nat}(uW:Ti.val yt= .func (.yield B.l) #[] #[])(wK:B.lp.state= .ready/\B.lp.pending=none/\B.lp.tmps=B.a.tmps)
  {base:Nat} {keep:Option (List Nat×List Nat)} {asg body:S->(PX×S->Prop)->Prop} (jV: ∀val lo s ae,asg s ae->TW Q ⟨val,B.T.w0,lo,false⟩ B.lp.assign s ae) (bZ: ∀val lo s ae,body s ae->TW Q ⟨val,B.T.w0,lo,false⟩ B.lp.body s ae)
  {hk:List (Nat×(S×(PX×S)->K (PX×S×(PX×S))))} {dc:Nat->Nat}: ∀(code:Code),bE dc code=true->
  (∀d∈ax code,∀h,lk hk (Code.lB d)=some h-> ∀x ae,h x ae->mg B Ti (.loop d) x.2 x.1 ae)-> ∀(x:S×(PX×S)) (ae:PX×S×(PX×S)->Prop),db Q kf yt (iu B.lp.params.toList base keep asg body) hk dc code x ae->mg B Ti code x.2 x.1 ae
 | .skip,_,_,x,ae,hp=>λF G w a Q' hs hj hK=>wpIn_skip (hK .normal x.1 x.2 a w hp ⟨F,G,hs,hj⟩)
 | .label _,_,_,x,ae,hp=>λF G w a Q' hs hj hK=>wpIn_label (hK .normal x.1 x.2 a w hp ⟨F,G,hs,hj⟩)
 | .region id ops draw,hl,_,x,ae,hp=>by
  have fG: ∀a b,cL Q Ti.w0 (dh Q kp a b):=λa b=>mQ hX hdr b;unfold db at hp;cases draw with
  |true=>obtain⟨s1,h1,hp⟩:=qx eE (zab (by simpa [bE] using hl)) _ hp;obtain⟨i,j,h1⟩:=h1.some;refine mg.mono (mg.lift hT (TW.uC (kp:=λ_=>none) (lf:=0) (fG i j) hdr (x:=(.normal,s1)) (by grind [aS]) (ae:=λy=>ae (y.1,y.2,x.2)) hp)) ?_;simp
  |false=>exact λF G w a Q' hs hj hK=>wpIn_region_list (by simpa using jB eE fG hT sH uW wK jV bZ ops.toList [] F G w a x.1 x.2 (fT.nil x.1) hs hj hp λs' c' a' w' km hP=>hK .normal s' c' a' w' km hP)
 | .seq a b,hl,hh,x,ae,hp=>by
  unfold db at hp;have xg:bE dc a=true/\bE dc b=true:=by simpa [bE] using hl
  refine mg.seq (fm eE hX hdr hT sH uW wK jV bZ a xg.1 (λd hd=>hh d (by simp[ax,hd])) x _ hp) (λs1 c1 h1=>fm eE hX hdr hT sH uW wK jV bZ b xg.2 (λd hd=>hh d (by simp[ax,hd])) (s1,c1) ae h1) λe s1 c1 he h1=> ?_;cases e with
  |normal=>grind
  |exit id=>exact h1
  |ret=>exact h1
 | .cond k a b,hl,hh,x,ae,hp=>by
  unfold db at hp;have xg:bE dc a=true/\bE dc b=true:=by simpa [bE] using hl
  have IG: ∃b,x.1.ev k= .d (.bool b):=by
   cases hb:x.1.ev k with
   |d y=>
    cases y with
    |bool b=>simp
    |_=>simp only[hb] at hp;exact hp.elim
   |_=>simp only[hb] at hp;exact hp.elim
  obtain⟨t,hb⟩:=IG;simp only[hb] at hp;refine mg.cond hb ?_;cases t with
  |true=>exact fm eE hX hdr hT sH uW wK jV bZ a xg.1 (λd hd=>hh d (by simp[ax,hd])) x ae hp
  |false=>exact fm eE hX hdr hT sH uW wK jV bZ b xg.2 (λd hd=>hh d (by simp[ax,hd])) x ae hp
 | .block id k,hl,hh,x,ae,hp=>by
  unfold db at hp;refine mg.block (fm eE hX hdr hT sH uW wK jV bZ k hl (λd hd=>hh d (by simpa [ax] using hd)) x _ hp) λe s1 c1 h1=> ?_;cases e with
  |normal=>exact h1
  |ret=>exact h1
  |exit kl=>
   simp only at h1⊢;split
   next h=>rw[zat h] at h1;exact h1
   rename_i h;rw[zaB h] at h1;exact h1
 | .loop k,hl,hh,x,ae,hp=>by
  cases Ff:lk hk (Code.lB k) with
  |some h=>simp_all [db,ax]
  |none=>simp only[db,Ff] at hp;exact hp.elim
 | .scope k,hl,hh,x,ae,hp=>by unfold db at hp;exact mg.scope (fm eE hX hdr hT sH uW wK jV bZ k hl (λd hd=>hh d (by simpa [ax] using hd)) x ae hp)
 | .exit id,_,_,x,ae,hp=>λF G w a Q' hs hj hK=>wpIn_exit (hK (.exit id) x.1 x.2 a w hp ⟨F,G,hs,hj⟩)
 | .ret,_,_,x,ae,hp=>λF G w a Q' hs hj hK=>wpIn_ret (hK .ret x.1 x.2 a w hp ⟨F,G,hs,hj⟩)
 | .rangeFunc _ _ _ _,_,_,x,ae,hp=>by unfold db at hp;exact hp.elim
 | .goto _,_,_,x,ae,hp=>by unfold db at hp;exact hp.elim
 | .refuse _,_,_,x,ae,hp=>by unfold db at hp;exact hp.elim
end
end Pi
