/- The text PiY. -/
import Derived.Test.YtfelfooeclnbiaaGreatDoorPiRf
namespace Pi
open Go
def KD(rec:Loop)(x:PX):Loop:={rec with state:=if(PX.jump x).isNone then .ready else .done,pending:=PX.jump x}
section
variable{Q:Program}{T Ti:Tg}{F:Nat->Prop}{G:Nat->Value}{w:World}{a:Act}{s:S}
theorem aB.other(h:aB Q T F G w a s){w':World}(hF: ∀b,F b->w'.heap[b]?=w.heap[b]?)(hO: ∀b,Own G s.rg b->w'.heap[b]?=w.heap[b]?)(hm: ∀d∈a.defers,∀D,d={target:= .collected D,args:= #[]}->w'.heap[D]?=w.heap[D]?)
  (cM:w.heap.size<=w'.heap.size) (hd:T.w0.drawn<=w'.drawn):aB Q T F G w' a s:=by
 refine⟨⟨h.r0.1,λd hd=> ?_⟩,h.size,λt p hp=>cy.mono (λ_ h=>h) hF (Names.refl _ _) (h.tm t p hp),
  λn e he=>(h.rg n e he).mono (λ_ h=>h) hF (Names.refl _ _) rfl (λb hb=>hO b ⟨n,e,he,hb⟩),h.own,h.mg,λb hb=>zaW (h.ja b hb) cM,h.tag,
  λb hb=>⟨(h.z b hb).1,(hF b (h.z b hb).1).trans (h.z b hb).2⟩,hd,zaE h.sz cM⟩
 obtain⟨D,h1,h0,h2,h3,h4⟩:=h.r0.2 d hd;grind
theorem aB.qhW(h:aB Q T F G w a s){F':Nat->Prop}(hF: ∀b,F b->F' b)(hn: ∀b,F' b->F b\/(¬Own G s.rg b/\b<w.heap.size/\ ∀d∈a.defers,d≠{target:= .collected b,args:= #[]})):aB Q T F' G w a s:=by
 refine⟨⟨h.r0.1,λd hd=> ?_⟩,h.size,λt p hp=>cy.mono hF (λ_ _=>rfl) (Names.refl _ _) (h.tm t p hp),
  λn e he=>(h.rg n e he).mono hF (λ_ _=>rfl) (Names.refl _ _) rfl (λb hb=>rfl),h.own,λn e b he hb hf=> ?_,λb hb=> ?_,h.tag,
  λb hb=>⟨hF b (h.z b hb).1,(h.z b hb).2⟩,h.dr,h.sz⟩
 ·obtain⟨D,h1,h0,h2,h3,h4⟩:=h.r0.2 d hd;grind
 ·rcases hn b hf with h5 | ⟨h5,_⟩
  ·exact h.mg n e b he hb h5
  exact h5 ⟨n,e,he,hb⟩
 rcases hn b hb with h5 | ⟨_,h5,_⟩
 ·exact h.ja b h5
 exact h5
def oz(Q:Program)(T:Tg)(a:Act)(l:Nat)(rec:Loop)(own0 F0:Nat->Prop)(W0:World)(c:PX×S)(W:World)(ZF ZO:Nat->Prop):Prop:=
 W.heap[l]?=some (.loop (KD rec c.1))/\ ∃F G,aB Q T F G W a c.2/\qQ F G c.2.rg a.defers l/\(∀b,ZF b->F b)/\
  (∀b,ZO b-> ¬F b/\ ¬Own G c.2.rg b/\b≠l/\(own0 b\/W0.heap.size<=b)/\ ∀d∈a.defers,d≠{target:= .collected b,args:= #[]})/\
  Ext own0 (Own G c.2.rg) F0 F (W0.putObj l (.deferred none)) (W.putObj l (.deferred none))
theorem oz.step{l:Nat}{rec:Loop}{own0 F0:Nat->Prop}{W0 W W':World}{c:PX×S}{ZF ZO ZF' ZO':Nat->Prop}(h:oz Q T a l rec own0 F0 W0 c W ZF ZO)(hx:Ext ZO ZO' ZF ZF' W W')(hd:T.w0.drawn<=W'.drawn)(hb: ∀b,ZF' b->b<W'.heap.size)(qhX: ∀b,ZO' b-> ¬ZF' b):
  oz Q T a l rec own0 F0 W0 c W' ZF' ZO':=by
 obtain⟨hl,F,G,h1,h2,h3,h4,h5⟩:=h;have bz:l<W.heap.size:=(zau.1 hl).1;have hlZ: ¬ZO l:=λhz=>(h4 l hz).2.2.1 rfl;have ML:W0.heap.size<=W.heap.size:=by simpa using h5.size
 have g1:aB Q T F G W' a c.2:=h1.other (λb hb=>hx.keep b (h1.ja b hb) λhz=>(h4 b hz).1 hb) (λb hb=>hx.keep b (h1.mA hb) λhz=>(h4 b hz).2.1 hb)
  (λd QC D hD=>by
   obtain⟨D',k1,_,k2,_⟩:=h1.r0.2 d QC;rw[k1] at hD;injection hD with e1 e2
   injection e1 with e1
   subst e1;exact hx.keep D' (zau.1 k2).1 λhz=>(h4 D' hz).2.2.2.2 d QC k1) hx.size hd
 have eS: ∀b,ZF' b->F b\/(¬Own G c.2.rg b/\b<W'.heap.size/\ ∀d∈a.defers,d≠{target:= .collected b,args:= #[]}):=λb hz=>by
  rcases hx.mz b hz with h |h |h
  ·grind
  ·grind
  refine .inr ⟨λho=> ?_,hb b hz,λd QC e=> ?_⟩
  ·have:=h1.mA ho;omega
  obtain⟨D',k1,_,k2,_⟩:=h1.r0.2 d QC;grind
 refine⟨(hx.keep l bz hlZ).trans hl,λb=>F b\/ZF' b,G,g1.qhW (λ_ h=> .inl h) (λb cV=>cV.elim .inl (eS b)),⟨λhf=> ?_,h2.2⟩,λ_ h=> .inr h,λb hz=> ?_,?_⟩
 ·rcases hf with hf |hf
  ·exact h2.1 hf
  rcases hx.mz l hf with h |h |h
  ·exact h2.1 (h3 l h)
  ·exact hlZ h
  omega
 ·rcases hx.lv b hz with h |h
  ·grind
  refine⟨λhf=>hf.elim (λhf=>by have:=h1.ja b hf;omega) (qhX b hz),λho=>(by have:=h1.mA ho;omega),λe=>(by omega),.inr (by omega),λd QC e=> ?_⟩;obtain⟨D',k1,_,k2,_⟩:=h1.r0.2 d QC;grind
 have e0:(W0.putObj l (.deferred none)).heap.size=W0.heap.size:=by simp
 refine⟨λb hf=> .inl (h5.kK b hf),λb hf=> ?_,h5.lv,λb qhY bk=> ?_,?_,hx.os.trans h5.os,hx.tape.trans h5.tape,hx.output.trans h5.output⟩
 ·rcases hf with hf |hf
  ·exact h5.mz b hf
  rcases hx.mz b hf with h |h |h
  ·exact h5.mz b (h3 b h)
  ·grind
  grind
 ·rw[<-h5.keep b qhY bk];by_cases Qz:b=l
  ·subst Qz;rw[World.putObj_heap_same (zaW bz hx.size),World.putObj_heap_same bz]
  rw[eO _ _ _ Qz,eO _ _ _ Qz];refine hx.keep b (by omega) λhz=> ?_;grind
 have e1:(W'.putObj l (.deferred none)).heap.size=W'.heap.size:=by simp
 rw[e0,e1];exact zaE ML hx.size
theorem oz.round{l:Nat}{rec:Loop}{own0 F0:Nat->Prop}{W0:World}{c:S}{Fi:Nat->Prop}{Gi:Nat->Value}{ai:Act}{si:S}(hlr:rec.state= .ready/\rec.pending=none/\rec.tmps=a.tmps)(hTi:Ti.w0=T.w0)(A1:Ti.Ph=false)
  (h:oz Q T a l rec own0 F0 W0 (.normal,c) w Fi (Own Gi si.rg)) (hi:aB Q Ti Fi Gi w ai si) {base:Nat} {keep:Option (List Nat×List Nat)} {asg body:S->(PX×S->Prop)->Prop}
  (oM: ∀val lo s ae,asg s ae->TW Q ⟨val,T.w0,lo,false⟩ rec.assign s ae) (cD: ∀val lo s ae,body s ae->TW Q ⟨val,T.w0,lo,false⟩ rec.body s ae) {m:Nat} {vs:List Value} {args:List D} (hlen:vs.length=args.length) (mB:vs.length=rec.params.size)
  (hv: ∀(i:Nat) (v:Value) (x:D),vs[i]?=some v->args[i]?=some x->aU Fi w v x) {ae:PX×S->Prop} (hp:j7 rec.params.toList base keep asg body c (args.map .d) ae):
  YieldAt (wd none) m Q l ⟨vs⟩ w (λe w'=> ∃x s',ae (x,s')/\e= .returned (.bool (PX.jump x).isNone)/\oz Q T a l rec own0 F0 W0 (x,s') w' Fi (Own Gi si.rg)/\aB Q Ti Fi Gi w' ai si):=by
 obtain⟨hl,F,G,h1,h2,h3,h4,h5⟩:=h;have Qr:KD rec .normal=rec:=by obtain⟨e1,e2,_⟩:=hlr;cases rec;subst e1;subst e2;rfl
 rw[Qr] at hl;obtain⟨fn,tmps,qcb,body',y1,y2⟩:=QA (m:=m) hl hlr.1 hlr.2.2 h2 h1 oM cD hlen mB (λi v x hvv hx=>(hv i v x hvv hx).up h3) hp;refine⟨fn,tmps,qcb,body',y1,y2.mono ?_⟩;rintro e w' ⟨x,s',p1,p2,p3,F',G',p4,p5,p6⟩;have q0: ∀b,b<w.heap.size->b≠l-> ¬Own G c.rg b->w'.heap[b]?=w.heap[b]?:=λb hb Qz bk=>by have:=p6.keep b (by simpa using hb) bk;rwa [eO _ _ _ Qz,eO _ _ _ Qz] at this
 have cM:w.heap.size<=w'.heap.size:=by simpa using p6.size
 refine⟨x,s',p1,p2,⟨p3,F',G',p4,p5,λb hb=>p6.kK b (h3 b hb),λb hb=>⟨λhf=> ?_,λho=> ?_,(h4 b hb).2.2⟩,h5.trans p6⟩,?_⟩
 ·rcases p6.mz b hf with h |h |h
  ·grind
  ·grind
  have:=hi.mA hb;simp at h;omega
 ·rcases p6.lv b ho with h |h
  ·grind
  have:=hi.mA hb;simp at h;omega
 refine hi.other (λb hb=>q0 b (hi.ja b hb) (λe=>h2.1 (e▸h3 b hb)) λ⟨n,e,he,hob⟩=>h1.mg n e b he hob (h3 b hb)) (λb hb=>q0 b (hi.mA hb) (h4 b hb).2.2.1 (h4 b hb).2.1) (λd hd D hD=> ?_) cM (by rw[hTi];exact p4.dr);obtain⟨_,_,h0,_⟩:=hi.r0.2 d hd;rw[A1] at h0;cases h0.2
structure nK(Q:Program) where
 T:Tg
 a:Act
 l:Nat
 lp:Loop
 own0:Nat->Prop
 F0:Nat->Prop
 W0:World
def nK.at(B:nK Q)(c:PX×S)(W:World)(ZF ZO:Nat->Prop):Prop:=oz Q B.T B.a B.l B.lp B.own0 B.F0 B.W0 c W ZF ZO
def qc(B:nK Q)(Ti:Tg)(code:Code)(c:PX×S)(s:S)(ae:PX×S×(PX×S)->Prop):Prop:=
 ∀(F:Nat->Prop) (G:Nat->Value) (w:World) (a:Act) (Q':Exit->Act->World->Prop),aB Q Ti F G w a s->B.at c w F (Own G s.rg)->
  (∀e s' c' a' w',ae (e,s',c')->(∃F' G',aB Q Ti F' G' w' a' s'/\B.at c' w' F' (Own G' s'.rg))->Q' e.fo a' w')->code.wpIn (wd none) 0 Q Q' a w
theorem wM{B:nK Q}{c:PX×S}{F':Nat->Prop}{G':Nat->Value}{w':World}{a':Act}{s':S}(hT:Ti.w0=B.T.w0)(h:B.at c w F (Own G s.rg))(h1:aB Q Ti F' G' w' a' s')(hx:Ext (Own G s.rg) (Own G' s'.rg) F F' w w'):B.at c w' F' (Own G' s'.rg):=
 oz.step h hx (hT▸h1.dr) h1.ja λb ⟨n,e,he,hb⟩ hf=>h1.mg n e b he hb hf
variable{B:nK Q}{c:PX×S}{code:Code}
theorem qc.lift(hT:Ti.w0=B.T.w0){p:PX×S->Prop}(h:TW Q Ti code s p):qc B Ti code c s (λx=>p (x.1,x.2.1)/\x.2.2=c):=λF G w a Q' hs hj hK=>h (λ_=>rfl) F G w a Q' hs λe s' a' w' hp ⟨F',G',h1,h2⟩=>hK e s' c a' w' ⟨hp,rfl⟩ ⟨F',G',h1,wM hT hj h1 h2⟩
theorem qc.mono{p q:PX×S×(PX×S)->Prop}(h:qc B Ti code c s p)(Pu: ∀x,p x->q x):qc B Ti code c s q:=λF G w a Q' hs hj hK=>h F G w a Q' hs hj λe s' c' a' w' hp=>hK e s' c' a' w' (Pu _ hp)
theorem qc.seq{x y:Code}{p ae:PX×S×(PX×S)->Prop}(h1:qc B Ti x c s p)(h2: ∀s1 c1,p (.normal,s1,c1)->qc B Ti y c1 s1 ae)(h3: ∀e s1 c1,e≠ .normal->p (e,s1,c1)->ae (e,s1,c1)):qc B Ti (.seq x y) c s ae:=λF G w a Q' hs hj hK=>by
 refine wpIn_seq (h1 F G w a _ hs hj λe s1 c1 a1 w1 hp hP=> ?_);cases e with
 |normal=>obtain⟨F1,G1,g1,g2⟩:=hP;exact h2 s1 c1 hp F1 G1 w1 a1 Q' g1 g2 hK
 |exit id=>exact hK _ s1 c1 a1 w1 (h3 _ _ _ (by simp) hp) hP
 |ret=>exact hK _ s1 c1 a1 w1 (h3 _ _ _ (by simp) hp) hP
theorem qc.cond{k:Operand}{x y:Code}{b:Bool}{ae:PX×S×(PX×S)->Prop}(hb:s.ev k= .d (.bool b))(h:qc B Ti (if b then x else y) c s ae):qc B Ti (.cond k x y) c s ae:=λF G w a Q' hs hj hK=>by
 have hv:a.eval k= .bool b:=by have:=w9 hs k;rw[hb] at this;exact aF.cp (p:= .d (.bool b)) this rfl
 refine wpIn_cond hv ?_;cases b with
 |true=>exact h F G w a Q' hs hj hK
 |false=>exact h F G w a Q' hs hj hK
theorem qc.block{id:Nat}{x:Code}{p ae:PX×S×(PX×S)->Prop}(h:qc B Ti x c s p)(hp: ∀e s1 c1,p (e,s1,c1)->match e with | .exit pd=>if Nat.beq pd id then ae (.normal,s1,c1) else ae (.exit pd,s1,c1)|e=>ae (e,s1,c1)):qc B Ti (.block id x) c s ae:=λF G w a Q' hs hj hK=>by
 refine wpIn_block (h F G w a _ hs hj λe s1 c1 a1 w1 uu hP=> ?_);have hq:=hp e s1 c1 uu;cases e with
 |normal=>exact hK _ s1 c1 a1 w1 hq hP
 |ret=>exact hK _ s1 c1 a1 w1 hq hP
 |exit pd=>
  simp only at hq;by_cases hid:pd=id
  ·subst hid;rw[zaq (by simp)] at hq;simp only[PX.fo,Exit.inBlock,zbg];exact hK _ s1 c1 a1 w1 hq hP
  rw[zap (by simpa using hid)] at hq;simp only[PX.fo,Exit.inBlock,hid,zbq];exact hK _ s1 c1 a1 w1 hq hP
theorem qc.scope{x:Code}{ae:PX×S×(PX×S)->Prop}(h:qc B Ti x c s ae):qc B Ti (.scope x) c s ae:=λF G w a Q' hs hj hK=>by refine fW (h F G w a _ hs hj λe s1 c1 a1 w1 hp hP=> ?_);have:=hK e s1 c1 a1 w1 hp hP;cases e<;>simpa [PX.fo,Exit.noGoto] using this
theorem wN(hT:Ti.w0=B.T.w0){keep:Option (List Nat×List Nat)}{s0:S}(hj:B.at c w F (Own G s.rg))(hs:aB Q Ti F G w a s)(h:cH keep s=some s0): ∃G0,aB Q Ti F G0 w a s0/\B.at c w F (Own G0 s0.rg):=by grind [fL,wM]
theorem qc.loop(hT:Ti.w0=B.T.w0){x:Code}{keep:Option (List Nat×List Nat)}{I:Nat->S->PX×S->Prop}{O:PX×S×(PX×S)->Prop}
  (hr: ∀n s c,I n s c->qc B Ti x c s (λy=>match y.1 with | .normal=> ∃s2,cH keep y.2.1=some s2/\ ∃m,m<n/\I m s2 y.2.2 |e=> ∃s2,eE keep y.2.1=some s2/\O (e,s2,y.2.2)))
  {n:Nat} {s0:S} (h0:cH keep s=some s0) (hI:I n s0 c):qc B Ti (.loop x) c s O:=λF G w a Q' hs hj hK=>by
 obtain⟨G0,g1,g2⟩:=wN hT hj hs h0;have key: ∀(N n:Nat) (s:S) (c:PX×S),n<N->I n s c-> ∀(F:Nat->Prop) (G:Nat->Value) (w:World) (a:Act),aB Q Ti F G w a s->B.at c w F (Own G s.rg)->Code.roundsIn (wd none) 0 Q x Q' N a w:=by
  intro N
  induction N with
  |zero=>simp
  |succ N ih=>
   intro n s c hn hI F G w a hs hj;refine hr n s c hI F G w a _ hs hj λe s1 c1 a1 w1 hp hP=> ?_;obtain⟨F1,G1,k1,k2⟩:=hP;cases e with
   |normal=>obtain⟨s2,h2,m,hm,hi⟩:=hp;obtain⟨G2,m1,m2⟩:=wN hT k2 k1 h2;exact ih m s2 c1 (by omega) hi F1 G2 w1 a1 m1 m2
   |exit id=>obtain⟨s2,h2,hO⟩:=hp;obtain⟨G2,m1,m2⟩:=wN (keep:=keep.map λl=>(l.2,l.2)) hT k2 k1 (by cases keep<;>exact h2);exact hK _ s2 c1 a1 w1 hO ⟨F1,G2,m1,m2⟩
   |ret=>obtain⟨s2,h2,hO⟩:=hp;obtain⟨G2,m1,m2⟩:=wN (keep:=keep.map λl=>(l.2,l.2)) hT k2 k1 (by cases keep<;>exact h2);exact hK _ s2 c1 a1 w1 hO ⟨F1,G2,m1,m2⟩
 exact wpIn_loop_rounds (n+1) (key (n+1) n s0 c (by omega) hI F G0 w a g1 g2)
def yieldOf(yt:Nat)(s:S)(o:Oper):Option (List D):=
 match gx o,o.guard with
 |some (f,xs),none=>match s.ev f with
  | .mp y v=>match lk s.rg y with
   |some e=>match e.obj,e.tag with
    | .je,some i=>if Nat.beq e.aR v&&Nat.beq i yt then zA (xs.map s.ev) else none
    |_,_=>none
   |none=>none
  |_=>none
 |_,_=>none
def nL(Q:Program)(kf:KF)(yt:Nat)(ry:S->List P->(PX×S->Prop)->Prop)(ops:List Oper):List Oper->List (Nat×Bool)->S×(PX×S)->(S×(PX×S)->Prop)->Prop
 | [],_,x,ae=>ae x
 |o::l,kn,x,ae=>match pK o with
  |some it=>Bb Q x.1 o.dst ((x.1.ev it).under none) λs1=>s1.force λs1=>nL Q kf yt ry ops l [] (s1,x.2) ae
  |none=>match yieldOf yt x.1 o with
  |some ds=>(match x.2.1 with
   | .normal=>ry x.2.2 (ds.map .d) λy=>match x.1.put o.dst (.d (.bool (PX.jump y.1).isNone)) with
    |some s1=>nL Q kf yt ry ops l [] (s1,y) ae
    |none=>False
   |_=>False)
  |none=>Aw Q kf ops kn x.1 o λz=>z.1.force λs1=>nL Q kf yt ry ops l z.2 (s1,x.2) ae
theorem yc: ∀(ts:List Nat) (ps:List P) (s s1:S),kX s ts ps=some s1->ts.length=ps.length
 | [],[],_,_,_=>rfl
 | [],_::_,s,s1,h=>by simp[kX] at h
 |_::_,[],s,s1,h=>by simp[kX] at h
 |t::ts,p::ps,s,s1,h=>by
  simp only[kX] at h;split at h
  ·simp[yc ts ps _ _ h]
  cases h
theorem Fl{ps:List Nat}{base:Nat}{keep:Option (List Nat×List Nat)}{asg body:S->(PX×S->Prop)->Prop}{s:S}{args:List P}{ae:PX×S->Prop}(h:j7 ps base keep asg body s args ae):ps.length=args.length:=by grind [j7,yc]
theorem Fm: ∀(ps:List P) (ds:List D),zA ps=some ds->ps=ds.map .d
 | [],ds,h=>by grind [zA]
 |p::ps,ds,h=>by
  cases p<;>simp only[zA] at h<;>try (cases h;done)
  split at h
  next x xs hx=>simp at h;subst h;simp[Fm ps xs hx]
  cases h
theorem nM{kf:KF}{cf:Nat->Nat->CF}(iu:zV kf cf)(jl: ∀a b,eG Q Ti.w0 (cf a b))(hT:Ti.w0=B.T.w0)(A1:Ti.Ph=false){yt:Nat}(Fo:Ti.val yt= .func (.yield B.l) #[] #[])(Fp:B.lp.state= .ready/\B.lp.pending=none/\B.lp.tmps=B.a.tmps)
  {base:Nat} {keep:Option (List Nat×List Nat)} {asg body:S->(PX×S->Prop)->Prop} (oM: ∀val lo s ae,asg s ae->TW Q ⟨val,B.T.w0,lo,false⟩ B.lp.assign s ae) (cD: ∀val lo s ae,body s ae->TW Q ⟨val,B.T.w0,lo,false⟩ B.lp.body s ae)
  {ops:List Oper} {Q':Exit->Act->World->Prop} {ae:S×(PX×S)->Prop}: ∀(l:List Oper) (kn:List (Nat×Bool)) (F:Nat->Prop) (G:Nat->Value) (w:World) (a:Act) (s:S) (c:PX×S),jL kn s->aB Q Ti F G w a s->B.at c w F (Own G s.rg)->
  nL Q kf yt (j7 B.lp.params.toList base keep asg body) ops l kn (s,c) ae->(∀s' c' a' w',ae (s',c')->(∃F' G',aB Q Ti F' G' w' a' s'/\B.at c' w' F' (Own G' s'.rg))->Q' .normal a' w')->wpListIn (wd none) 0 Q ops.toArray Q' l a w
 | [],kn,F,G,w,a,s,c,_,h,hj,hp,hK=>by unfold nL at hp;exact hK s c a w hp ⟨F,G,h,hj⟩
 |o::l,kn,F,G,w,a,s,c,dy,h,hj,hp,hK=>by
  unfold nL at hp;split at hp
  next it ho=>
   have Kr:o.guard=none:=by
    unfold pK at ho;split at ho
    ·simp_all
    cases ho
   simp only[S.force_eq] at hp;have:o.wpIn (wd none) 0 Q a w (wpListIn (wd none) 0 Q ops.toArray Q' l) Q':=KB h ho hp λs1 a1 w1 uu ⟨F1,G1,g1,g2⟩=>nM iu jl hT A1 Fo Fp oM cD l _ F1 G1 w1 a1 s1 c (jL.nil s1) g1 (wM hT hj g1 g2) uu hK;exact fk (by rw[zaq (by simp[Region.wanted,Kr])];exact this)
  split at hp
  next ds hy=>
   split at hp
   ·rename_i hc0;unfold yieldOf at hy;split at hy
    ·rename_i f xs iq Kr;split at hy
     ·rename_i y v hfe;split at hy
      ·rename_i e he;split at hy
       ·rename_i i bH hei;split at hy
        ·rename_i dZ;have dw:e.aR=v:=by simp_all
         have hi:i=yt:=by simp_all
         subst hi;have hG:G y= .func (.yield B.l) #[] #[]:=by rw[h.tag y e i he hei (by rw[bH];rfl)];exact Fo
         have hval:a.eval f= .func (.yield B.l) #[] #[]:=by
          have:=w9 h f;rw[hfe] at this;generalize a.eval f=u at this;cases this with
          |mp _ _ _ h1 hr=>rw[<-hG];exact hr.at he dw (by rw[bH];rfl)
         unfold gx at iq;split at iq
         ·rename_i cl tM;split at iq
          ·rename_i f' kO;obtain⟨rfl,rfl⟩:=iq;have cN:=Fm _ _ hy;have hlen:(cl.args.toList.map a.eval).length=ds.length:=by have:=congrArg List.length cN;grind
           have ln:c=(.normal,c.2):=by rw[<-hc0]
           have AQ:oz Q B.T B.a B.l B.lp B.own0 B.F0 B.W0 (.normal,c.2) w F (Own G s.rg):=by rw[<-ln];exact hj
           have mB:(cl.args.toList.map a.eval).length=B.lp.params.size:=by have:=Fl hp;simp at this;rw[hlen,<-this]
           obtain⟨fn,tmps,qcb,body',y1,y2⟩:=oz.round (m:=0-1) (vs:=cl.args.toList.map a.eval) Fp hT A1 AQ h oM cD hlen mB (λj u x hu hx=>by
            rw[zaD,zav] at hu;obtain⟨z,hz,rfl⟩:=hu;have hzz:=w9 h z;have:s.ev z= .d x:=by have e1:=congrArg (λl=>l[j]?) cN;grind
            rw[this] at hzz;generalize a.eval z=u at hzz⊢;cases hzz with
            |d hd=>exact hd) hp
           have this:o.wpIn (wd none) 0 Q a w (wpListIn (wd none) 0 Q ops.toArray Q' l) Q':=by
            refine sH (λc' zm=>by rw[tM] at zm;cases zm) ?_;have bX:(execOp a.eval o).run Q w= .ok (.round B.l fn tmps qcb body') w:=by
             have e:cl.args.map a.eval=⟨cl.args.toList.map a.eval⟩:=by grind
             rw[<-y1,<-e];simp[execOp,tM,resolve,kO,hval,Deferred.ofValue,invoke]
            rw[bX];refine⟨λh=>(by cases h),y2.mono ?_⟩;rintro e' w' ⟨x,s',p1,rfl,p3,p4⟩;split at p1
            next s1 oK=>obtain⟨c1,c2⟩:=cr p4 oK (v:= .bool (PX.jump x).isNone) (cy.of (.d (.bool _)));exact nM iu jl hT A1 Fo Fp oM cD l [] F G w' _ s1 (x,s') (jL.nil s1) c1 (by rw[c2];exact p3) p1 hK
            grind
           exact fk (by rw[zaq (by simp[Region.wanted,Kr])];exact this)
          grind
         grind
        cases hy
       cases hy
      cases hy
     cases hy
    cases hy
   grind
  obtain⟨x,⟨hx,hk⟩,uu⟩:=sN iu dy _ hp;rw[S.force_eq] at uu;obtain⟨i,j,hx⟩:=hx.some;have jy:=ku (r:=none) (jl i j) h hx (K:=wpListIn (wd none) 0 Q ops.toArray Q' l) (Q':=Q') (λa' w' ⟨F',G',g1,g2⟩=>nM iu jl hT A1 Fo Fp oM cD l _ F' G' w' a' x.1 c hk g1 (wM hT hj g1 g2) uu hK);exact fk jy
def ey(Q:Program)(kf:KF)(yt:Nat)(ry:S->List P->(PX×S->Prop)->Prop)(hk:List (Nat×(S×(PX×S)->K (PX×S×(PX×S)))))(dc:Nat->Nat):Code->S×(PX×S)->K (PX×S×(PX×S))
 | .skip,x=>K.ret (.normal,x)
 | .label _,x=>K.ret (.normal,x)
 | .region id ops draw,x=>if draw then K.bind (El Q kf ops.toList (dc id) x.1) λs1=>K.ret (.normal,s1,x.2) else K.bind (nL Q kf yt ry ops.toList ops.toList [] x) λy=>K.ret (.normal,y)
 | .seq a b,x=>K.bind (ey Q kf yt ry hk dc a x) λy=>match y.1 with
  | .normal=>ey Q kf yt ry hk dc b y.2
  |_=>K.ret y
 | .cond c a b,x=>match x.1.ev c with
  | .d (.bool t)=>K.bind (K.dec t) λr=>if r then ey Q kf yt ry hk dc a x else ey Q kf yt ry hk dc b x
  |_=>K.fail
 | .block id c,x=>K.bind (ey Q kf yt ry hk dc c x) λy=>match y.1 with
  | .exit pd=>if Nat.beq pd id then K.ret (.normal,y.2) else K.ret y
  |_=>K.ret y
 | .loop c,x=>match lk hk (Code.rZ c) with
  |some h=>h x
  |none=>K.fail
 | .scope c,x=>ey Q kf yt ry hk dc c x
 | .exit id,x=>K.ret (.exit id,x)
 | .ret,x=>K.ret (.ret,x)
 |_,_=>K.fail
variable{kp:sr}
theorem gN{kf:KF}(iu:zV kf (fG Q kp))(hX:eG Q Ti.w0 kp.X)(hdr:Q.follows .mixedOrders=true)(hT:Ti.w0=B.T.w0)(A1:Ti.Ph=false){yt:Nat}(Fo:Ti.val yt= .func (.yield B.l) #[] #[])(Fp:B.lp.state= .ready/\B.lp.pending=none/\B.lp.tmps=B.a.tmps)
  {base:Nat} {keep:Option (List Nat×List Nat)} {asg body:S->(PX×S->Prop)->Prop} (oM: ∀val lo s ae,asg s ae->TW Q ⟨val,B.T.w0,lo,false⟩ B.lp.assign s ae) (cD: ∀val lo s ae,body s ae->TW Q ⟨val,B.T.w0,lo,false⟩ B.lp.body s ae)
  {hk:List (Nat×(S×(PX×S)->K (PX×S×(PX×S))))} {dc:Nat->Nat}: ∀(code:Code),b8 dc code=true->
  (∀d∈aM code,∀h,lk hk (Code.rZ d)=some h-> ∀x ae,h x ae->qc B Ti (.loop d) x.2 x.1 ae)-> ∀(x:S×(PX×S)) (ae:PX×S×(PX×S)->Prop),ey Q kf yt (j7 B.lp.params.toList base keep asg body) hk dc code x ae->qc B Ti code x.2 x.1 ae
 | .skip,_,_,x,ae,hp=>λF G w a Q' hs hj hK=>wpIn_skip (hK .normal x.1 x.2 a w hp ⟨F,G,hs,hj⟩)
 | .label _,_,_,x,ae,hp=>λF G w a Q' hs hj hK=>wpIn_label (hK .normal x.1 x.2 a w hp ⟨F,G,hs,hj⟩)
 | .region id ops draw,hl,_,x,ae,hp=>by
  have jl: ∀a b,eG Q Ti.w0 (fG Q kp a b):=λa b=>sP hX hdr b;unfold ey at hp;cases draw with
  |true=>obtain⟨s1,h1,hp⟩:=xV iu (zah (by simpa [b8] using hl)) _ hp;obtain⟨i,j,h1⟩:=h1.some;refine qc.mono (qc.lift hT (TW.of_run (kp:=λ_=>none) (lf:=0) (jl i j) hdr (x:=(.normal,s1)) (by grind [bJ]) (ae:=λy=>ae (y.1,y.2,x.2)) hp)) ?_;simp
  |false=>exact λF G w a Q' hs hj hK=>wpIn_region_list (by simpa using nM iu jl hT A1 Fo Fp oM cD ops.toList [] F G w a x.1 x.2 (jL.nil x.1) hs hj hp λs' c' a' w' mB hP=>hK .normal s' c' a' w' mB hP)
 | .seq a b,hl,hh,x,ae,hp=>by
  unfold ey at hp;have CL:b8 dc a=true/\b8 dc b=true:=by simpa [b8] using hl
  refine qc.seq (gN iu hX hdr hT A1 Fo Fp oM cD a CL.1 (λd hd=>hh d (by simp[aM,hd])) x _ hp) (λs1 c1 h1=>gN iu hX hdr hT A1 Fo Fp oM cD b CL.2 (λd hd=>hh d (by simp[aM,hd])) (s1,c1) ae h1) λe s1 c1 he h1=> ?_;cases e with
  |normal=>grind
  |exit id=>exact h1
  |ret=>exact h1
 | .cond k a b,hl,hh,x,ae,hp=>by
  unfold ey at hp;have CL:b8 dc a=true/\b8 dc b=true:=by simpa [b8] using hl
  have hbx: ∃b,x.1.ev k= .d (.bool b):=by
   cases hb:x.1.ev k with
   |d y=>
    cases y with
    |bool b=>simp
    |_=>simp only[hb] at hp;exact hp.elim
   |_=>simp only[hb] at hp;exact hp.elim
  obtain⟨t,hb⟩:=hbx;simp only[hb] at hp;refine qc.cond hb ?_;cases t with
  |true=>exact gN iu hX hdr hT A1 Fo Fp oM cD a CL.1 (λd hd=>hh d (by simp[aM,hd])) x ae hp
  |false=>exact gN iu hX hdr hT A1 Fo Fp oM cD b CL.2 (λd hd=>hh d (by simp[aM,hd])) x ae hp
 | .block id k,hl,hh,x,ae,hp=>by
  unfold ey at hp;refine qc.block (gN iu hX hdr hT A1 Fo Fp oM cD k hl (λd hd=>hh d (by simpa [aM] using hd)) x _ hp) λe s1 c1 h1=> ?_;cases e with
  |normal=>exact h1
  |ret=>exact h1
  |exit pd=>
   simp only at h1⊢;split
   next h=>rw[zaq h] at h1;exact h1
   rename_i h;rw[zap h] at h1;exact h1
 | .loop k,hl,hh,x,ae,hp=>by
  cases Wy:lk hk (Code.rZ k) with
  |some h=>simp_all [ey,aM]
  |none=>simp only[ey,Wy] at hp;exact hp.elim
 | .scope k,hl,hh,x,ae,hp=>by unfold ey at hp;exact qc.scope (gN iu hX hdr hT A1 Fo Fp oM cD k hl (λd hd=>hh d (by simpa [aM] using hd)) x ae hp)
 | .exit id,_,_,x,ae,hp=>λF G w a Q' hs hj hK=>wpIn_exit (hK (.exit id) x.1 x.2 a w hp ⟨F,G,hs,hj⟩)
 | .ret,_,_,x,ae,hp=>λF G w a Q' hs hj hK=>wpIn_ret (hK .ret x.1 x.2 a w hp ⟨F,G,hs,hj⟩)
 | .rangeFunc _ _ _ _,_,_,x,ae,hp=>by unfold ey at hp;exact hp.elim
 | .goto _,_,_,x,ae,hp=>by unfold ey at hp;exact hp.elim
 | .refuse _,_,_,x,ae,hp=>by unfold ey at hp;exact hp.elim
end
end Pi
