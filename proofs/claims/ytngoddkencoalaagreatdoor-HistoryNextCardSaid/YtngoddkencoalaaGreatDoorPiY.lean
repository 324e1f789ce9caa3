/- The text PiY. -/
import Derived.Test.YtngoddkencoalaaGreatDoorPiRf
namespace Pi
open Go
def KA (rec:Loop) (x:PX):Loop:={rec with state:=if(PX.jump x).isNone then .ready else .done,pending:=PX.jump x}
section
variable {Q:Program} {T Ti:Tg} {F:Nat->Prop} {G:Nat->Value} {w:World} {a:Act} {s:S}
theorem aC.other (h:aC Q T F G w a s) {w':World} (hF: ∀b,F b->w'.heap[b]?=w.heap[b]?) (hO: ∀b,Own G s.rg b->w'.heap[b]?=w.heap[b]?) (hm: ∀d∈a.defers,∀D,d={target:= .collected D,args:= #[]}->w'.heap[D]?=w.heap[D]?)
  (dq:w.heap.size<=w'.heap.size) (hd:T.w0.drawn<=w'.drawn):aC Q T F G w' a s:=by
 refine⟨⟨h.rf.1,fun d hd=> ?_⟩,h.size,fun t p hp=>ct.mono (fun _ h=>h) hF (Names.refl _ _) (h.tm t p hp),
  fun n e he=>(h.rg n e he).mono (fun _ h=>h) hF (Names.refl _ _) rfl (fun b hb=>hO b ⟨n,e,he,hb⟩),h.own,h.mq,fun b hb=>za3 (h.jm b hb) dq,h.tag,
  fun b hb=>⟨(h.z b hb).1,(hF b (h.z b hb).1).trans (h.z b hb).2⟩,hd,zaI h.sz dq⟩
 obtain⟨D,h1,h0,h2,h3,h4⟩:=h.rf.2 d hd
 grind
theorem aC.qhV (h:aC Q T F G w a s) {F':Nat->Prop} (hF: ∀b,F b->F' b) (hn: ∀b,F' b->F b\/(¬Own G s.rg b/\b<w.heap.size/\ ∀d∈a.defers,d≠{target:= .collected b,args:= #[]})):aC Q T F' G w a s:=by
 refine⟨⟨h.rf.1,fun d hd=> ?_⟩,h.size,fun t p hp=>ct.mono hF (fun _ _=>rfl) (Names.refl _ _) (h.tm t p hp),
  fun n e he=>(h.rg n e he).mono hF (fun _ _=>rfl) (Names.refl _ _) rfl (fun b hb=>rfl),h.own,fun n e b he hb hf=> ?_,fun b hb=> ?_,h.tag,
  fun b hb=>⟨hF b (h.z b hb).1,(h.z b hb).2⟩,h.dr,h.sz⟩
 ·obtain⟨D,h1,h0,h2,h3,h4⟩:=h.rf.2 d hd
  grind
 ·rcases hn b hf with h5 | ⟨h5,_⟩
  ·exact h.mq n e b he hb h5
  ·exact h5 ⟨n,e,he,hb⟩
 ·rcases hn b hb with h5 | ⟨_,h5,_⟩
  ·exact h.jm b h5
  ·exact h5
def od (Q:Program) (T:Tg) (a:Act) (l:Nat) (rec:Loop) (own0 F0:Nat->Prop) (W0:World) (c:PX×S) (W:World) (ZF ZO:Nat->Prop):Prop:=
 W.heap[l]?=some (.loop (KA rec c.1))/\ ∃F G,aC Q T F G W a c.2/\qV F G c.2.rg a.defers l/\(∀b,ZF b->F b)/\
  (∀b,ZO b-> ¬F b/\ ¬Own G c.2.rg b/\b≠l/\(own0 b\/W0.heap.size<=b)/\ ∀d∈a.defers,d≠{target:= .collected b,args:= #[]})/\
  Ext own0 (Own G c.2.rg) F0 F (W0.putObj l (.deferred none)) (W.putObj l (.deferred none))
theorem od.step {l:Nat} {rec:Loop} {own0 F0:Nat->Prop} {W0 W W':World} {c:PX×S} {ZF ZO ZF' ZO':Nat->Prop} (h:od Q T a l rec own0 F0 W0 c W ZF ZO) (hx:Ext ZO ZO' ZF ZF' W W') (hd:T.w0.drawn<=W'.drawn) (hb: ∀b,ZF' b->b<W'.heap.size) (qhW: ∀b,ZO' b-> ¬ZF' b):
  od Q T a l rec own0 F0 W0 c W' ZF' ZO':=by
 obtain⟨hl,F,G,h1,h2,h3,h4,h5⟩:=h
 have bG:l<W.heap.size:=(zar.1 hl).1
 have hlZ: ¬ZO l:=fun hz=>(h4 l hz).2.2.1 rfl
 have hs0:W0.heap.size<=W.heap.size:=by simpa using h5.size
 have g1:aC Q T F G W' a c.2:=h1.other (fun b hb=>hx.keep b (h1.jm b hb) fun hz=>(h4 b hz).1 hb) (fun b hb=>hx.keep b (h1.mE hb) fun hz=>(h4 b hz).2.1 hb)
  (fun d Qr D hD=>by
   obtain⟨D',k1,_,k2,_⟩:=h1.rf.2 d Qr
   rw[k1] at hD
   injection hD with e1 e2
   injection e1 with e1
   subst e1
   exact hx.keep D' (zar.1 k2).1 fun hz=>(h4 D' hz).2.2.2.2 d Qr k1) hx.size hd
 have fZ: ∀b,ZF' b->F b\/(¬Own G c.2.rg b/\b<W'.heap.size/\ ∀d∈a.defers,d≠{target:= .collected b,args:= #[]}):=fun b hz=>by
  rcases hx.mD b hz with h |h |h
  ·grind
  ·grind
  ·refine .inr ⟨fun ho=> ?_,hb b hz,fun d Qr e=> ?_⟩
   ·have:=h1.mE ho;omega
   ·obtain⟨D',k1,_,k2,_⟩:=h1.rf.2 d Qr
    grind
 refine⟨(hx.keep l bG hlZ).trans hl,fun b=>F b\/ZF' b,G,g1.qhV (fun _ h=> .inl h) (fun b dj=>dj.elim .inl (fZ b)),⟨fun hf=> ?_,h2.2⟩,fun _ h=> .inr h,fun b hz=> ?_,?_⟩
 ·rcases hf with hf |hf
  ·exact h2.1 hf
  ·rcases hx.mD l hf with h |h |h
   ·exact h2.1 (h3 l h)
   ·exact hlZ h
   ·omega
 ·rcases hx.lD b hz with h |h
  ·grind
  ·refine⟨fun hf=>hf.elim (fun hf=>by have:=h1.jm b hf;omega) (qhW b hz),fun ho=>(by have:=h1.mE ho;omega),fun e=>(by omega),.inr (by omega),fun d Qr e=> ?_⟩
   obtain⟨D',k1,_,k2,_⟩:=h1.rf.2 d Qr
   grind
 ·have e0:(W0.putObj l (.deferred none)).heap.size=W0.heap.size:=by simp
  refine⟨fun b hf=> .inl (h5.kN b hf),fun b hf=> ?_,h5.lD,fun b qhX bZ=> ?_,?_,hx.os.trans h5.os,hx.tape.trans h5.tape,hx.output.trans h5.output⟩
  ·rcases hf with hf |hf
   ·exact h5.mD b hf
   ·rcases hx.mD b hf with h |h |h
    ·exact h5.mD b (h3 b h)
    ·grind
    grind
  ·rw[<-h5.keep b qhX bZ]
   by_cases U6:b=l
   ·subst U6
    rw[World.putObj_heap_same (za3 bG hx.size),World.putObj_heap_same bG]
   ·rw[eR _ _ _ U6,eR _ _ _ U6]
    refine hx.keep b (by omega) fun hz=> ?_
    grind
  ·have e1:(W'.putObj l (.deferred none)).heap.size=W'.heap.size:=by simp
   rw[e0,e1]
   exact zaI hs0 hx.size
theorem od.round {l:Nat} {rec:Loop} {own0 F0:Nat->Prop} {W0:World} {c:S} {Fi:Nat->Prop} {Gi:Nat->Value} {ai:Act} {si:S} (hlr:rec.state= .ready/\rec.pending=none/\rec.tmps=a.tmps) (hTi:Ti.w0=T.w0) (AY:Ti.O1=false)
  (h:od Q T a l rec own0 F0 W0 (.normal,c) w Fi (Own Gi si.rg)) (hi:aC Q Ti Fi Gi w ai si) {base:Nat} {keep:Option (List Nat×List Nat)} {asg body:S->(PX×S->Prop)->Prop}
  (oz: ∀val lo s post,asg s post->TW Q ⟨val,T.w0,lo,false⟩ rec.assign s post) (cE: ∀val lo s post,body s post->TW Q ⟨val,T.w0,lo,false⟩ rec.body s post) {m:Nat} {vs:List Value} {args:List D} (hlen:vs.length=args.length) (qK:vs.length=rec.params.size)
  (hv: ∀(i:Nat) (v:Value) (x:D),vs[i]?=some v->args[i]?=some x->a7 Fi w v x) {post:PX×S->Prop} (hp:kc rec.params.toList base keep asg body c (args.map .d) post):
  YieldAt (wd none) m Q l ⟨vs⟩ w (fun e w'=> ∃x s',post (x,s')/\e= .returned (.bool (PX.jump x).isNone)/\od Q T a l rec own0 F0 W0 (x,s') w' Fi (Own Gi si.rg)/\aC Q Ti Fi Gi w' ai si):=by
 obtain⟨hl,F,G,h1,h2,h3,h4,h5⟩:=h
 have Qh:KA rec .normal=rec:=by
  obtain⟨e1,e2,_⟩:=hlr
  cases rec
  subst e1
  subst e2
  rfl
 rw[Qh] at hl
 obtain⟨fn,tmps,qbU,body',y1,y2⟩:=Qq (m:=m) hl hlr.1 hlr.2.2 h2 h1 oz cE hlen qK (fun i v x hvv hx=>(hv i v x hvv hx).up h3) hp
 refine⟨fn,tmps,qbU,body',y1,y2.mono ?_⟩
 rintro e w' ⟨x,s',p1,p2,p3,F',G',p4,p5,p6⟩
 have q0: ∀b,b<w.heap.size->b≠l-> ¬Own G c.rg b->w'.heap[b]?=w.heap[b]?:=fun b hb U6 bZ=>by
  have:=p6.keep b (by simpa using hb) bZ
  rwa [eR _ _ _ U6,eR _ _ _ U6] at this
 have dq:w.heap.size<=w'.heap.size:=by simpa using p6.size
 refine⟨x,s',p1,p2,⟨p3,F',G',p4,p5,fun b hb=>p6.kN b (h3 b hb),fun b hb=>⟨fun hf=> ?_,fun ho=> ?_,(h4 b hb).2.2⟩,h5.trans p6⟩,?_⟩
 ·rcases p6.mD b hf with h |h |h
  ·grind
  ·grind
  ·have:=hi.mE hb
   simp at h
   omega
 ·rcases p6.lD b ho with h |h
  ·grind
  ·have:=hi.mE hb
   simp at h
   omega
 ·refine hi.other (fun b hb=>q0 b (hi.jm b hb) (fun e=>h2.1 (e▸h3 b hb)) fun⟨n,e,he,hob⟩=>h1.mq n e b he hob (h3 b hb)) (fun b hb=>q0 b (hi.mE hb) (h4 b hb).2.2.1 (h4 b hb).2.1) (fun d hd D hD=> ?_) dq (by rw[hTi];exact p4.dr)
  obtain⟨_,_,h0,_⟩:=hi.rf.2 d hd
  rw[AY] at h0
  cases h0.2
structure nJ (Q:Program) where
 T:Tg
 a:Act
 l:Nat
 lp:Loop
 own0:Nat->Prop
 F0:Nat->Prop
 W0:World
def nJ.at (B:nJ Q) (c:PX×S) (W:World) (ZF ZO:Nat->Prop):Prop:=od Q B.T B.a B.l B.lp B.own0 B.F0 B.W0 c W ZF ZO
def qd (B:nJ Q) (Ti:Tg) (code:Code) (c:PX×S) (s:S) (post:PX×S×(PX×S)->Prop):Prop:=
 ∀(F:Nat->Prop) (G:Nat->Value) (w:World) (a:Act) (Q':Exit->Act->World->Prop),aC Q Ti F G w a s->B.at c w F (Own G s.rg)->
  (∀e s' c' a' w',post (e,s',c')->(∃F' G',aC Q Ti F' G' w' a' s'/\B.at c' w' F' (Own G' s'.rg))->Q' e.fo a' w')->code.wpIn (wd none) 0 Q Q' a w
theorem wq {B:nJ Q} {c:PX×S} {F':Nat->Prop} {G':Nat->Value} {w':World} {a':Act} {s':S} (hT:Ti.w0=B.T.w0) (h:B.at c w F (Own G s.rg)) (h1:aC Q Ti F' G' w' a' s') (hx:Ext (Own G s.rg) (Own G' s'.rg) F F' w w'):B.at c w' F' (Own G' s'.rg):=
 od.step h hx (hT▸h1.dr) h1.jm fun b ⟨n,e,he,hb⟩ hf=>h1.mq n e b he hb hf
variable {B:nJ Q} {c:PX×S} {code:Code}
theorem qd.lift (hT:Ti.w0=B.T.w0) {p:PX×S->Prop} (h:TW Q Ti code s p):qd B Ti code c s (fun x=>p (x.1,x.2.1)/\x.2.2=c):=fun F G w a Q' hs hj hK=>
 h (fun _=>rfl) F G w a Q' hs fun e s' a' w' hp ⟨F',G',h1,h2⟩=>hK e s' c a' w' ⟨hp,rfl⟩ ⟨F',G',h1,wq hT hj h1 h2⟩
theorem qd.mono {p q:PX×S×(PX×S)->Prop} (h:qd B Ti code c s p) (Pd: ∀x,p x->q x):qd B Ti code c s q:=fun F G w a Q' hs hj hK=>h F G w a Q' hs hj fun e s' c' a' w' hp=>hK e s' c' a' w' (Pd _ hp)
theorem qd.seq {x y:Code} {p post:PX×S×(PX×S)->Prop} (h1:qd B Ti x c s p) (h2: ∀s1 c1,p (.normal,s1,c1)->qd B Ti y c1 s1 post) (h3: ∀e s1 c1,e≠ .normal->p (e,s1,c1)->post (e,s1,c1)):qd B Ti (.seq x y) c s post:=fun F G w a Q' hs hj hK=>by
 refine wpIn_seq (h1 F G w a _ hs hj fun e s1 c1 a1 w1 hp hP=> ?_)
 cases e with
 |normal=>
  obtain⟨F1,G1,g1,g2⟩:=hP
  exact h2 s1 c1 hp F1 G1 w1 a1 Q' g1 g2 hK
 |exit id=>exact hK _ s1 c1 a1 w1 (h3 _ _ _ (by simp) hp) hP
 |ret=>exact hK _ s1 c1 a1 w1 (h3 _ _ _ (by simp) hp) hP
theorem qd.cond {k:Operand} {x y:Code} {b:Bool} {post:PX×S×(PX×S)->Prop} (hb:s.ev k= .d (.bool b)) (h:qd B Ti (if b then x else y) c s post):qd B Ti (.cond k x y) c s post:=fun F G w a Q' hs hj hK=>by
 have hv:a.eval k= .bool b:=by
  have:=wV hs k
  rw[hb] at this
  exact aF.cy (p:= .d (.bool b)) this rfl
 refine wpIn_cond hv ?_
 cases b with
 |true=>exact h F G w a Q' hs hj hK
 |false=>exact h F G w a Q' hs hj hK
theorem qd.block {id:Nat} {x:Code} {p post:PX×S×(PX×S)->Prop} (h:qd B Ti x c s p) (hp: ∀e s1 c1,p (e,s1,c1)->match e with | .exit o7=>if Nat.beq o7 id then post (.normal,s1,c1) else post (.exit o7,s1,c1)|e=>post (e,s1,c1)):qd B Ti (.block id x) c s post:=fun F G w a Q' hs hj hK=>by
 refine wpIn_block (h F G w a _ hs hj fun e s1 c1 a1 w1 wo hP=> ?_)
 have hq:=hp e s1 c1 wo
 cases e with
 |normal=>exact hK _ s1 c1 a1 w1 hq hP
 |ret=>exact hK _ s1 c1 a1 w1 hq hP
 |exit o7=>
  simp only at hq
  by_cases hid:o7=id
  ·subst hid
   rw[zao (by simp)] at hq
   simp only[PX.fo,Exit.inBlock,zba]
   exact hK _ s1 c1 a1 w1 hq hP
  ·rw[zam (by simpa using hid)] at hq
   simp only[PX.fo,Exit.inBlock,hid,zbd]
   exact hK _ s1 c1 a1 w1 hq hP
theorem qd.scope {x:Code} {post:PX×S×(PX×S)->Prop} (h:qd B Ti x c s post):qd B Ti (.scope x) c s post:=fun F G w a Q' hs hj hK=>by
 refine fV (h F G w a _ hs hj fun e s1 c1 a1 w1 hp hP=> ?_)
 have:=hK e s1 c1 a1 w1 hp hP
 cases e<;>simpa [PX.fo,Exit.noGoto] using this
theorem wu (hT:Ti.w0=B.T.w0) {keep:Option (List Nat×List Nat)} {s0:S} (hj:B.at c w F (Own G s.rg)) (hs:aC Q Ti F G w a s) (h:cr keep s=some s0): ∃G0,aC Q Ti F G0 w a s0/\B.at c w F (Own G0 s0.rg):=by
 grind [fI,wq]
theorem qd.loop (hT:Ti.w0=B.T.w0) {x:Code} {keep:Option (List Nat×List Nat)} {I:Nat->S->PX×S->Prop} {O:PX×S×(PX×S)->Prop}
  (hr: ∀n s c,I n s c->qd B Ti x c s (fun y=>match y.1 with | .normal=> ∃s2,cr keep y.2.1=some s2/\ ∃m,m<n/\I m s2 y.2.2 |e=> ∃s2,dA keep y.2.1=some s2/\O (e,s2,y.2.2)))
  {n:Nat} {s0:S} (h0:cr keep s=some s0) (hI:I n s0 c):qd B Ti (.loop x) c s O:=fun F G w a Q' hs hj hK=>by
 obtain⟨G0,g1,g2⟩:=wu hT hj hs h0
 have key: ∀(N n:Nat) (s:S) (c:PX×S),n<N->I n s c-> ∀(F:Nat->Prop) (G:Nat->Value) (w:World) (a:Act),aC Q Ti F G w a s->B.at c w F (Own G s.rg)->Code.roundsIn (wd none) 0 Q x Q' N a w:=by
  intro N
  induction N with
  |zero=>simp
  |succ N ih=>
   intro n s c hn hI F G w a hs hj
   refine hr n s c hI F G w a _ hs hj fun e s1 c1 a1 w1 hp hP=> ?_
   obtain⟨F1,G1,k1,k2⟩:=hP
   cases e with
   |normal=>
    obtain⟨s2,h2,m,hm,hi⟩:=hp
    obtain⟨G2,m1,m2⟩:=wu hT k2 k1 h2
    exact ih m s2 c1 (by omega) hi F1 G2 w1 a1 m1 m2
   |exit id=>
    obtain⟨s2,h2,hO⟩:=hp
    obtain⟨G2,m1,m2⟩:=wu (keep:=keep.map fun l=>(l.2,l.2)) hT k2 k1 (by cases keep<;>exact h2)
    exact hK _ s2 c1 a1 w1 hO ⟨F1,G2,m1,m2⟩
   |ret=>
    obtain⟨s2,h2,hO⟩:=hp
    obtain⟨G2,m1,m2⟩:=wu (keep:=keep.map fun l=>(l.2,l.2)) hT k2 k1 (by cases keep<;>exact h2)
    exact hK _ s2 c1 a1 w1 hO ⟨F1,G2,m1,m2⟩
 exact wpIn_loop_rounds (n+1) (key (n+1) n s0 c (by omega) hI F G0 w a g1 g2)
def yieldOf (yt:Nat) (s:S) (o:Oper):Option (List D):=
 match gx o,o.guard with
 |some (f,xs),none=>match s.ev f with
  | .mp y v=>match lk s.rg y with
   |some e=>match e.obj,e.tag with
    | .ew,some i=>if Nat.beq e.aX v&&Nat.beq i yt then zz (xs.map s.ev) else none
    |_,_=>none
   |none=>none
  |_=>none
 |_,_=>none
def nK (Q:Program) (kf:KF) (yt:Nat) (ry:S->List P->(PX×S->Prop)->Prop) (ops:List Oper):List Oper->List (Nat×Bool)->S×(PX×S)->(S×(PX×S)->Prop)->Prop
 | [],_,x,post=>post x
 |o::l,kn,x,post=>match pC o with
  |some it=>A7 Q x.1 o.dst ((x.1.ev it).under none) fun s1=>s1.force fun s1=>nK Q kf yt ry ops l [] (s1,x.2) post
  |none=>match yieldOf yt x.1 o with
  |some ds=>(match x.2.1 with
   | .normal=>ry x.2.2 (ds.map .d) fun y=>match x.1.put o.dst (.d (.bool (PX.jump y.1).isNone)) with
    |some s1=>nK Q kf yt ry ops l [] (s1,y) post
    |none=>False
   |_=>False)
  |none=>Az Q kf ops kn x.1 o fun z=>z.1.force fun s1=>nK Q kf yt ry ops l z.2 (s1,x.2) post
theorem x6: ∀(ts:List Nat) (ps:List P) (s s1:S),kZ s ts ps=some s1->ts.length=ps.length
 | [],[],_,_,_=>rfl
 | [],_::_,s,s1,h=>by simp[kZ] at h
 |_::_,[],s,s1,h=>by simp[kZ] at h
 |t::ts,p::ps,s,s1,h=>by
  simp only[kZ] at h
  split at h
  ·simp[x6 ts ps _ _ h]
  ·cases h
theorem Fm {ps:List Nat} {base:Nat} {keep:Option (List Nat×List Nat)} {asg body:S->(PX×S->Prop)->Prop} {s:S} {args:List P} {post:PX×S->Prop} (h:kc ps base keep asg body s args post):ps.length=args.length:=by
 grind [kc,x6]
theorem Fo: ∀(ps:List P) (ds:List D),zz ps=some ds->ps=ds.map .d
 | [],ds,h=>by grind [zz]
 |p::ps,ds,h=>by
  cases p<;>simp only[zz] at h<;>try (cases h;done)
  split at h
  ·rename_i x xs hx
   simp at h
   subst h
   simp[Fo ps xs hx]
  ·cases h
theorem nL {kf:KF} {cf:Nat->Nat->CF} (hJ:zT kf cf) (jq: ∀a b,dt Q Ti.w0 (cf a b)) (hT:Ti.w0=B.T.w0) (AY:Ti.O1=false) {yt:Nat} (Fp:Ti.val yt= .func (.yield B.l) #[] #[]) (Fq:B.lp.state= .ready/\B.lp.pending=none/\B.lp.tmps=B.a.tmps)
  {base:Nat} {keep:Option (List Nat×List Nat)} {asg body:S->(PX×S->Prop)->Prop} (oz: ∀val lo s post,asg s post->TW Q ⟨val,B.T.w0,lo,false⟩ B.lp.assign s post) (cE: ∀val lo s post,body s post->TW Q ⟨val,B.T.w0,lo,false⟩ B.lp.body s post)
  {ops:List Oper} {Q':Exit->Act->World->Prop} {post:S×(PX×S)->Prop}: ∀(l:List Oper) (kn:List (Nat×Bool)) (F:Nat->Prop) (G:Nat->Value) (w:World) (a:Act) (s:S) (c:PX×S),jN kn s->aC Q Ti F G w a s->B.at c w F (Own G s.rg)->
  nK Q kf yt (kc B.lp.params.toList base keep asg body) ops l kn (s,c) post->(∀s' c' a' w',post (s',c')->(∃F' G',aC Q Ti F' G' w' a' s'/\B.at c' w' F' (Own G' s'.rg))->Q' .normal a' w')->wpListIn (wd none) 0 Q ops.toArray Q' l a w
 | [],kn,F,G,w,a,s,c,_,h,hj,hp,hK=>by
  unfold nK at hp
  exact hK s c a w hp ⟨F,G,h,hj⟩
 |o::l,kn,F,G,w,a,s,c,dO,h,hj,hp,hK=>by
  unfold nK at hp
  split at hp
  ·rename_i it ho
   have Kl:o.guard=none:=by
    unfold pC at ho
    split at ho
    ·simp_all
    ·cases ho
   simp only[S.force_eq] at hp
   have:o.wpIn (wd none) 0 Q a w (wpListIn (wd none) 0 Q ops.toArray Q' l) Q':=Ky h ho hp fun s1 a1 w1 wo ⟨F1,G1,g1,g2⟩=>
    nL hJ jq hT AY Fp Fq oz cE l _ F1 G1 w1 a1 s1 c (jN.nil s1) g1 (wq hT hj g1 g2) wo hK
   exact fk (by rw[zao (by simp[Region.wanted,Kl])];exact this)
  ·split at hp
   ·rename_i ds hy
    split at hp
    ·rename_i zU
     unfold yieldOf at hy
     split at hy
     ·rename_i f xs lR Kl
      split at hy
      ·rename_i y v hfe
       split at hy
       ·rename_i e he
        split at hy
        ·rename_i i bV hei
         split at hy
         ·rename_i ff
          have dP:e.aX=v:=by simp_all
          have hi:i=yt:=by simp_all
          subst hi
          have hG:G y= .func (.yield B.l) #[] #[]:=by rw[h.tag y e i he hei (by rw[bV];rfl)];exact Fp
          have hval:a.eval f= .func (.yield B.l) #[] #[]:=by
           have:=wV h f
           rw[hfe] at this
           generalize a.eval f=u at this
           cases this with
           |mp _ _ _ h1 hr=>rw[<-hG];exact hr.at he dP (by rw[bV];rfl)
          unfold gx at lR
          split at lR
          ·rename_i cl sr
           split at lR
           ·rename_i f' kS
            obtain⟨rfl,rfl⟩:=lR
            have cN:=Fo _ _ hy
            have hlen:(cl.args.toList.map a.eval).length=ds.length:=by
             have:=congrArg List.length cN
             grind
            have jG:c=(.normal,c.2):=by rw[<-zU]
            have Ki:od Q B.T B.a B.l B.lp B.own0 B.F0 B.W0 (.normal,c.2) w F (Own G s.rg):=by rw[<-jG];exact hj
            have qK:(cl.args.toList.map a.eval).length=B.lp.params.size:=by
             have:=Fm hp
             simp at this
             rw[hlen,<-this]
            obtain⟨fn,tmps,qbU,body',y1,y2⟩:=od.round (m:=0-1) (vs:=cl.args.toList.map a.eval) Fq hT AY Ki h oz cE hlen qK (fun j u x hu hx=>by
             rw[zaJ,zaw] at hu
             obtain⟨z,hz,rfl⟩:=hu
             have hzz:=wV h z
             have:s.ev z= .d x:=by
              have e1:=congrArg (fun l=>l[j]?) cN
              grind
             rw[this] at hzz
             generalize a.eval z=u at hzz⊢
             cases hzz with
             |d hd=>exact hd) hp
            have this:o.wpIn (wd none) 0 Q a w (wpListIn (wd none) 0 Q ops.toArray Q' l) Q':=by
             refine sA (fun c' qP=>by rw[sr] at qP;cases qP) ?_
             have bX:(execOp a.eval o).run Q w= .ok (.round B.l fn tmps qbU body') w:=by
              have e:cl.args.map a.eval=⟨cl.args.toList.map a.eval⟩:=by grind
              rw[<-y1,<-e]
              simp[execOp,sr,resolve,kS,hval,Deferred.ofValue,invoke]
             rw[bX]
             refine⟨fun h=>(by cases h),y2.mono ?_⟩
             rintro e' w' ⟨x,s',p1,rfl,p3,p4⟩
             split at p1
             ·rename_i s1 r0
              obtain⟨c1,c2⟩:=cv p4 r0 (v:= .bool (PX.jump x).isNone) (ct.of (.d (.bool _)))
              exact nL hJ jq hT AY Fp Fq oz cE l [] F G w' _ s1 (x,s') (jN.nil s1) c1 (by rw[c2];exact p3) p1 hK
             grind
            exact fk (by rw[zao (by simp[Region.wanted,Kl])];exact this)
           grind
          grind
         ·cases hy
        ·cases hy
       ·cases hy
      ·cases hy
     ·cases hy
    grind
   ·obtain⟨x,⟨hx,hk⟩,wo⟩:=sH hJ dO _ hp
    rw[S.force_eq] at wo
    obtain⟨i,j,hx⟩:=hx.some
    have kO:=kz (r:=none) (jq i j) h hx (K:=wpListIn (wd none) 0 Q ops.toArray Q' l) (Q':=Q') (fun a' w' ⟨F',G',g1,g2⟩=>
     nL hJ jq hT AY Fp Fq oz cE l _ F' G' w' a' x.1 c hk g1 (wq hT hj g1 g2) wo hK)
    exact fk kO
def eF (Q:Program) (kf:KF) (yt:Nat) (ry:S->List P->(PX×S->Prop)->Prop) (hk:List (Nat×(S×(PX×S)->K (PX×S×(PX×S))))) (dc:Nat->Nat):Code->S×(PX×S)->K (PX×S×(PX×S))
 | .skip,x=>K.ret (.normal,x)
 | .label _,x=>K.ret (.normal,x)
 | .region id ops draw,x=>if draw then K.bind (Ek Q kf ops.toList (dc id) x.1) fun s1=>K.ret (.normal,s1,x.2) else K.bind (nK Q kf yt ry ops.toList ops.toList [] x) fun y=>K.ret (.normal,y)
 | .seq a b,x=>K.bind (eF Q kf yt ry hk dc a x) fun y=>match y.1 with
  | .normal=>eF Q kf yt ry hk dc b y.2
  |_=>K.ret y
 | .cond c a b,x=>match x.1.ev c with
  | .d (.bool t)=>K.bind (K.dec t) fun r=>if r then eF Q kf yt ry hk dc a x else eF Q kf yt ry hk dc b x
  |_=>K.fail
 | .block id c,x=>K.bind (eF Q kf yt ry hk dc c x) fun y=>match y.1 with
  | .exit o7=>if Nat.beq o7 id then K.ret (.normal,y.2) else K.ret y
  |_=>K.ret y
 | .loop c,x=>match lk hk (Code.rX c) with
  |some h=>h x
  |none=>K.fail
 | .scope c,x=>eF Q kf yt ry hk dc c x
 | .exit id,x=>K.ret (.exit id,x)
 | .ret,x=>K.ret (.ret,x)
 |_,_=>K.fail
variable {kp:pZ}
theorem gH {kf:KF} (hJ:zT kf (fc Q kp)) (hX:dt Q Ti.w0 kp.X) (hdr:Q.follows .mixedOrders=true) (hT:Ti.w0=B.T.w0) (AY:Ti.O1=false) {yt:Nat} (Fp:Ti.val yt= .func (.yield B.l) #[] #[]) (Fq:B.lp.state= .ready/\B.lp.pending=none/\B.lp.tmps=B.a.tmps)
  {base:Nat} {keep:Option (List Nat×List Nat)} {asg body:S->(PX×S->Prop)->Prop} (oz: ∀val lo s post,asg s post->TW Q ⟨val,B.T.w0,lo,false⟩ B.lp.assign s post) (cE: ∀val lo s post,body s post->TW Q ⟨val,B.T.w0,lo,false⟩ B.lp.body s post)
  {hk:List (Nat×(S×(PX×S)->K (PX×S×(PX×S))))} {dc:Nat->Nat}: ∀(code:Code),b8 dc code=true->
  (∀d∈aR code,∀h,lk hk (Code.rX d)=some h-> ∀x post,h x post->qd B Ti (.loop d) x.2 x.1 post)-> ∀(x:S×(PX×S)) (post:PX×S×(PX×S)->Prop),eF Q kf yt (kc B.lp.params.toList base keep asg body) hk dc code x post->qd B Ti code x.2 x.1 post
 | .skip,_,_,x,post,hp=>fun F G w a Q' hs hj hK=>wpIn_skip (hK .normal x.1 x.2 a w hp ⟨F,G,hs,hj⟩)
 | .label _,_,_,x,post,hp=>fun F G w a Q' hs hj hK=>wpIn_label (hK .normal x.1 x.2 a w hp ⟨F,G,hs,hj⟩)
 | .region id ops draw,hl,_,x,post,hp=>by
  have jq: ∀a b,dt Q Ti.w0 (fc Q kp a b):=fun a b=>sK hX hdr b
  unfold eF at hp
  cases draw with
  |true=>
   obtain⟨s1,h1,hp⟩:=xN hJ (zaf (by simpa [b8] using hl)) _ hp
   obtain⟨i,j,h1⟩:=h1.some
   refine qd.mono (qd.lift hT (TW.of_run (kp:=fun _=>none) (lf:=0) (jq i j) hdr (x:=(.normal,s1)) (by grind [bz]) (post:=fun y=>post (y.1,y.2,x.2)) hp)) ?_
   simp
  |false=>
   exact fun F G w a Q' hs hj hK=>wpIn_region_list (by simpa using nL hJ jq hT AY Fp Fq oz cE ops.toList [] F G w a x.1 x.2 (jN.nil x.1) hs hj hp fun s' c' a' w' qK hP=>hK .normal s' c' a' w' qK hP)
 | .seq a b,hl,hh,x,post,hp=>by
  unfold eF at hp
  have GW:b8 dc a=true/\b8 dc b=true:=by simpa [b8] using hl
  refine qd.seq (gH hJ hX hdr hT AY Fp Fq oz cE a GW.1 (fun d hd=>hh d (by simp[aR,hd])) x _ hp) (fun s1 c1 h1=>gH hJ hX hdr hT AY Fp Fq oz cE b GW.2 (fun d hd=>hh d (by simp[aR,hd])) (s1,c1) post h1) fun e s1 c1 he h1=> ?_
  cases e with
  |normal=>grind
  |exit id=>exact h1
  |ret=>exact h1
 | .cond k a b,hl,hh,x,post,hp=>by
  unfold eF at hp
  have GW:b8 dc a=true/\b8 dc b=true:=by simpa [b8] using hl
  have hbx: ∃b,x.1.ev k= .d (.bool b):=by
   cases hb:x.1.ev k with
   |d y=>
    cases y with
    |bool b=>simp
    |_=>simp only[hb] at hp;exact hp.elim
   |_=>simp only[hb] at hp;exact hp.elim
  obtain⟨t,hb⟩:=hbx
  simp only[hb] at hp
  refine qd.cond hb ?_
  cases t with
  |true=>exact gH hJ hX hdr hT AY Fp Fq oz cE a GW.1 (fun d hd=>hh d (by simp[aR,hd])) x post hp
  |false=>exact gH hJ hX hdr hT AY Fp Fq oz cE b GW.2 (fun d hd=>hh d (by simp[aR,hd])) x post hp
 | .block id k,hl,hh,x,post,hp=>by
  unfold eF at hp
  refine qd.block (gH hJ hX hdr hT AY Fp Fq oz cE k hl (fun d hd=>hh d (by simpa [aR] using hd)) x _ hp) fun e s1 c1 h1=> ?_
  cases e with
  |normal=>exact h1
  |ret=>exact h1
  |exit o7=>
   simp only at h1⊢
   split
   ·rename_i h;rw[zao h] at h1;exact h1
   ·rename_i h;rw[zam h] at h1;exact h1
 | .loop k,hl,hh,x,post,hp=>by
  cases Wi:lk hk (Code.rX k) with
  |some h=>simp_all [eF,aR]
  |none=>simp only[eF,Wi] at hp;exact hp.elim
 | .scope k,hl,hh,x,post,hp=>by
  unfold eF at hp
  exact qd.scope (gH hJ hX hdr hT AY Fp Fq oz cE k hl (fun d hd=>hh d (by simpa [aR] using hd)) x post hp)
 | .exit id,_,_,x,post,hp=>fun F G w a Q' hs hj hK=>wpIn_exit (hK (.exit id) x.1 x.2 a w hp ⟨F,G,hs,hj⟩)
 | .ret,_,_,x,post,hp=>fun F G w a Q' hs hj hK=>wpIn_ret (hK .ret x.1 x.2 a w hp ⟨F,G,hs,hj⟩)
 | .rangeFunc _ _ _ _,_,_,x,post,hp=>by unfold eF at hp;exact hp.elim
 | .goto _,_,_,x,post,hp=>by unfold eF at hp;exact hp.elim
 | .refuse _,_,_,x,post,hp=>by unfold eF at hp;exact hp.elim
end
end Pi
