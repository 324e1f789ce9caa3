/- The text PiY. -/
import Derived.Test.YtngoddkencoalaaGreatDoorPiRf
namespace Pi
open Go
def IK (rec:Loop) (x:PX):Loop:={rec with state:=if(PX.jump x).isNone then .ready else .done,pending:=PX.jump x}
section
variable {Q:Program} {T Ti:Tg} {F:Nat->Prop} {G:Nat->Value} {w:World} {a:Act} {s:S}
theorem aB.other (h:aB Q T F G w a s) {w':World} (hF: ∀b,F b->w'.heap[b]?=w.heap[b]?) (hO: ∀b,Own G s.rg b->w'.heap[b]?=w.heap[b]?) (hm: ∀d∈a.defers,∀D,d={target:= .collected D,args:= #[]}->w'.heap[D]?=w.heap[D]?)
  (cJ:w.heap.size<=w'.heap.size) (hd:T.w0.drawn<=w'.drawn):aB Q T F G w' a s:=by
 refine⟨⟨h.qV.1,fun d hd=> ?_⟩,h.size,fun t p hp=>cr.mono (fun _ h=>h) hF (Names.refl _ _) (h.tm t p hp),
  fun n e he=>(h.rg n e he).mono (fun _ h=>h) hF (Names.refl _ _) rfl (fun b hb=>hO b ⟨n,e,he,hb⟩),h.own,h.lr,fun b hb=>Nat.lt_of_lt_of_le (h.iR b hb) cJ,h.tag,
  fun b hb=>⟨(h.z b hb).1,(hF b (h.z b hb).1).trans (h.z b hb).2⟩,hd,Nat.le_trans h.sz cJ⟩
 obtain⟨D,h1,h0,h2,h3,h4⟩:=h.qV.2 d hd
 exact⟨D,h1,h0,(hm d hd D h1).trans h2,h3,h4⟩
theorem aB.qf9 (h:aB Q T F G w a s) {F':Nat->Prop} (hF: ∀b,F b->F' b) (hn: ∀b,F' b->F b\/(¬Own G s.rg b/\b<w.heap.size/\ ∀d∈a.defers,d≠{target:= .collected b,args:= #[]})):aB Q T F' G w a s:=by
 refine⟨⟨h.qV.1,fun d hd=> ?_⟩,h.size,fun t p hp=>cr.mono hF (fun _ _=>rfl) (Names.refl _ _) (h.tm t p hp),
  fun n e he=>(h.rg n e he).mono hF (fun _ _=>rfl) (Names.refl _ _) rfl (fun b hb=>rfl),h.own,fun n e b he hb hf=> ?_,fun b hb=> ?_,h.tag,
  fun b hb=>⟨hF b (h.z b hb).1,(h.z b hb).2⟩,h.dr,h.sz⟩
 ·obtain⟨D,h1,h0,h2,h3,h4⟩:=h.qV.2 d hd
  refine⟨D,h1,h0,h2,fun hf=> ?_,h4⟩
  rcases hn D hf with h5 | ⟨_,_,h5⟩
  ·exact h3 h5
  ·exact h5 d hd h1
 ·rcases hn b hf with h5 | ⟨h5,_⟩
  ·exact h.lr n e b he hb h5
  ·exact h5 ⟨n,e,he,hb⟩
 ·rcases hn b hb with h5 | ⟨_,h5,_⟩
  ·exact h.iR b h5
  ·exact h5
def nK (Q:Program) (T:Tg) (a:Act) (l:Nat) (rec:Loop) (own0 F0:Nat->Prop) (W0:World) (c:PX×S) (W:World) (ZF ZO:Nat->Prop):Prop:=
 W.heap[l]?=some (.loop (IK rec c.1))/\ ∃F G,aB Q T F G W a c.2/\qz F G c.2.rg a.defers l/\(∀b,ZF b->F b)/\
  (∀b,ZO b-> ¬F b/\ ¬Own G c.2.rg b/\b≠l/\(own0 b\/W0.heap.size<=b)/\ ∀d∈a.defers,d≠{target:= .collected b,args:= #[]})/\
  Ext own0 (Own G c.2.rg) F0 F (W0.putObj l (.deferred none)) (W.putObj l (.deferred none))
theorem nK.step {l:Nat} {rec:Loop} {own0 F0:Nat->Prop} {W0 W W':World} {c:PX×S} {ZF ZO ZF' ZO':Nat->Prop} (h:nK Q T a l rec own0 F0 W0 c W ZF ZO) (hx:Ext ZO ZO' ZF ZF' W W') (hd:T.w0.drawn<=W'.drawn) (hb: ∀b,ZF' b->b<W'.heap.size) (qdx: ∀b,ZO' b-> ¬ZF' b):
  nK Q T a l rec own0 F0 W0 c W' ZF' ZO':=by
 obtain⟨hl,F,G,h1,h2,h3,h4,h5⟩:=h
 have bk:l<W.heap.size:=(Array.getElem?_eq_some_iff.1 hl).1
 have hlZ: ¬ZO l:=fun hz=>(h4 l hz).2.2.1 rfl
 have hs0:W0.heap.size<=W.heap.size:=by simpa using h5.size
 have g1:aB Q T F G W' a c.2:=h1.other (fun b hb=>hx.keep b (h1.iR b hb) fun hz=>(h4 b hz).1 hb) (fun b hb=>hx.keep b (h1.lT hb) fun hz=>(h4 b hz).2.1 hb)
  (fun d Oz D hD=>by
   obtain⟨D',k1,_,k2,_⟩:=h1.qV.2 d Oz
   rw[k1] at hD
   injection hD with e1 e2
   injection e1 with e1
   subst e1
   exact hx.keep D' (Array.getElem?_eq_some_iff.1 k2).1 fun hz=>(h4 D' hz).2.2.2.2 d Oz k1) hx.size hd
 have gF: ∀b,ZF' b->F b\/(¬Own G c.2.rg b/\b<W'.heap.size/\ ∀d∈a.defers,d≠{target:= .collected b,args:= #[]}):=fun b hz=>by
  rcases hx.lS b hz with h |h |h
  ·exact .inl (h3 b h)
  ·exact .inr ⟨(h4 b h).2.1,hb b hz,(h4 b h).2.2.2.2⟩
  ·refine .inr ⟨fun ho=> ?_,hb b hz,fun d Oz e=> ?_⟩
   ·have:=h1.lT ho;omega
   ·obtain⟨D',k1,_,k2,_⟩:=h1.qV.2 d Oz
    rw[k1] at e
    injection e with e1 e2
    injection e1 with e1
    subst e1
    have:=(Array.getElem?_eq_some_iff.1 k2).1
    omega
 refine⟨(hx.keep l bk hlZ).trans hl,fun b=>F b\/ZF' b,G,g1.qf9 (fun _ h=> .inl h) (fun b cU=>cU.elim .inl (gF b)),⟨fun hf=> ?_,h2.2⟩,fun _ h=> .inr h,fun b hz=> ?_,?_⟩
 ·rcases hf with hf |hf
  ·exact h2.1 hf
  ·rcases hx.lS l hf with h |h |h
   ·exact h2.1 (h3 l h)
   ·exact hlZ h
   ·omega
 ·rcases hx.kU b hz with h |h
  ·exact⟨fun hf=>hf.elim (h4 b h).1 (qdx b hz),(h4 b h).2⟩
  ·refine⟨fun hf=>hf.elim (fun hf=>by have:=h1.iR b hf;omega) (qdx b hz),fun ho=>(by have:=h1.lT ho;omega),fun e=>(by omega),.inr (by omega),fun d Oz e=> ?_⟩
   obtain⟨D',k1,_,k2,_⟩:=h1.qV.2 d Oz
   rw[k1] at e
   injection e with e1 e2
   injection e1 with e1
   subst e1
   have:=(Array.getElem?_eq_some_iff.1 k2).1
   omega
 ·have e0:(W0.putObj l (.deferred none)).heap.size=W0.heap.size:=by simp
  refine⟨fun b hf=> .inl (h5.j7 b hf),fun b hf=> ?_,h5.kU,fun b qdy b9=> ?_,?_,hx.os.trans h5.os,hx.tape.trans h5.tape,hx.output.trans h5.output⟩
  ·rcases hf with hf |hf
   ·exact h5.lS b hf
   ·rcases hx.lS b hf with h |h |h
    ·exact h5.lS b (h3 b h)
    ·rw[e0];exact .inr (h4 b h).2.2.2.1
    ·rw[e0];exact .inr (.inr (by omega))
  ·rw[<-h5.keep b qdy b9]
   by_cases Sn:b=l
   ·subst Sn
    rw[World.putObj_heap_same (Nat.lt_of_lt_of_le bk hx.size),World.putObj_heap_same bk]
   ·rw[eH _ _ _ Sn,eH _ _ _ Sn]
    rw[e0] at qdy
    refine hx.keep b (by omega) fun hz=> ?_
    rcases(h4 b hz).2.2.2.1 with h |h
    ·exact b9 h
    ·omega
  ·have e1:(W'.putObj l (.deferred none)).heap.size=W'.heap.size:=by simp
   rw[e0,e1]
   exact Nat.le_trans hs0 hx.size
theorem nK.round {l:Nat} {rec:Loop} {own0 F0:Nat->Prop} {W0:World} {c:S} {Fi:Nat->Prop} {Gi:Nat->Value} {ai:Act} {si:S} (hlr:rec.state= .ready/\rec.pending=none/\rec.tmps=a.tmps) (hTi:Ti.w0=T.w0) (zZ:Ti.Nb=false)
  (h:nK Q T a l rec own0 F0 W0 (.normal,c) w Fi (Own Gi si.rg)) (hi:aB Q Ti Fi Gi w ai si) {base:Nat} {keep:Option (List Nat×List Nat)} {asg body:S->(PX×S->Prop)->Prop}
  (nT: ∀val lo s post,asg s post->TW Q ⟨val,T.w0,lo,false⟩ rec.assign s post) (cB: ∀val lo s post,body s post->TW Q ⟨val,T.w0,lo,false⟩ rec.body s post) {m:Nat} {vs:List Value} {args:List D} (hlen:vs.length=args.length) (r3:vs.length=rec.params.size)
  (hv: ∀(i:Nat) (v:Value) (x:D),vs[i]?=some v->args[i]?=some x->aW Fi w v x) {post:PX×S->Prop} (hp:jG rec.params.toList base keep asg body c (args.map .d) post):
  YieldAt (wd none) m Q l ⟨vs⟩ w (fun e w'=> ∃x s',post (x,s')/\e= .returned (.bool (PX.jump x).isNone)/\nK Q T a l rec own0 F0 W0 (x,s') w' Fi (Own Gi si.rg)/\aB Q Ti Fi Gi w' ai si):=by
 obtain⟨hl,F,G,h1,h2,h3,h4,h5⟩:=h
 have Om:IK rec .normal=rec:=by
  obtain⟨e1,e2,_⟩:=hlr
  cases rec
  simp only at e1 e2
  subst e1
  subst e2
  rfl
 rw[Om] at hl
 have bk:l<w.heap.size:=(Array.getElem?_eq_some_iff.1 hl).1
 obtain⟨fn,tmps,qak,body',y1,y2⟩:=Oy (m:=m) hl hlr.1 hlr.2.2 h2 h1 nT cB hlen r3 (fun i v x hvv hx=>(hv i v x hvv hx).up h3) hp
 refine⟨fn,tmps,qak,body',y1,y2.mono ?_⟩
 rintro e w' ⟨x,s',p1,p2,p3,F',G',p4,p5,p6⟩
 have q0: ∀b,b<w.heap.size->b≠l-> ¬Own G c.rg b->w'.heap[b]?=w.heap[b]?:=fun b hb Sn b9=>by
  have:=p6.keep b (by simpa using hb) b9
  rwa [eH _ _ _ Sn,eH _ _ _ Sn] at this
 have cJ:w.heap.size<=w'.heap.size:=by simpa using p6.size
 refine⟨x,s',p1,p2,⟨p3,F',G',p4,p5,fun b hb=>p6.j7 b (h3 b hb),fun b hb=>⟨fun hf=> ?_,fun ho=> ?_,(h4 b hb).2.2⟩,h5.trans p6⟩,?_⟩
 ·rcases p6.lS b hf with h |h |h
  ·exact(h4 b hb).1 h
  ·exact(h4 b hb).2.1 h
  ·have:=hi.lT hb
   simp at h
   omega
 ·rcases p6.kU b ho with h |h
  ·exact(h4 b hb).2.1 h
  ·have:=hi.lT hb
   simp at h
   omega
 ·refine hi.other (fun b hb=>q0 b (hi.iR b hb) (fun e=>h2.1 (e▸h3 b hb)) fun⟨n,e,he,Xd⟩=>h1.lr n e b he Xd (h3 b hb)) (fun b hb=>q0 b (hi.lT hb) (h4 b hb).2.2.1 (h4 b hb).2.1) (fun d hd D hD=> ?_) cJ (by rw[hTi];exact p4.dr)
  obtain⟨_,_,h0,_⟩:=hi.qV.2 d hd
  rw[zZ] at h0
  cases h0.2
structure mZ (Q:Program) where
 T:Tg
 a:Act
 l:Nat
 lp:Loop
 own0:Nat->Prop
 F0:Nat->Prop
 W0:World
def mZ.at (B:mZ Q) (c:PX×S) (W:World) (ZF ZO:Nat->Prop):Prop:=nK Q B.T B.a B.l B.lp B.own0 B.F0 B.W0 c W ZF ZO
def pH (B:mZ Q) (Ti:Tg) (code:Code) (c:PX×S) (s:S) (post:PX×S×(PX×S)->Prop):Prop:=
 ∀(F:Nat->Prop) (G:Nat->Value) (w:World) (a:Act) (Q':Exit->Act->World->Prop),aB Q Ti F G w a s->B.at c w F (Own G s.rg)->
  (∀e s' c' a' w',post (e,s',c')->(∃F' G',aB Q Ti F' G' w' a' s'/\B.at c' w' F' (Own G' s'.rg))->Q' e.fe a' w')->code.wpIn (wd none) 0 Q Q' a w
theorem vv {B:mZ Q} {c:PX×S} {F':Nat->Prop} {G':Nat->Value} {w':World} {a':Act} {s':S} (hT:Ti.w0=B.T.w0) (h:B.at c w F (Own G s.rg)) (h1:aB Q Ti F' G' w' a' s') (hx:Ext (Own G s.rg) (Own G' s'.rg) F F' w w'):B.at c w' F' (Own G' s'.rg):=
 nK.step h hx (hT▸h1.dr) h1.iR fun b ⟨n,e,he,hb⟩ hf=>h1.lr n e b he hb hf
variable {B:mZ Q} {c:PX×S} {code:Code}
theorem pH.lift (hT:Ti.w0=B.T.w0) {p:PX×S->Prop} (h:TW Q Ti code s p):pH B Ti code c s (fun x=>p (x.1,x.2.1)/\x.2.2=c):=fun F G w a Q' hs hj hK=>
 h (fun _=>rfl) F G w a Q' hs fun e s' a' w' hp ⟨F',G',h1,h2⟩=>hK e s' c a' w' ⟨hp,rfl⟩ ⟨F',G',h1,vv hT hj h1 h2⟩
theorem pH.mono {p q:PX×S×(PX×S)->Prop} (h:pH B Ti code c s p) (Ns: ∀x,p x->q x):pH B Ti code c s q:=fun F G w a Q' hs hj hK=>h F G w a Q' hs hj fun e s' c' a' w' hp=>hK e s' c' a' w' (Ns _ hp)
theorem pH.seq {x y:Code} {p post:PX×S×(PX×S)->Prop} (h1:pH B Ti x c s p) (h2: ∀s1 c1,p (.normal,s1,c1)->pH B Ti y c1 s1 post) (h3: ∀e s1 c1,e≠ .normal->p (e,s1,c1)->post (e,s1,c1)):pH B Ti (.seq x y) c s post:=fun F G w a Q' hs hj hK=>by
 refine wpIn_seq (h1 F G w a _ hs hj fun e s1 c1 a1 w1 hp hP=> ?_)
 cases e with
 |normal=>
  obtain⟨F1,G1,g1,g2⟩:=hP
  exact h2 s1 c1 hp F1 G1 w1 a1 Q' g1 g2 hK
 |exit id=>exact hK _ s1 c1 a1 w1 (h3 _ _ _ (by simp) hp) hP
 |ret=>exact hK _ s1 c1 a1 w1 (h3 _ _ _ (by simp) hp) hP
theorem pH.cond {k:Operand} {x y:Code} {b:Bool} {post:PX×S×(PX×S)->Prop} (hb:s.ev k= .d (.bool b)) (h:pH B Ti (if b then x else y) c s post):pH B Ti (.cond k x y) c s post:=fun F G w a Q' hs hj hK=>by
 have hv:a.eval k= .bool b:=by
  have:=vW hs k
  rw[hb] at this
  exact aD.cw (p:= .d (.bool b)) this rfl
 refine wpIn_cond hv ?_
 cases b with
 |true=>exact h F G w a Q' hs hj hK
 |false=>exact h F G w a Q' hs hj hK
theorem pH.block {id:Nat} {x:Code} {p post:PX×S×(PX×S)->Prop} (h:pH B Ti x c s p) (hp: ∀e s1 c1,p (e,s1,c1)->match e with | .exit ou=>if Nat.beq ou id then post (.normal,s1,c1) else post (.exit ou,s1,c1)|e=>post (e,s1,c1)):pH B Ti (.block id x) c s post:=fun F G w a Q' hs hj hK=>by
 refine wpIn_block (h F G w a _ hs hj fun e s1 c1 a1 w1 sO hP=> ?_)
 have hq:=hp e s1 c1 sO
 cases e with
 |normal=>exact hK _ s1 c1 a1 w1 hq hP
 |ret=>exact hK _ s1 c1 a1 w1 hq hP
 |exit ou=>
  simp only at hq
  by_cases hid:ou=id
  ·subst hid
   rw[if_pos (by simp)] at hq
   simp only[PX.fe,Exit.inBlock,if_true]
   exact hK _ s1 c1 a1 w1 hq hP
  ·rw[if_neg (by simpa using hid)] at hq
   simp only[PX.fe,Exit.inBlock,hid,if_false]
   exact hK _ s1 c1 a1 w1 hq hP
theorem pH.scope {x:Code} {post:PX×S×(PX×S)->Prop} (h:pH B Ti x c s post):pH B Ti (.scope x) c s post:=fun F G w a Q' hs hj hK=>by
 refine fD (h F G w a _ hs hj fun e s1 c1 a1 w1 hp hP=> ?_)
 have:=hK e s1 c1 a1 w1 hp hP
 cases e<;>simpa [PX.fe,Exit.noGoto] using this
theorem vw (hT:Ti.w0=B.T.w0) {keep:Option (List Nat×List Nat)} {s0:S} (hj:B.at c w F (Own G s.rg)) (hs:aB Q Ti F G w a s) (h:cq keep s=some s0): ∃G0,aB Q Ti F G0 w a s0/\B.at c w F (Own G0 s0.rg):=by
 obtain⟨G0,g1,g2⟩:=fq hs h
 exact⟨G0,g1,vv hT hj g1 g2⟩
theorem pH.loop (hT:Ti.w0=B.T.w0) {x:Code} {keep:Option (List Nat×List Nat)} {I:Nat->S->PX×S->Prop} {O:PX×S×(PX×S)->Prop}
  (hr: ∀n s c,I n s c->pH B Ti x c s (fun y=>match y.1 with | .normal=> ∃s2,cq keep y.2.1=some s2/\ ∃m,m<n/\I m s2 y.2.2 |e=> ∃s2,dt keep y.2.1=some s2/\O (e,s2,y.2.2)))
  {n:Nat} {s0:S} (h0:cq keep s=some s0) (hI:I n s0 c):pH B Ti (.loop x) c s O:=fun F G w a Q' hs hj hK=>by
 obtain⟨G0,g1,g2⟩:=vw hT hj hs h0
 have key: ∀(N n:Nat) (s:S) (c:PX×S),n<N->I n s c-> ∀(F:Nat->Prop) (G:Nat->Value) (w:World) (a:Act),aB Q Ti F G w a s->B.at c w F (Own G s.rg)->Code.roundsIn (wd none) 0 Q x Q' N a w:=by
  intro N
  induction N with
  |zero=>intro n s c h;omega
  |succ N ih=>
   intro n s c hn hI F G w a hs hj
   rw[roundsIn_succ]
   refine hr n s c hI F G w a _ hs hj fun e s1 c1 a1 w1 hp hP=> ?_
   obtain⟨F1,G1,k1,k2⟩:=hP
   cases e with
   |normal=>
    obtain⟨s2,h2,m,hm,hi⟩:=hp
    obtain⟨G2,m1,m2⟩:=vw hT k2 k1 h2
    exact ih m s2 c1 (by omega) hi F1 G2 w1 a1 m1 m2
   |exit id=>
    obtain⟨s2,h2,hO⟩:=hp
    obtain⟨G2,m1,m2⟩:=vw (keep:=keep.map fun l=>(l.2,l.2)) hT k2 k1 (by cases keep<;>exact h2)
    exact hK _ s2 c1 a1 w1 hO ⟨F1,G2,m1,m2⟩
   |ret=>
    obtain⟨s2,h2,hO⟩:=hp
    obtain⟨G2,m1,m2⟩:=vw (keep:=keep.map fun l=>(l.2,l.2)) hT k2 k1 (by cases keep<;>exact h2)
    exact hK _ s2 c1 a1 w1 hO ⟨F1,G2,m1,m2⟩
 exact wpIn_loop_rounds (n+1) (key (n+1) n s0 c (by omega) hI F G0 w a g1 g2)
def yieldOf (yt:Nat) (s:S) (o:Oper):Option (List D):=
 match fY o,o.guard with
 |some (f,xs),none=>match s.ev f with
  | .mp y v=>match lk s.rg y with
   |some e=>match e.obj,e.tag with
    | .dX,some i=>if Nat.beq e.aU v&&Nat.beq i yt then yD (xs.map s.ev) else none
    |_,_=>none
   |none=>none
  |_=>none
 |_,_=>none
def nb (Q:Program) (kf:KF) (yt:Nat) (ry:S->List P->(PX×S->Prop)->Prop) (ops:List Oper):List Oper->List (Nat×Bool)->S×(PX×S)->(S×(PX×S)->Prop)->Prop
 | [],_,x,post=>post x
 |o::l,kn,x,post=>match oS o with
  |some it=>Af Q x.1 o.dst ((x.1.ev it).under none) fun s1=>s1.force fun s1=>nb Q kf yt ry ops l [] (s1,x.2) post
  |none=>match yieldOf yt x.1 o with
  |some ds=>(match x.2.1 with
   | .normal=>ry x.2.2 (ds.map .d) fun y=>match x.1.put o.dst (.d (.bool (PX.jump y.1).isNone)) with
    |some s1=>nb Q kf yt ry ops l [] (s1,y) post
    |none=>False
   |_=>False)
  |none=>zA Q kf ops kn x.1 o fun z=>z.1.force fun s1=>nb Q kf yt ry ops l z.2 (s1,x.2) post
theorem xh: ∀(ts:List Nat) (ps:List P) (s s1:S),kr s ts ps=some s1->ts.length=ps.length
 | [],[],_,_,_=>rfl
 | [],_::_,s,s1,h=>by simp[kr] at h
 |_::_,[],s,s1,h=>by simp[kr] at h
 |t::ts,p::ps,s,s1,h=>by
  simp only[kr] at h
  split at h
  ·simp[xh ts ps _ _ h]
  ·cases h
theorem Ef {ps:List Nat} {base:Nat} {keep:Option (List Nat×List Nat)} {asg body:S->(PX×S->Prop)->Prop} {s:S} {args:List P} {post:PX×S->Prop} (h:jG ps base keep asg body s args post):ps.length=args.length:=by
 unfold jG at h
 split at h
 ·exact h.elim
 ·split at h
  ·exact h.elim
  ·rename_i hp
   exact xh _ _ _ _ hp
theorem Eg: ∀(ps:List P) (ds:List D),yD ps=some ds->ps=ds.map .d
 | [],ds,h=>by simp[yD] at h;subst h;rfl
 |p::ps,ds,h=>by
  cases p<;>simp only[yD] at h<;>try (cases h;done)
  split at h
  ·rename_i x xs hx
   simp at h
   subst h
   simp[Eg ps xs hx]
  ·cases h
theorem nc {kf:KF} {cf:Nat->Nat->CF} (fG:yZ kf cf) (iV: ∀a b,db Q Ti.w0 (cf a b)) (hT:Ti.w0=B.T.w0) (zZ:Ti.Nb=false) {yt:Nat} (Eh:Ti.val yt= .func (.yield B.l) #[] #[]) (Ei:B.lp.state= .ready/\B.lp.pending=none/\B.lp.tmps=B.a.tmps)
  {base:Nat} {keep:Option (List Nat×List Nat)} {asg body:S->(PX×S->Prop)->Prop} (nT: ∀val lo s post,asg s post->TW Q ⟨val,B.T.w0,lo,false⟩ B.lp.assign s post) (cB: ∀val lo s post,body s post->TW Q ⟨val,B.T.w0,lo,false⟩ B.lp.body s post)
  {ops:List Oper} {Q':Exit->Act->World->Prop} {post:S×(PX×S)->Prop}: ∀(l:List Oper) (kn:List (Nat×Bool)) (F:Nat->Prop) (G:Nat->Value) (w:World) (a:Act) (s:S) (c:PX×S),jm kn s->aB Q Ti F G w a s->B.at c w F (Own G s.rg)->
  nb Q kf yt (jG B.lp.params.toList base keep asg body) ops l kn (s,c) post->(∀s' c' a' w',post (s',c')->(∃F' G',aB Q Ti F' G' w' a' s'/\B.at c' w' F' (Own G' s'.rg))->Q' .normal a' w')->wpListIn (wd none) 0 Q ops.toArray Q' l a w
 | [],kn,F,G,w,a,s,c,_,h,hj,hp,hK=>by
  unfold nb at hp
  exact hK s c a w hp ⟨F,G,h,hj⟩
 |o::l,kn,F,G,w,a,s,c,eb,h,hj,hp,hK=>by
  unfold nb at hp
  split at hp
  ·rename_i it ho
   have Gt:o.guard=none:=by
    unfold oS at ho
    split at ho
    ·split at ho
     ·rename_i hg;simpa using hg
     ·cases ho
    ·cases ho
   simp only[S.force_eq] at hp
   have:o.wpIn (wd none) 0 Q a w (wpListIn (wd none) 0 Q ops.toArray Q' l) Q':=II h ho hp fun s1 a1 w1 sO ⟨F1,G1,g1,g2⟩=>
    nc fG iV hT zZ Eh Ei nT cB l _ F1 G1 w1 a1 s1 c (jm.nil s1) g1 (vv hT hj g1 g2) sO hK
   exact fb (by rw[if_pos (by simp[Region.wanted,Gt])];exact this)
  ·split at hp
   ·rename_i ds hy
    split at hp
    ·rename_i y5
     unfold yieldOf at hy
     split at hy
     ·rename_i f xs iW Gt
      split at hy
      ·rename_i y v Y6
       split at hy
       ·rename_i e he
        split at hy
        ·rename_i i bR hei
         split at hy
         ·rename_i dF
          simp only[Bool.and_eq_true] at dF
          have dI:e.aU=v:=by simpa using dF.1
          have hi:i=yt:=by simpa using dF.2
          subst hi
          have hG:G y= .func (.yield B.l) #[] #[]:=by rw[h.tag y e i he hei (by rw[bR];rfl)];exact Eh
          have hval:a.eval f= .func (.yield B.l) #[] #[]:=by
           have:=vW h f
           rw[Y6] at this
           generalize a.eval f=u at this
           cases this with
           |mp _ _ _ h1 hr=>rw[<-hG];exact hr.at he dI (by rw[bR];rfl)
          unfold fY at iW
          split at iW
          ·rename_i cl tQ
           split at iW
           ·rename_i f' gD
            simp at iW
            obtain⟨rfl,rfl⟩:=iW
            have b8:=Eg _ _ hy
            have hlen:(cl.args.toList.map a.eval).length=ds.length:=by
             have:=congrArg List.length b8
             simpa using this
            have iQ:c=(.normal,c.2):=by rw[<-y5]
            have C2:nK Q B.T B.a B.l B.lp B.own0 B.F0 B.W0 (.normal,c.2) w F (Own G s.rg):=by rw[<-iQ];exact hj
            have r3:(cl.args.toList.map a.eval).length=B.lp.params.size:=by
             have:=Ef hp
             simp at this
             rw[hlen,<-this]
            obtain⟨fn,tmps,qak,body',y1,y2⟩:=nK.round (m:=0-1) (vs:=cl.args.toList.map a.eval) Ei hT zZ C2 h nT cB hlen r3 (fun j u x hu hx=>by
             rw[List.getElem?_map,Option.map_eq_some_iff] at hu
             obtain⟨z,hz,rfl⟩:=hu
             have Tq:=vW h z
             have:s.ev z= .d x:=by
              have e1:=congrArg (fun l=>l[j]?) b8
              simp only[List.getElem?_map,hz,hx,Option.map_some,Option.some.injEq] at e1
              exact e1
             rw[this] at Tq
             generalize a.eval z=u at Tq⊢
             cases Tq with
             |d hd=>exact hd) hp
            have this:o.wpIn (wd none) 0 Q a w (wpListIn (wd none) 0 Q ops.toArray Q' l) Q':=by
             refine r9 (fun c' qt=>by rw[tQ] at qt;cases qt) ?_
             have bE:(execOp a.eval o).run Q w= .ok (.round B.l fn tmps qak body') w:=by
              have e:cl.args.map a.eval=⟨cl.args.toList.map a.eval⟩:=by apply Array.toList_inj.1;simp
              rw[<-y1,<-e]
              simp[execOp,tQ,resolve,gD,hval,Deferred.ofValue,invoke]
             rw[bE]
             refine⟨fun h=>(by cases h),y2.mono ?_⟩
             rintro e' w' ⟨x,s',p1,rfl,p3,p4⟩
             simp only at p1
             split at p1
             ·rename_i s1 pX
              obtain⟨c1,c2⟩:=ct p4 pX (v:= .bool (PX.jump x).isNone) (cr.of (.d (.bool _)))
              exact nc fG iV hT zZ Eh Ei nT cB l [] F G w' _ s1 (x,s') (jm.nil s1) c1 (by rw[c2];exact p3) p1 hK
             ·exact p1.elim
            exact fb (by rw[if_pos (by simp[Region.wanted,Gt])];exact this)
           ·cases iW
          ·cases iW
         ·cases hy
        ·cases hy
       ·cases hy
      ·cases hy
     ·cases hy
    ·exact hp.elim
   ·obtain⟨x,⟨hx,hk⟩,sO⟩:=sf fG eb _ hp
    rw[S.force_eq] at sO
    obtain⟨i,j,hx⟩:=hx.some
    have jj:=jN (r:=none) (iV i j) h hx (K:=wpListIn (wd none) 0 Q ops.toArray Q' l) (Q':=Q') (fun a' w' ⟨F',G',g1,g2⟩=>
     nc fG iV hT zZ Eh Ei nT cB l _ F' G' w' a' x.1 c hk g1 (vv hT hj g1 g2) sO hK)
    exact fb jj
def ew (Q:Program) (kf:KF) (yt:Nat) (ry:S->List P->(PX×S->Prop)->Prop) (hk:List (Nat×(S×(PX×S)->K (PX×S×(PX×S))))) (dc:Nat->Nat):Code->S×(PX×S)->K (PX×S×(PX×S))
 | .skip,x=>K.ret (.normal,x)
 | .label _,x=>K.ret (.normal,x)
 | .region id ops draw,x=>if draw then K.bind (Dp Q kf ops.toList (dc id) x.1) fun s1=>K.ret (.normal,s1,x.2) else K.bind (nb Q kf yt ry ops.toList ops.toList [] x) fun y=>K.ret (.normal,y)
 | .seq a b,x=>K.bind (ew Q kf yt ry hk dc a x) fun y=>match y.1 with
  | .normal=>ew Q kf yt ry hk dc b y.2
  |_=>K.ret y
 | .cond c a b,x=>match x.1.ev c with
  | .d (.bool t)=>K.bind (K.dec t) fun r=>if r then ew Q kf yt ry hk dc a x else ew Q kf yt ry hk dc b x
  |_=>K.fail
 | .block id c,x=>K.bind (ew Q kf yt ry hk dc c x) fun y=>match y.1 with
  | .exit ou=>if Nat.beq ou id then K.ret (.normal,y.2) else K.ret y
  |_=>K.ret y
 | .loop c,x=>match lk hk (Code.rM c) with
  |some h=>h x
  |none=>K.fail
 | .scope c,x=>ew Q kf yt ry hk dc c x
 | .exit id,x=>K.ret (.exit id,x)
 | .ret,x=>K.ret (.ret,x)
 |_,_=>K.fail
variable {kp:py}
theorem gk {kf:KF} (fG:yZ kf (eZ Q kp)) (hX:db Q Ti.w0 kp.X) (hdr:Q.follows .mixedOrders=true) (hT:Ti.w0=B.T.w0) (zZ:Ti.Nb=false) {yt:Nat} (Eh:Ti.val yt= .func (.yield B.l) #[] #[]) (Ei:B.lp.state= .ready/\B.lp.pending=none/\B.lp.tmps=B.a.tmps)
  {base:Nat} {keep:Option (List Nat×List Nat)} {asg body:S->(PX×S->Prop)->Prop} (nT: ∀val lo s post,asg s post->TW Q ⟨val,B.T.w0,lo,false⟩ B.lp.assign s post) (cB: ∀val lo s post,body s post->TW Q ⟨val,B.T.w0,lo,false⟩ B.lp.body s post)
  {hk:List (Nat×(S×(PX×S)->K (PX×S×(PX×S))))} {dc:Nat->Nat}: ∀(code:Code),bW dc code=true->
  (∀d∈aN code,∀h,lk hk (Code.rM d)=some h-> ∀x post,h x post->pH B Ti (.loop d) x.2 x.1 post)-> ∀(x:S×(PX×S)) (post:PX×S×(PX×S)->Prop),ew Q kf yt (jG B.lp.params.toList base keep asg body) hk dc code x post->pH B Ti code x.2 x.1 post
 | .skip,_,_,x,post,hp=>fun F G w a Q' hs hj hK=>wpIn_skip (hK .normal x.1 x.2 a w hp ⟨F,G,hs,hj⟩)
 | .label _,_,_,x,post,hp=>fun F G w a Q' hs hj hK=>wpIn_label (hK .normal x.1 x.2 a w hp ⟨F,G,hs,hj⟩)
 | .region id ops draw,hl,_,x,post,hp=>by
  have iV: ∀a b,db Q Ti.w0 (eZ Q kp a b):=fun a b=>sj hX hdr b
  unfold ew at hp
  cases draw with
  |true=>
   simp only[if_true] at hp
   obtain⟨s1,h1,hp⟩:=wZ fG (Nat.eq_of_beq_eq_true (by simpa [bW] using hl)) _ hp
   obtain⟨i,j,h1⟩:=h1.some
   refine pH.mono (pH.lift hT (TW.of_run (kp:=fun _=>none) (lf:=0) (iV i j) hdr (x:=(.normal,s1)) (by simp only[bz,if_true,h1]) (post:=fun y=>post (y.1,y.2,x.2)) hp)) ?_
   rintro⟨e,s2,c2⟩ ⟨h2,rfl⟩
   exact h2
  |false=>
   simp only[Bool.false_eq_true,if_false] at hp
   exact fun F G w a Q' hs hj hK=>wpIn_region_list (by simpa using nc fG iV hT zZ Eh Ei nT cB ops.toList [] F G w a x.1 x.2 (jm.nil x.1) hs hj hp fun s' c' a' w' r3 hP=>hK .normal s' c' a' w' r3 hP)
 | .seq a b,hl,hh,x,post,hp=>by
  unfold ew at hp
  have GL:bW dc a=true/\bW dc b=true:=by simpa [bW] using hl
  refine pH.seq (gk fG hX hdr hT zZ Eh Ei nT cB a GL.1 (fun d hd=>hh d (by simp[aN,hd])) x _ hp) (fun s1 c1 h1=>gk fG hX hdr hT zZ Eh Ei nT cB b GL.2 (fun d hd=>hh d (by simp[aN,hd])) (s1,c1) post h1) fun e s1 c1 he h1=> ?_
  cases e with
  |normal=>exact absurd rfl he
  |exit id=>exact h1
  |ret=>exact h1
 | .cond k a b,hl,hh,x,post,hp=>by
  unfold ew at hp
  have GL:bW dc a=true/\bW dc b=true:=by simpa [bW] using hl
  have hbx: ∃b,x.1.ev k= .d (.bool b):=by
   cases hb:x.1.ev k with
   |d y=>
    cases y with
    |bool b=>exact⟨b,rfl⟩
    |_=>simp only[hb] at hp;exact hp.elim
   |_=>simp only[hb] at hp;exact hp.elim
  obtain⟨t,hb⟩:=hbx
  simp only[hb] at hp
  obtain⟨r,rfl,hp⟩:=KW.dec (b:=t) (p:=fun r=>t=r) rfl _ hp
  refine pH.cond hb ?_
  cases t with
  |true=>exact gk fG hX hdr hT zZ Eh Ei nT cB a GL.1 (fun d hd=>hh d (by simp[aN,hd])) x post hp
  |false=>exact gk fG hX hdr hT zZ Eh Ei nT cB b GL.2 (fun d hd=>hh d (by simp[aN,hd])) x post hp
 | .block id k,hl,hh,x,post,hp=>by
  unfold ew at hp
  refine pH.block (gk fG hX hdr hT zZ Eh Ei nT cB k hl (fun d hd=>hh d (by simpa [aN] using hd)) x _ hp) fun e s1 c1 h1=> ?_
  cases e with
  |normal=>exact h1
  |ret=>exact h1
  |exit ou=>
   simp only at h1⊢
   split
   ·rename_i h;rw[if_pos h] at h1;exact h1
   ·rename_i h;rw[if_neg h] at h1;exact h1
 | .loop k,hl,hh,x,post,hp=>by
  cases KK:lk hk (Code.rM k) with
  |some h=>simp only[ew,KK] at hp;exact hh k (by simp[aN]) h KK x post hp
  |none=>simp only[ew,KK] at hp;exact hp.elim
 | .scope k,hl,hh,x,post,hp=>by
  unfold ew at hp
  exact pH.scope (gk fG hX hdr hT zZ Eh Ei nT cB k hl (fun d hd=>hh d (by simpa [aN] using hd)) x post hp)
 | .exit id,_,_,x,post,hp=>fun F G w a Q' hs hj hK=>wpIn_exit (hK (.exit id) x.1 x.2 a w hp ⟨F,G,hs,hj⟩)
 | .ret,_,_,x,post,hp=>fun F G w a Q' hs hj hK=>wpIn_ret (hK .ret x.1 x.2 a w hp ⟨F,G,hs,hj⟩)
 | .rangeFunc _ _ _ _,_,_,x,post,hp=>by unfold ew at hp;exact hp.elim
 | .goto _,_,_,x,post,hp=>by unfold ew at hp;exact hp.elim
 | .refuse _,_,_,x,post,hp=>by unfold ew at hp;exact hp.elim
end
end Pi
