/- The text PiCodeOk. -/
import Derived.Test.YtfelfooeclnbiaaPiLate
import Derived.RangeFuncLeaves
import Derived.RangeFuncRecord
namespace Pi
open Go
def PX.jF:PX->Exit
 | .normal=> .normal
 | .exit id=> .exit id
 | .ret=> .ret
section
variable{Q:Program}{T:Tg}{cf:CF}{kp:Nat->Option (List Nat×List Nat)}{lf:Nat}{r:Option Nat}
theorem oP{F:Nat->Prop}{G:Nat->Value}{w:World}{a:Act}{s s0:S}{keep:Option (List Nat×List Nat)}(h:ar Q T F G w a s)(hs:fm keep s=some s0): ∃G0,ar Q T F G0 w a s0/\Ext (Own G s.rg) (Own G0 s0.rg) F F w w:=by unfold fm at hs;grind [xb,Ext.refl]
theorem rb{c:Code}{body:S->Option (PX×S)}{keep:Option (List Nat×List Nat)}
  (gA: ∀(s:S) (e:PX) (s':S),body s=some (e,s')-> ∀(F:Nat->Prop) (G:Nat->Value) (w:World) (a:Act) (Q':Exit->Act->World->Prop),ar Q T F G w a s->(∀a' w',gi Q T F G w s s' a' w'->Q' e.jF a' w')->c.wpIn (wd r) 0 Q Q' a w):
  ∀(k:Nat) (s:S) (e:PX) (s':S),dp body keep k s=some (e,s')-> ∀(F:Nat->Prop) (G:Nat->Value) (w:World) (a:Act) (Q':Exit->Act->World->Prop),ar Q T F G w a s->(∀a' w',gi Q T F G w s s' a' w'->Q' e.jF a' w')->Code.roundsIn (wd r) 0 Q c Q' k a w
 |0,s,e,s',hs,F,G,w,a,Q',h,hK=>by simp[dp] at hs
 |k+1,s,e,s',hs,F,G,w,a,Q',h,hK=>by
  simp only[dp] at hs;split at hs
  ·cases hs
  rename_i s0 xG;obtain⟨G0,g1,g2⟩:=oP h xG;cases hb:body s0 with
  |none=>grind
  |some r=>
   obtain⟨e1,s1⟩:=r;simp only[hb] at hs;have out: ∀e1,body s0=some (e1,s1)->(match gW keep s1 with |some s2=>some (e1,s2)|none=>none)=some (e,s')->(∀a' w',gi Q T F G0 w s0 s1 a' w'->Q' e1.jF a' w'):=λe1 hb hs a' w' hp=>by
    split at hs
    next s2 h2=>obtain⟨rfl,rfl⟩:=hs;obtain⟨F1,G1,k1,k2⟩:=hp;obtain⟨G2,m1,m2⟩:=oP (keep:=keep.map λl=>(l.2,l.2)) k1 (by cases keep<;>exact h2);exact hK a' w' ⟨F1,G2,m1,(g2.trans k2).trans m2⟩
    cases hs
   cases e1 with
   |normal=>refine gA s0 .normal s1 hb F G0 w a _ g1 (λa' w' ⟨F1,G1,k1,k2⟩=> ?_);show Code.roundsIn (wd r) 0 Q c Q' k a' w';exact rb gA k s1 e s' hs F1 G1 w' a' Q' k1 (λa2 w2 hp=>hK a2 w2 (gi.trans (g2.trans k2) hp))
   |exit id=>exact gA s0 _ s1 hb F G0 w a _ g1 (out _ hb hs)
   |ret=>exact gA s0 _ s1 hb F G0 w a _ g1 (out _ hb hs)
theorem cK(iG:iR Q T.w0 cf)(hdr:Q.follows .mixedOrders=true): ∀(c:Code) (s:S) (e:PX) (s':S),aR Q cf kp lf c s=some (e,s')-> ∀(F:Nat->Prop) (G:Nat->Value) (w:World) (a:Act) (Q':Exit->Act->World->Prop),ar Q T F G w a s->
  (∀a' w',gi Q T F G w s s' a' w'->Q' e.jF a' w')->c.wpIn (wd r) 0 Q Q' a w
 | .skip,s,e,s',hs,F,G,w,a,Q',h,hK=>by obtain⟨rfl,rfl⟩:=hs;exact wpIn_skip (hK a w ⟨F,G,h,Ext.refl _ _ _⟩)
 | .label l,s,e,s',hs,F,G,w,a,Q',h,hK=>by obtain⟨rfl,rfl⟩:=hs;exact wpIn_label (hK a w ⟨F,G,h,Ext.refl _ _ _⟩)
 | .region id ops draw,s,e,s',hs,F,G,w,a,Q',h,hK=>by
  simp only[aR] at hs;cases draw with
  |false=>
   split at hs
   next s1 h1=>simp at hs;obtain⟨rfl,rfl⟩:=hs;exact wpIn_region_list (by simpa using kc iG ops.toList F G w a s s1 h h1 (Q':=Q') hK)
   cases hs
  |true=>
   split at hs
   next s1 h1=>obtain⟨rfl,rfl⟩:=hs;simpa using sR (id:=id) iG hdr h h1 hK
   cases hs
 | .seq x y,s,e,s',hs,F,G,w,a,Q',h,hK=>by
  simp only[aR] at hs;refine wpIn_seq ?_;cases hx:aR Q cf kp lf x s with
  |none=>grind
  |some r=>
   obtain⟨e1,s1⟩:=r;simp only[hx] at hs;cases e1 with
   |normal=>exact cK iG hdr x s .normal s1 hx F G w a _ h (λa' w' ⟨F1,G1,k1,k2⟩=>cK iG hdr y s1 e s' hs F1 G1 w' a' Q' k1 (λa2 w2 hp=>hK a2 w2 (gi.trans k2 hp)))
   |exit id=>simp at hs;obtain⟨rfl,rfl⟩:=hs;exact cK iG hdr x s _ s1 hx F G w a _ h (λa' w' hp=>hK a' w' hp)
   |ret=>simp at hs;obtain⟨rfl,rfl⟩:=hs;exact cK iG hdr x s _ s1 hx F G w a _ h (λa' w' hp=>hK a' w' hp)
 | .cond c x y,s,e,s',hs,F,G,w,a,Q',h,hK=>by
  simp only[aR] at hs;split at hs
  next b hb=>
   have hv:a.eval c= .bool b:=by have:=zZ h c;rw[hb] at this;exact ao.aX (p:= .d (.bool b)) this rfl
   refine wpIn_cond hv ?_;cases b with
   |true=>exact cK iG hdr x s e s' (by grind) F G w a Q' h hK
   |false=>exact cK iG hdr y s e s' (by grind) F G w a Q' h hK
  cases hs
 | .block id c,s,e,s',hs,F,G,w,a,Q',h,hK=>by
  simp only[aR] at hs;refine wpIn_block ?_;cases hx:aR Q cf kp lf c s with
  |none=>grind
  |some r=>
   obtain⟨e1,s1⟩:=r;simp only[hx] at hs;refine cK iG hdr c s e1 s1 hx F G w a _ h (λa' w' hp=> ?_);cases e1 with
   |normal=>obtain⟨rfl,rfl⟩:=hs;exact hK a' w' hp
   |ret=>obtain⟨rfl,rfl⟩:=hs;exact hK a' w' hp
   |exit tc=>
    simp only at hs;split at hs
    ·rename_i Bc;have Bc:tc=id:=by simpa using Bc
     obtain⟨rfl,rfl⟩:=hs;simp only[PX.jF,Exit.inBlock,Bc,za2];exact hK a' w' hp
    rename_i Bc;have Bc: ¬tc=id:=by simpa using Bc
    obtain⟨rfl,rfl⟩:=hs;simp only[PX.jF,Exit.inBlock,Bc,zbe];exact hK a' w' hp
 | .loop c,s,e,s',hs,F,G,w,a,Q',h,hK=>by exact wpIn_loop_rounds lf (rb (λs e s' hs=>cK iG hdr c s e s' hs) lf s e s' hs F G w a Q' h hK)
 | .scope c,s,e,s',hs,F,G,w,a,Q',h,hK=>by refine iS (cK iG hdr c s e s' hs F G w a _ h (λa' w' hp=> ?_));have:=hK a' w' hp;cases e<;>simpa [PX.jF,Exit.noGoto] using this
 | .exit id,s,e,s',hs,F,G,w,a,Q',h,hK=>by obtain⟨rfl,rfl⟩:=hs;exact wpIn_exit (hK a w ⟨F,G,h,Ext.refl _ _ _⟩)
 | .ret,s,e,s',hs,F,G,w,a,Q',h,hK=>by obtain⟨rfl,rfl⟩:=hs;exact wpIn_ret (hK a w ⟨F,G,h,Ext.refl _ _ _⟩)
 | .rangeFunc _ _ _ _,s,e,s',hs,F,G,w,a,Q',h,hK=>by simp[aR] at hs
 | .goto _,s,e,s',hs,F,G,w,a,Q',h,hK=>by simp[aR] at hs
 | .refuse _,s,e,s',hs,F,G,w,a,Q',h,hK=>by simp[aR] at hs
def fL(tmps:Array Value):ResultVar->Sem Value
 | .tmp t=>pure (tmps.getD t undef)
 | .cell ad t=>do loadVar t (<-asAddr (tmps.getD ad undef))
theorem xH{F:Nat->Prop}{G:Nat->Value}{w:World}{a:Act}{s:S}(h:ar Q T F G w a s)(t:Nat):ao F w G s.rg (a.tmps.getD t undef) (((lk s.tm t).getD .bad).under none):=
 aw h (g:=none) trivial (.tmp t)
theorem sS{F:Nat->Prop}{G:Nat->Value}{w:World}{a:Act}{s:S}(h:ar Q T F G w a s){r:ResultVar}{p:P}(hr:lU Q s r=some p):
  ∃v,(fL a.tmps r).run Q w= .ok v w/\ao F w G s.rg v p:=by
 cases r with
 |tmp t=>simp only[lU,zae] at hr;subst hr;exact⟨_,rfl,xH h t⟩
 |cell ad t=>
  obtain⟨u,h1,h2⟩:=qn h (xH h ad) hr;refine⟨u,?_,h2⟩;have hp: ∃x,a.tmps.getD ad undef= .pointer (some x):=by
   cases hv:a.tmps.getD ad undef with
   |pointer o=>
    cases o with
    |some x=>simp
    |none=>rw[hv] at h1;simp[Instr.loadAt,Instr.sureAddr] at h1
   |_=>rw[hv] at h1;simp[Instr.loadAt,Instr.sureAddr] at h1
  obtain⟨x,hx⟩:=hp;rw[hx] at h1;simp only[Instr.loadAt,Instr.sureAddr,Sem.run_bind,Sem.run_pure,Result.andThen_ok] at h1;simp[fL,hx,asAddr,h1]
theorem lA{F:Nat->Prop}{G:Nat->Value}{w:World}{a:Act}{s:S}(h:ar Q T F G w a s): ∀(rs:List ResultVar) (ps:List P),cH Q s rs=some ps->
  ∃vs,(rs.mapM (fL a.tmps)).run Q w= .ok vs w/\vs.length=ps.length/\ ∀(i:Nat) (v:Value) (c:P),vs[i]?=some v->ps[i]?=some c->ao F w G s.rg v c
 | [],ps,hr=>by simp_all [cH]
 |r::rs,ps,hr=>by
  simp only[cH] at hr;cases h1:lU Q s r with
  |none=>grind
  |some p=>
   cases h2:cH Q s rs with
   |none=>grind
   |some qs=>simp[h1,h2] at hr;subst hr;obtain⟨v,g1,g2⟩:=sS h h1;obtain⟨vs,k1,k2,k3⟩:=lA h rs qs h2;refine⟨v::vs,by simp_all,by simp[k2],λi u c hu hc=> ?_⟩;grind
theorem ng: ∀(ps:List P) (i0 t:Nat) (p:P),lk (ei i0 ps) t=some p->i0<=t/\ps[t-i0]?=some p
 | [],i0,t,p,h=>by simp[ei,lk] at h
 |q::ps,i0,t,p,h=>by
  simp only[ei,lk] at h;split at h
  ·simp_all
  obtain⟨h1,h2⟩:=ng ps (i0+1) t p h;grind
theorem vn{F:Nat->Prop}{G:Nat->Value}{w:World}{R:List (Nat×En)}{t:TypeId}{v:Value}{p:P}(h:ao F w G R v p):ao F w G R v (rU Q t p):=by
 unfold rU;split
 ·cases h with
  |d h=>
   cases h;split
   ·split
    ·exact .d (.ur none _ 0)
    exact .d .dq
   exact .d .dq
 exact h
theorem lB: ∀(ts:List TypeId) (ps:List P),(ek Q ts ps).length=ps.length
 | [],ps=>by rfl
 |t::ts,[]=>by rfl
 |t::ts,p::ps=>by simp[ek,lB ts ps]
theorem nh{F:Nat->Prop}{G:Nat->Value}{w:World}{R:List (Nat×En)}: ∀(ts:List TypeId) (ps:List P) (vs:List Value),
  (∀(i:Nat) (v:Value) (c:P),vs[i]?=some v->ps[i]?=some c->ao F w G R v c)-> ∀(i:Nat) (v:Value) (c:P),vs[i]?=some v->(ek Q ts ps)[i]?=some c->ao F w G R v c
 | [],ps,vs,h=>by simpa [ek] using h
 |_::_,[],_,_=>λi v c _ hc=>by simp[ek] at hc
 |t::ts,p::ps,[],h=>λi v c hv=>by simp at hv
 |t::ts,p::ps,v::vs,h=>λi u c hu hc=>by
  cases i with
  |zero=>grind [ek,vn]
  |succ i=>exact nh ts ps vs (λi v c hv hc=>h (i+1) v c (by grind) (by grind)) i u c (by grind) (by simpa [ek] using hc)
theorem sT{F:Nat->Prop}{G:Nat->Value}{w:World}{a:Act}{s:S}(h:ar Q T F G w a s){fn:Func}{ps:List P}(hr:cH Q s fn.results.toList=some ps):
  ∃vs:List Value,(results fn a.tmps).run Q w= .ok (if hh:vs.toArray.size=1 then vs.toArray[0] else .tuple vs.toArray) w/\vs.length=ps.length/\ ∀(i:Nat) (v:Value) (c:P),vs[i]?=some v->ps[i]?=some c->ao F w G s.rg v c:=by
 obtain⟨vs,h1,h2,h3⟩:=lA h fn.results.toList ps hr;refine⟨vs,?_,h2,h3⟩;have e:(fn.results.mapM (fL a.tmps)).run Q w= .ok vs.toArray w:=by rw[Array.mapM_eq_mapM_toList];simp[h1]
 have e2:results fn a.tmps=(do let vs<-fn.results.mapM (fL a.tmps);pure (if h:vs.size=1 then vs[0] else .tuple vs)):=by rfl
 rw[e2,Sem.run_bind,e];rfl
theorem Bd{F:Nat->Prop}{G:Nat->Value}{w:World}{R:List (Nat×En)}{vs:List Value}{ps:List P}(h2:vs.length=ps.length)(h3: ∀(i:Nat) (v:Value) (c:P),vs[i]?=some v->ps[i]?=some c->ao F w G R v c):
  ao F w G R (if hh:vs.toArray.size=1 then vs.toArray[0] else .tuple vs.toArray) (wa ps):=by
 match vs,ps,h2,h3 with
 | [v],[p],_,h3=>exact h3 0 v p rfl rfl
 | [],[],h2,h3=>exact .dW [] [] rfl (λi v c hv=>by simp at hv)
 |v1::v2::vs,p1::p2::ps,h2,h3=>exact .dW _ _ h2 h3
theorem ni{T:Tg}{G:Nat->Value}{w:World}{a:Act}: ∀(ps:List P) (ts:List TypeId) (s:S) (F:Nat->Prop) (s':S) (qs:List P) (vs:List Value),ar Q T F G w a s->jQ Q s ts ps=some (s',qs)->vs.length=ps.length->
  (∀(i:Nat) (v:Value) (c:P),vs[i]?=some v->ps[i]?=some c->ao F w G s.rg v c)->
  ∃F',ar Q T F' G w a s'/\Ext (Own G s.rg) (Own G s'.rg) F F' w w/\Names G G s.rg s'.rg/\(∀b,F b->F' b)/\vs.length=qs.length/\ ∀(i:Nat) (v:Value) (c:P),vs[i]?=some v->qs[i]?=some c->ao F' w G s'.rg v c
 | [],ts,s,F,s',xs,vs,h,hs,hl,hv=>by grind [jQ,Ext.refl,Names.refl]
 |p::ps,ts,s,F,s',xs,vs,h,hs,hl,hv=>by
  cases vs with
  |nil=>simp at hl
  |cons v vs=>
   simp only[jQ] at hs;split at hs
   ·cases hs
   rename_i s1 q h1;split at hs
   ·rename_i s2 AO h2;simp at hs;obtain⟨rfl,rfl⟩:=hs;obtain⟨F1,a1,a2,a3,a4,a5⟩:=oD h h1 (hv 0 v p (by simp) (by simp));obtain⟨F2,b1,b2,b3,b4,b5,b6⟩:=ni ps ts.tail s1 F1 s2 AO vs a1 h2 (by grind)
     (λi u c hu hc=>(hv (i+1) u c (by grind) (by grind)).mono a4 (λ_ _=>rfl) a3)
    refine⟨F2,b1,a2.trans b2,a3.trans b3,λb hb=>b4 b (a4 b hb),by grind,λi u c hu hc=> ?_⟩;cases i with
    |zero=>simp at hu hc;subst hu;subst hc;exact a5.mono b4 (λ_ _=>rfl) b3
    |succ i=>grind
   cases hs
theorem vo{F:Nat->Prop}{G:Nat->Value}{w:World}{a:Act}{s:S}(h:ar Q T F G w a s){m:Nat}{BN:List TypeId}{qs:List P}{p:P}{R1:List (Nat×En)}(hf:finish Q m BN qs s=some (p,R1))
  {vs:List Value} (hl:vs.length=qs.length) (hv: ∀(i:Nat) (v:Value) (c:P),vs[i]?=some v->qs[i]?=some c->ao F w G s.rg v c):
  ∃F' G',dO Q T F' G' w R1/\ao F' w G' R1 (if hh:vs.toArray.size=1 then vs.toArray[0] else .tuple vs.toArray) p/\Ext (Own G s.rg) (Own G' R1) F F' w w:=by
 unfold finish at hf;split at hf
 ·cases hf
 rename_i s0 Ei Be;obtain⟨F1,j1,j2,j3,j4,j5,j6⟩:=ni _ _ s F s0 Ei vs h Be hl hv;split at hf
 ·cases hf
 rename_i s1 Dw ho;obtain⟨G1,h1,h2,h3,h4,h5⟩:=hJ _ _ _ s0 G s1 Dw vs j1 ho j5 j6;simp only at hf;split at hf
 next rH=>
  split at hf
  next R hR=>obtain⟨rfl,rfl⟩:=hf;obtain⟨k1,k2,k3⟩:=h1.heap.sub hR rH;refine⟨F1,_,by grind,ju k2 (Bd h4 h5),(j2.trans h2).trans ⟨λ_ h=>h,λ_ h=> .inl h,λb hb=> ?_,λ_ _ _=>rfl,zaf _,rfl,rfl,rfl⟩⟩;obtain⟨n,e,_,he,hb⟩:=k3 b hb;exact .inl ⟨n,e,he,hb⟩
  cases hf
 cases hf
theorem dO.lo{val:Nat->Value}{w0:World}{x y:Nat}{m1 m2:Bool}{F:Nat->Prop}{G:Nat->Value}{w:World}{R:List (Nat×En)}(h:dO Q ⟨val,w0,x,m1⟩ F G w R)(hy:y<=w.heap.size:=by exact za0 _):dO Q ⟨val,w0,y,m2⟩ F G w R:=
 ⟨.nil,h.size,h.tm,h.rg,h.own,h.iO,h.gK,h.tag,h.z,h.dr,hy⟩
theorem ar.lo{val:Nat->Value}{w0:World}{x y:Nat}{m1 m2:Bool}{F:Nat->Prop}{G:Nat->Value}{w:World}{t:Array Value}{s:S}(h:ar Q ⟨val,w0,x,m1⟩ F G w ⟨t,[]⟩ s)(hy:y<=w.heap.size):ar Q ⟨val,w0,y,m2⟩ F G w ⟨t,[]⟩ s:=
 ⟨.nil,h.size,h.tm,h.rg,h.own,h.iO,h.gK,h.tag,h.z,h.dr,hy⟩
theorem ar.shut{T:Tg}{F:Nat->Prop}{G:Nat->Value}{w:World}{t:Array Value}{d:Deferred}{ds:List Deferred}{s:S}(h:ar Q T F G w ⟨t,d::ds⟩ s):
  ∃D,d={target:= .collected D,args:= #[]}/\(Instr.takeDeferred D).run Q w= .ok [] (w.putObj D (.deferred none))/\ar Q T F G (w.putObj D (.deferred none)) ⟨t,ds⟩ s/\
   ∀(own0 F0:Nat->Prop) (w1:World),w1.heap.size<=T.lo->Ext own0 (Own G s.rg) F0 F w1 w->Ext own0 (Own G s.rg) F0 F w1 (w.putObj D (.deferred none)):=by
 obtain⟨rH,hm⟩:=h.r4;have za:=zbn.1 rH;obtain⟨D,h1,h0,h2,h3,h4⟩:=hm d (by simp);have cc: ∀b,b≠D->(w.putObj D (.deferred none)).heap[b]?=w.heap[b]?:=λb hb=>by simp only[World.putObj];rw[zax (za1 hb)]
 have hF: ∀b,F b->(w.putObj D (.deferred none)).heap[b]?=w.heap[b]?:=λb hb=>cc b λe=>h3 (e▸hb);have bM:(w.putObj D (.deferred none)).heap.size=w.heap.size:=by simp
 refine⟨D,h1,run_takeDeferred h2,⟨⟨za.2,λd' cJ=> ?_⟩,h.size,λt p hp=>bx.mono (λ_ h=>h) hF (Names.refl _ _) (h.tm t p hp),
  λn e he=>(h.rg n e he).mono (λ_ h=>h) hF (Names.refl _ _) rfl (λb hb=>cc b λe'=>h4 ⟨n,e,he,e'▸hb⟩),h.own,h.iO,λb hb=>by rw[bM];exact h.gK b hb,h.tag,
  λb hb=>⟨(h.z b hb).1,(hF b (h.z b hb).1).trans (h.z b hb).2⟩,h.dr,by rw[bM];exact h.sz⟩,λown0 F0 w1 uy hx=> ?_⟩
 ·grind
 exact⟨hx.gZ,hx.mc,hx.jU,λb hb hn=>(cc b (by omega)).trans (hx.keep b hb hn),by grind,hx.os,hx.tape,hx.output⟩
theorem re{T:Tg}{F:Nat->Prop}{G:Nat->Value}{t:Array Value}{s:S}{fn:Func}{own0 F0:Nat->Prop}{w1:World}(uy:w1.heap.size<=T.lo){R:Ending->World->Prop}{n:Nat}
  (hR: ∀w2,ar Q T F G w2 ⟨t,[]⟩ s->Ext own0 (Own G s.rg) F0 F w1 w2-> ∃v,(results fn t).run Q w2= .ok v w2/\R (.returned v) w2):
  ∀(ds:List Deferred) (w:World),ar Q T F G w ⟨t,ds⟩ s->Ext own0 (Own G s.rg) F0 F w1 w->LeavesInM Fence.wide n Q fn t R ds .returning w
 | [],w,h,hx=>hR w h hx
 |d::ds,w,h,hx=>by obtain⟨D,h1,h2,h3,h4⟩:=h.shut;exact⟨λe=>(by cases e),.inl ⟨D,_,by rw[h1],h2,re uy hR ds _ h3 (h4 _ _ _ uy hx)⟩⟩
theorem nj{f:FuncId}{fn:Func}{c:Code}{args:Array Value}{w:World}{R:Ending->World->Prop}(hf:Q.funcs[f]?=some fn)(hb:fn.body=some c)
  (h:c.wpIn (wd none) 0 Q (bodyPostM Fence.wide 0 Q fn R) {tmps:=args++Array.replicate (fn.ntmps-args.size) undef,defers:=[]} w):Calls Q f args w R:=
 callsIn_wide.1 (callsIn_of_wp_marks hf hb trivial h)
theorem sU(k:Option (List Nat×List Nat))(ts:List TypeId)(ps:List P):(gX k Q ts ps).length=ps.length:=by
 cases k with
 |none=>exact lB ts ps
 |some _=>rfl
theorem vp{F:Nat->Prop}{G:Nat->Value}{w:World}{R:List (Nat×En)}(k:Option (List Nat×List Nat))(ts:List TypeId)(ps:List P)(vs:List Value)
  (h: ∀(i:Nat) (v:Value) (c:P),vs[i]?=some v->ps[i]?=some c->ao F w G R v c): ∀(i:Nat) (v:Value) (c:P),vs[i]?=some v->(gX k Q ts ps)[i]?=some c->ao F w G R v c:=by
 cases k with
 |none=>exact nh ts ps vs h
 |some _=>exact h
theorem tR{kp:rT}{w0:World}(hX:iR Q w0 kp.X)(hdr:Q.follows .mixedOrders=true): ∀(k:Nat),iR Q w0 (dN Q kp lf k)
 |0=>λgS ps R p R1 h=>by simp[dN] at h
 |k+1=>λgS ps R p R1 hr F G w vs hH hl hv=>by
  have ih:=tR (kp:=kp) hX hdr k;simp only[dN] at hr;split at hr
  ·cases hr
  rename_i fn jt;split at hr
  ·exact hX gS ps R p R1 hr F G w vs hH hl hv
  split at hr
  ·cases hr
  rename_i c hc;split at hr
  ·cases hr
  rename_i lx;have lx:(fn.name== "runtime.NumGoroutine")=false:=by grind
  left;refine⟨by simp[callFunc,jt,hc];grind,?_⟩;refine nj jt hc ?_;have Eu:vs.length=(gX (kp gS 999999) Q fn.params.toList ps).length:=by rw[sU];exact hl
  have tl:=vp (Q:=Q) (kp gS 999999) fn.params.toList ps vs hv;have Bf:ar Q ⟨G,w0,w.heap.size,true⟩ F G w {tmps:=(⟨vs⟩:Array Value)++Array.replicate (fn.ntmps-(⟨vs⟩:Array Value).size) undef,defers:=[]} ⟨fn.ntmps,ei 0 (gX (kp gS 999999) Q fn.params.toList ps),R⟩:=by refine(dO.lo hH (zaf _)).state rfl .nil (by simp;omega) (λt p hp=> ?_);obtain⟨_,h2⟩:=ng _ 0 t p hp;grind [dw,bx.of]
  have fin: ∀(s1:S) (qs:List P),cH Q s1 fn.results.toList=some qs->finish Q R.length fn.resultTypes.toList qs s1=some (p,R1)-> ∀a' w',gi Q ⟨G,w0,w.heap.size,true⟩ F G w ⟨fn.ntmps,ei 0 (gX (kp gS 999999) Q fn.params.toList ps),R⟩ s1 a' w'->
    LeavesInM Fence.wide 0 Q fn a'.tmps (λe w'=> ∃v2,e= .returned v2/\ ∃F' G',dO Q ⟨G,w0,0,false⟩ F' G' w' R1/\ao F' w' G' R1 v2 p/\Ext (Own G R) (Own G' R1) F F' w w') a'.defers .returning w':=by
   intro s1 qs hq BP a' w' ⟨F',G',h1,h2⟩;refine re (T:=⟨G,w0,w.heap.size,true⟩) (own0:=Own G R) (F0:=F) (w1:=w) (zaf _) (λw2 h3 h4=> ?_) a'.defers w' h1 h2;obtain⟨us,g1,g2,g3⟩:=sT h3 hq;obtain⟨F2,G2,k1,k2,k3⟩:=vo h3 BP g2 g3;exact⟨_,g1,_,rfl,F2,G2,k1.lo,k2,h4.trans k3⟩
  cases hx:aR Q (dN Q kp lf k) (kp gS) lf c ⟨fn.ntmps,ei 0 (gX (kp gS 999999) Q fn.params.toList ps),R⟩ with
  |none=>grind
  |some r=>
   obtain⟨e,s1⟩:=r;simp only[hx] at hr;have Be: ∃qs,cH Q s1 fn.results.toList=some qs/\finish Q R.length fn.resultTypes.toList qs s1=some (p,R1):=by
    cases e<;>simp only at hr<;>try (grind)
    all_goals
     grind
   obtain⟨qs,hq,BP⟩:=Be;refine cK (r:=none) (T:=⟨G,w0,w.heap.size,true⟩) ih hdr c _ e s1 hx F G w _ _ Bf (λa' w' hp=> ?_);have:=fin s1 qs hq BP a' w' hp;cases e with
   |normal=>exact this
   |ret=>exact this
   |exit id=>simp at hr
end
end Pi
