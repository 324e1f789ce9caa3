/- The text PiCodeOk. -/
import Derived.Test.YtdgkdigdflkjhaaGreatDoorPiLate
import Derived.RangeFuncLeaves
import Derived.RangeFuncRecord
namespace Pi
open Go
def PX.fH:PX->Exit
 | .normal=> .normal
 | .exit id=> .exit id
 | .ret=> .ret
section
variable{Q:Program}{T:Tg}{cf:CF}{kp:Nat->Option (List Nat×List Nat)}{lf:Nat}{r:Option Nat}
theorem fZ{F G w a}{s s0 keep}(h:aC Q T F G w a s)(hs:cG keep s=some s0): ∃G0,aC Q T F G0 w a s0/\Ext (Own G s.rg) (Own G0 s0.rg) F F w w:=by unfold cG at hs;grind [Uk,Ext.refl]
theorem IE{c body keep}
  (cS: ∀s e s',body s=some (e,s')-> ∀F G w a Q',aC Q T F G w a s->(∀a' w',jo Q T F G w s s' a' w'->Q' e.fH a' w')->c.wpIn (wd r) 0 Q Q' a w):
  ∀k s e s',jc body keep k s=some (e,s')-> ∀F G w a Q',aC Q T F G w a s->(∀a' w',jo Q T F G w s s' a' w'->Q' e.fH a' w')->Code.roundsIn (wd r) 0 Q c Q' k a w
 |0,s,e,s',hs,F,G,w,a,Q',h,hK=>by simp[jc] at hs
 |k+1,s,e,s',hs,F,G,w,a,Q',h,hK=>by
  simp only[jc] at hs;split at hs
  ·cases hs
  rename_i s0 hs0;obtain⟨G0,g1,g2⟩:=fZ h hs0;cases hb:body s0 with
  |none=>grind
  |some r=>
   obtain⟨e1,s1⟩:=r;simp only[hb] at hs;have out: ∀e1,body s0=some (e1,s1)->(match dL keep s1 with |some s2=>some (e1,s2)|none=>none)=some (e,s')->(∀a' w',jo Q T F G0 w s0 s1 a' w'->Q' e1.fH a' w'):=λe1 hb hs a' w' hp=>by
    split at hs
    next s2 h2=>obtain⟨rfl,rfl⟩:=hs;obtain⟨F1,G1,k1,k2⟩:=hp;obtain⟨G2,m1,m2⟩:=fZ (keep:=keep.map λl=>(l.2,l.2)) k1 (by cases keep<;>exact h2);exact hK a' w' ⟨F1,G2,m1,(g2.trans k2).trans m2⟩
    cases hs
   cases e1 with
   |normal=>refine cS s0 .normal s1 hb F G0 w a _ g1 (λa' w' ⟨F1,G1,k1,k2⟩=> ?_);show Code.roundsIn (wd r) 0 Q c Q' k a' w';exact IE cS k s1 e s' hs F1 G1 w' a' Q' k1 (λa2 w2 hp=>hK a2 w2 (jo.trans (g2.trans k2) hp))
   |exit id=>exact cS s0 _ s1 hb F G0 w a _ g1 (out _ hb hs)
   |ret=>exact cS s0 _ s1 hb F G0 w a _ g1 (out _ hb hs)
theorem fI(jO:cz Q T.w0 cf)(hdr:Q.follows .mixedOrders=true): ∀c s e s',bU Q cf kp lf c s=some (e,s')-> ∀F G w a Q',aC Q T F G w a s->
  (∀a' w',jo Q T F G w s s' a' w'->Q' e.fH a' w')->c.wpIn (wd r) 0 Q Q' a w
 | .skip,s,e,s',hs,F,G,w,a,Q',h,hK=>by obtain⟨rfl,rfl⟩:=hs;exact wpIn_skip (hK a w ⟨F,G,h,Ext.refl _ _ _⟩)
 | .label l,s,e,s',hs,F,G,w,a,Q',h,hK=>by obtain⟨rfl,rfl⟩:=hs;exact wpIn_label (hK a w ⟨F,G,h,Ext.refl _ _ _⟩)
 | .region id ops draw,s,e,s',hs,F,G,w,a,Q',h,hK=>by
  simp only[bU] at hs;cases draw with
  |false=>
   split at hs
   next s1 h1=>simp at hs;obtain⟨rfl,rfl⟩:=hs;exact wpIn_region_list (by simpa using uH jO ops.toList F G w a s s1 h h1 (Q':=Q') hK)
   cases hs
  |true=>
   split at hs
   next s1 h1=>obtain⟨rfl,rfl⟩:=hs;simpa using L9 (id:=id) jO hdr h h1 hK
   cases hs
 | .seq x y,s,e,s',hs,F,G,w,a,Q',h,hK=>by
  simp only[bU] at hs;refine wpIn_seq ?_;cases hx:bU Q cf kp lf x s with
  |none=>grind
  |some r=>
   obtain⟨e1,s1⟩:=r;simp only[hx] at hs;cases e1 with
   |normal=>exact fI jO hdr x s .normal s1 hx F G w a _ h (λa' w' ⟨F1,G1,k1,k2⟩=>fI jO hdr y s1 e s' hs F1 G1 w' a' Q' k1 (λa2 w2 hp=>hK a2 w2 (jo.trans k2 hp)))
   |exit id=>simp at hs;obtain⟨rfl,rfl⟩:=hs;exact fI jO hdr x s _ s1 hx F G w a _ h (λa' w' hp=>hK a' w' hp)
   |ret=>simp at hs;obtain⟨rfl,rfl⟩:=hs;exact fI jO hdr x s _ s1 hx F G w a _ h (λa' w' hp=>hK a' w' hp)
 | .cond c x y,s,e,s',hs,F,G,w,a,Q',h,hK=>by
  simp only[bU] at hs;split at hs
  next b hb=>
   have hv:a.eval c= .bool b:=by have:=zx h c;rw[hb] at this;exact aH.cD (p:= .d (.bool b)) this rfl
   refine wpIn_cond hv ?_;cases b with
   |true=>exact fI jO hdr x s e s' (by grind) F G w a Q' h hK
   |false=>exact fI jO hdr y s e s' (by grind) F G w a Q' h hK
  cases hs
 | .block id c,s,e,s',hs,F,G,w,a,Q',h,hK=>by
  simp only[bU] at hs;refine wpIn_block ?_;cases hx:bU Q cf kp lf c s with
  |none=>grind
  |some r=>
   obtain⟨e1,s1⟩:=r;simp only[hx] at hs;refine fI jO hdr c s e1 s1 hx F G w a _ h (λa' w' hp=> ?_);cases e1 with
   |normal=>obtain⟨rfl,rfl⟩:=hs;exact hK a' w' hp
   |ret=>obtain⟨rfl,rfl⟩:=hs;exact hK a' w' hp
   |exit qA=>
    simp only at hs;split at hs
    ·rename_i hid;have hid:qA=id:=by simpa using hid
     obtain⟨rfl,rfl⟩:=hs;simp only[PX.fH,Exit.inBlock,hid,zbo];exact hK a' w' hp
    rename_i hid;have hid: ¬qA=id:=by simpa using hid
    obtain⟨rfl,rfl⟩:=hs;simp only[PX.fH,Exit.inBlock,hid,zbn];exact hK a' w' hp
 | .loop c,s,e,s',hs,F,G,w,a,Q',h,hK=>by exact wpIn_loop_rounds lf (IE (λs e s' hs=>fI jO hdr c s e s' hs) lf s e s' hs F G w a Q' h hK)
 | .scope c,s,e,s',hs,F,G,w,a,Q',h,hK=>by refine gu (fI jO hdr c s e s' hs F G w a _ h (λa' w' hp=> ?_));have:=hK a' w' hp;cases e<;>simpa [PX.fH,Exit.noGoto] using this
 | .exit id,s,e,s',hs,F,G,w,a,Q',h,hK=>by obtain⟨rfl,rfl⟩:=hs;exact wpIn_exit (hK a w ⟨F,G,h,Ext.refl _ _ _⟩)
 | .ret,s,e,s',hs,F,G,w,a,Q',h,hK=>by obtain⟨rfl,rfl⟩:=hs;exact wpIn_ret (hK a w ⟨F,G,h,Ext.refl _ _ _⟩)
 | .rangeFunc _ _ _ _,s,e,s',hs,F,G,w,a,Q',h,hK=>by simp[bU] at hs
 | .goto _,s,e,s',hs,F,G,w,a,Q',h,hK=>by simp[bU] at hs
 | .refuse _,s,e,s',hs,F,G,w,a,Q',h,hK=>by simp[bU] at hs
def oo(tmps:Array Value):ResultVar->Sem Value
 | .tmp t=>pure (tmps.getD t undef)
 | .cell ad t=>do loadVar t (<-asAddr (tmps.getD ad undef))
theorem UL{F G w a}{s}(h:aC Q T F G w a s) t:aH F w G s.rg (a.tmps.getD t undef) (((lk s.tm t).getD .bad).under none):=
 aU h (g:=none) trivial (.tmp t)
theorem Ma{F G w a}{s}(h:aC Q T F G w a s){r p}(hr:yC Q s r=some p):
  ∃v,(oo a.tmps r).run Q w= .ok v w/\aH F w G s.rg v p:=by
 cases r with
 |tmp t=>simp only[yC,zam] at hr;subst hr;exact⟨_,rfl,UL h t⟩
 |cell ad t=>
  obtain⟨u,h1,h2⟩:=HX h (UL h ad) hr;refine⟨u,?_,h2⟩;have hp: ∃x,a.tmps.getD ad undef= .pointer (some x):=by
   cases hv:a.tmps.getD ad undef with
   |pointer o=>
    cases o with
    |some x=>simp
    |none=>rw[hv] at h1;simp[Instr.loadAt,Instr.sureAddr] at h1
   |_=>rw[hv] at h1;simp[Instr.loadAt,Instr.sureAddr] at h1
  obtain⟨x,hx⟩:=hp;rw[hx] at h1;simp only[Instr.loadAt,Instr.sureAddr,Sem.run_bind,Sem.run_pure,Result.andThen_ok] at h1;simp[oo,hx,asAddr,h1]
theorem xo{F G w a}{s}(h:aC Q T F G w a s): ∀rs ps,dv Q s rs=some ps->
  ∃vs,(rs.mapM (oo a.tmps)).run Q w= .ok vs w/\vs.length=ps.length/\ ∀(i:Nat) (v:Value) (c:P),vs[i]?=some v->ps[i]?=some c->aH F w G s.rg v c
 | [],ps,hr=>by simp_all [dv]
 |r::rs,ps,hr=>by
  simp only[dv] at hr;cases h1:yC Q s r with
  |none=>grind
  |some p=>
   cases h2:dv Q s rs with
   |none=>grind
   |some qs=>simp[h1,h2] at hr;subst hr;obtain⟨v,g1,g2⟩:=Ma h h1;obtain⟨vs,k1,k2,k3⟩:=xo h rs qs h2;refine⟨v::vs,by simp_all,by simp[k2],λi u c hu hc=> ?_⟩;grind
theorem ph: ∀ps i0 t p,lk (fT i0 ps) t=some p->i0<=t/\ps[t-i0]?=some p
 | [],i0,t,p,h=>by simp[fT,lk] at h
 |q::ps,i0,t,p,h=>by
  simp only[fT,lk] at h;split at h
  ·simp_all
  obtain⟨h1,h2⟩:=ph ps (i0+1) t p h;grind
theorem QT{F G w R}{t v p}(h:aH F w G R v p):aH F w G R v (Ln Q t p):=by
 unfold Ln;split
 ·cases h with
  |d h=>
   cases h;split
   ·split
    ·exact .d (.Qf none _ 0)
    exact .d .e9
   exact .d .e9
 exact h
theorem xp: ∀ts ps,(kO Q ts ps).length=ps.length
 | [],ps=>by rfl
 |t::ts,[]=>by rfl
 |t::ts,p::ps=>by simp[kO,xp ts ps]
theorem Ar{F G w R}: ∀(ts:List TypeId) (ps:List P) (vs:List Value),
  (∀(i:Nat) (v:Value) (c:P),vs[i]?=some v->ps[i]?=some c->aH F w G R v c)-> ∀(i:Nat) (v:Value) (c:P),vs[i]?=some v->(kO Q ts ps)[i]?=some c->aH F w G R v c
 | [],ps,vs,h=>by simpa [kO] using h
 |_::_,[],_,_=>λi v c _ hc=>by simp[kO] at hc
 |t::ts,p::ps,[],h=>λi v c hv=>by simp at hv
 |t::ts,p::ps,v::vs,h=>λi u c hu hc=>by
  cases i with
  |zero=>grind [kO,QT]
  |succ i=>exact Ar ts ps vs (λi v c hv hc=>h (i+1) v c (by grind) (by grind)) i u c (by grind) (by simpa [kO] using hc)
theorem tC{F G w a}{s}(h:aC Q T F G w a s){fn ps}(hr:dv Q s fn.results.toList=some ps):
  ∃vs:List Value,(results fn a.tmps).run Q w= .ok (if hh:vs.toArray.size=1 then vs.toArray[0] else .tuple vs.toArray) w/\vs.length=ps.length/\ ∀(i:Nat) (v:Value) (c:P),vs[i]?=some v->ps[i]?=some c->aH F w G s.rg v c:=by
 obtain⟨vs,h1,h2,h3⟩:=xo h fn.results.toList ps hr;refine⟨vs,?_,h2,h3⟩;have e:(fn.results.mapM (oo a.tmps)).run Q w= .ok vs.toArray w:=by rw[Array.mapM_eq_mapM_toList];simp[h1]
 have e2:results fn a.tmps=(do let vs<-fn.results.mapM (oo a.tmps);pure (if h:vs.size=1 then vs[0] else .tuple vs)):=by rfl
 rw[e2,Sem.run_bind,e];rfl
theorem qfM{F G w R}{vs:List Value}{ps}(h2:vs.length=ps.length)(h3: ∀(i:Nat) (v:Value) (c:P),vs[i]?=some v->ps[i]?=some c->aH F w G R v c):
  aH F w G R (if hh:vs.toArray.size=1 then vs.toArray[0] else .tuple vs.toArray) (Ty ps):=by
 match vs,ps,h2,h3 with
 | [v],[p],_,h3=>exact h3 0 v p rfl rfl
 | [],[],h2,h3=>exact .dz [] [] rfl (λi v c hv=>by simp at hv)
 |v1::v2::vs,p1::p2::ps,h2,h3=>exact .dz _ _ h2 h3
theorem As{T G w a}: ∀(ps:List P) (ts:List TypeId) (s:S) (F:Nat->Prop) (s':S) (qs:List P) (vs:List Value),aC Q T F G w a s->uu Q s ts ps=some (s',qs)->vs.length=ps.length->
  (∀(i:Nat) (v:Value) (c:P),vs[i]?=some v->ps[i]?=some c->aH F w G s.rg v c)->
  ∃F',aC Q T F' G w a s'/\Ext (Own G s.rg) (Own G s'.rg) F F' w w/\Names G G s.rg s'.rg/\(∀b,F b->F' b)/\vs.length=qs.length/\ ∀(i:Nat) (v:Value) (c:P),vs[i]?=some v->qs[i]?=some c->aH F' w G s'.rg v c
 | [],ts,s,F,s',xs,vs,h,hs,hl,hv=>by grind [uu,Ext.refl,Names.refl]
 |p::ps,ts,s,F,s',xs,vs,h,hs,hl,hv=>by
  cases vs with
  |nil=>simp at hl
  |cons v vs=>
   simp only[uu] at hs;split at hs
   ·cases hs
   rename_i s1 q h1;split at hs
   ·rename_i s2 qs2 h2;simp at hs;obtain⟨rfl,rfl⟩:=hs;obtain⟨F1,a1,a2,a3,a4,a5⟩:=DB h h1 (hv 0 v p (by simp) (by simp));obtain⟨F2,b1,b2,b3,b4,b5,b6⟩:=As ps ts.tail s1 F1 s2 qs2 vs a1 h2 (by grind)
     (λi u c hu hc=>(hv (i+1) u c (by grind) (by grind)).mono a4 (λ_ _=>rfl) a3)
    refine⟨F2,b1,a2.trans b2,a3.trans b3,λb hb=>b4 b (a4 b hb),by grind,λi u c hu hc=> ?_⟩;cases i with
    |zero=>simp at hu hc;subst hu;subst hc;exact a5.mono b4 (λ_ _=>rfl) b3
    |succ i=>grind
   cases hs
theorem DO{F G w a}{s}(h:aC Q T F G w a s){m rts qs p}{R1}(hf:finish Q m rts qs s=some (p,R1))
  {vs:List Value} (hl:vs.length=qs.length) (hv: ∀(i:Nat) (v:Value) (c:P),vs[i]?=some v->qs[i]?=some c->aH F w G s.rg v c):
  ∃F' G',fX Q T F' G' w R1/\aH F' w G' R1 (if hh:vs.toArray.size=1 then vs.toArray[0] else .tuple vs.toArray) p/\Ext (Own G s.rg) (Own G' R1) F F' w w:=by
 unfold finish at hf;split at hf
 ·cases hf
 rename_i s0 qs0 QU;obtain⟨F1,j1,j2,j3,j4,j5,j6⟩:=As _ _ s F s0 qs0 vs h QU hl hv;split at hf
 ·cases hf
 rename_i s1 qs1 ho;obtain⟨G1,h1,h2,h3,h4,h5⟩:=qH _ _ _ s0 G s1 qs1 vs j1 ho j5 j6;simp only at hf;split at hf
 next oO=>
  split at hf
  next R hR=>obtain⟨rfl,rfl⟩:=hf;obtain⟨k1,k2,k3⟩:=h1.heap.sub hR oO;refine⟨F1,_,by grind,pb k2 (qfM h4 h5),(j2.trans h2).trans ⟨λ_ h=>h,λ_ h=> .inl h,λb hb=> ?_,λ_ _ _=>rfl,zal _,rfl,rfl,rfl⟩⟩;obtain⟨n,e,_,he,hb⟩:=k3 b hb;exact .inl ⟨n,e,he,hb⟩
  cases hf
 cases hf
theorem fX.lo{val w0 x y m1 m2}{F G w R}(h:fX Q ⟨val,w0,x,m1⟩ F G w R)(hy:y<=w.heap.size:=by exact zbd _):fX Q ⟨val,w0,y,m2⟩ F G w R:=
 ⟨.nil,h.size,h.tm,h.rg,h.own,h.nA,h.jE,h.tag,h.z,h.dr,hy⟩
theorem aC.lo{val w0 x y m1 m2}{F G w t}{s}(h:aC Q ⟨val,w0,x,m1⟩ F G w ⟨t,[]⟩ s)(hy:y<=w.heap.size):aC Q ⟨val,w0,y,m2⟩ F G w ⟨t,[]⟩ s:=
 ⟨.nil,h.size,h.tm,h.rg,h.own,h.nA,h.jE,h.tag,h.z,h.dr,hy⟩
theorem aC.shut{T F G w}{t d ds s}(h:aC Q T F G w ⟨t,d::ds⟩ s):
  ∃D,d={target:= .collected D,args:= #[]}/\(Instr.takeDeferred D).run Q w= .ok [] (w.putObj D (.deferred none))/\aC Q T F G (w.putObj D (.deferred none)) ⟨t,ds⟩ s/\
   ∀own0 F0 w1,w1.heap.size<=T.lo->Ext own0 (Own G s.rg) F0 F w1 w->Ext own0 (Own G s.rg) F0 F w1 (w.putObj D (.deferred none)):=by
 obtain⟨oO,hm⟩:=h.s7;have qas:=za9.1 oO;obtain⟨D,h1,h0,h2,h3,h4⟩:=hm d (by simp);have cO: ∀b,b≠D->(w.putObj D (.deferred none)).heap[b]?=w.heap[b]?:=λb hb=>by simp only[World.putObj];rw[zaX (zbx hb)]
 have hF: ∀b,F b->(w.putObj D (.deferred none)).heap[b]?=w.heap[b]?:=λb hb=>cO b λe=>h3 (e▸hb);have dS:(w.putObj D (.deferred none)).heap.size=w.heap.size:=by simp
 refine⟨D,h1,run_takeDeferred h2,⟨⟨qas.2,λd' Iu=> ?_⟩,h.size,λt p hp=>cE.mono (λ_ h=>h) hF (Names.refl _ _) (h.tm t p hp),
  λn e he=>(h.rg n e he).mono (λ_ h=>h) hF (Names.refl _ _) rfl (λb hb=>cO b λe'=>h4 ⟨n,e,he,e'▸hb⟩),h.own,h.nA,λb hb=>by rw[dS];exact h.jE b hb,h.tag,
  λb hb=>⟨(h.z b hb).1,(hF b (h.z b hb).1).trans (h.z b hb).2⟩,h.dr,by rw[dS];exact h.sz⟩,λown0 F0 w1 Qn hx=> ?_⟩
 ·grind
 exact⟨hx.lH,hx.n9,hx.mH,λb hb hn=>(cO b (by omega)).trans (hx.keep b hb hn),by grind,hx.os,hx.tape,hx.output⟩
theorem Au{T F G t}{s fn own0 F0 w1}(Qn:w1.heap.size<=T.lo){R n}
  (hR: ∀w2,aC Q T F G w2 ⟨t,[]⟩ s->Ext own0 (Own G s.rg) F0 F w1 w2-> ∃v,(results fn t).run Q w2= .ok v w2/\R (.returned v) w2):
  ∀ds w,aC Q T F G w ⟨t,ds⟩ s->Ext own0 (Own G s.rg) F0 F w1 w->LeavesInM Fence.wide n Q fn t R ds .returning w
 | [],w,h,hx=>hR w h hx
 |d::ds,w,h,hx=>by obtain⟨D,h1,h2,h3,h4⟩:=h.shut;exact⟨λe=>(by cases e),.inl ⟨D,_,by rw[h1],h2,Au Qn hR ds _ h3 (h4 _ _ _ Qn hx)⟩⟩
theorem lU{f fn c args}{w R}(hf:Q.funcs[f]?=some fn)(hb:fn.body=some c)
  (h:c.wpIn (wd none) 0 Q (bodyPostM Fence.wide 0 Q fn R) {tmps:=args++Array.replicate (fn.ntmps-args.size) undef,defers:=[]} w):Calls Q f args w R:=
 callsIn_wide.1 (callsIn_of_wp_marks hf hb trivial h)
theorem Av k ts ps:(lE k Q ts ps).length=ps.length:=by
 cases k with
 |none=>exact xp ts ps
 |some _=>rfl
theorem DP{F G w R} k ts ps (vs:List Value)
  (h: ∀(i:Nat) (v:Value) (c:P),vs[i]?=some v->ps[i]?=some c->aH F w G R v c): ∀(i:Nat) (v:Value) (c:P),vs[i]?=some v->(lE k Q ts ps)[i]?=some c->aH F w G R v c:=by
 cases k with
 |none=>exact Ar ts ps vs h
 |some _=>exact h
theorem uN{kp w0}(hX:cz Q w0 kp.X)(hdr:Q.follows .mixedOrders=true): ∀k,cz Q w0 (fj Q kp lf k)
 |0=>λjZ ps R p R1 h=>by simp[fj] at h
 |k+1=>λjZ ps R p R1 hr F G w vs hH hl hv=>by
  have ih:=uN (kp:=kp) hX hdr k;simp only[fj] at hr;split at hr
  ·cases hr
  rename_i fn gC;split at hr
  ·exact hX jZ ps R p R1 hr F G w vs hH hl hv
  split at hr
  ·cases hr
  rename_i c hc;split at hr
  ·cases hr
  rename_i lT;have lT:(fn.name== "runtime.NumGoroutine")=false:=by grind
  left;refine⟨by simp[callFunc,gC,hc];grind,?_⟩;refine lU gC hc ?_;have NR:vs.length=(lE (kp jZ 999999) Q fn.params.toList ps).length:=by rw[Av];exact hl
  have Qh:=DP (Q:=Q) (kp jZ 999999) fn.params.toList ps vs hv;have Aw:aC Q ⟨G,w0,w.heap.size,true⟩ F G w {tmps:=(⟨vs⟩:Array Value)++Array.replicate (fn.ntmps-(⟨vs⟩:Array Value).size) undef,defers:=[]} ⟨fn.ntmps,fT 0 (lE (kp jZ 999999) Q fn.params.toList ps),R⟩:=by refine(fX.lo hH (zal _)).state rfl .nil (by simp;omega) (λt p hp=> ?_);obtain⟨_,h2⟩:=ph _ 0 t p hp;grind [fW,cE.of]
  have fin: ∀(s1:S) (qs:List P),dv Q s1 fn.results.toList=some qs->finish Q R.length fn.resultTypes.toList qs s1=some (p,R1)-> ∀a' w',jo Q ⟨G,w0,w.heap.size,true⟩ F G w ⟨fn.ntmps,fT 0 (lE (kp jZ 999999) Q fn.params.toList ps),R⟩ s1 a' w'->
    LeavesInM Fence.wide 0 Q fn a'.tmps (λe w'=> ∃v2,e= .returned v2/\ ∃F' G',fX Q ⟨G,w0,0,false⟩ F' G' w' R1/\aH F' w' G' R1 v2 p/\Ext (Own G R) (Own G' R1) F F' w w') a'.defers .returning w':=by
   intro s1 qs hq hpr a' w' ⟨F',G',h1,h2⟩;refine Au (T:=⟨G,w0,w.heap.size,true⟩) (own0:=Own G R) (F0:=F) (w1:=w) (zal _) (λw2 h3 h4=> ?_) a'.defers w' h1 h2;obtain⟨us,g1,g2,g3⟩:=tC h3 hq;obtain⟨F2,G2,k1,k2,k3⟩:=DO h3 hpr g2 g3;exact⟨_,g1,_,rfl,F2,G2,k1.lo,k2,h4.trans k3⟩
  cases hx:bU Q (fj Q kp lf k) (kp jZ) lf c ⟨fn.ntmps,fT 0 (lE (kp jZ 999999) Q fn.params.toList ps),R⟩ with
  |none=>grind
  |some r=>
   obtain⟨e,s1⟩:=r;simp only[hx] at hr;have QU: ∃qs,dv Q s1 fn.results.toList=some qs/\finish Q R.length fn.resultTypes.toList qs s1=some (p,R1):=by
    cases e<;>simp only at hr<;>try (grind)
    all_goals
     grind
   obtain⟨qs,hq,hpr⟩:=QU;refine fI (r:=none) (T:=⟨G,w0,w.heap.size,true⟩) ih hdr c _ e s1 hx F G w _ _ Aw (λa' w' hp=> ?_);have:=fin s1 qs hq hpr a' w' hp;cases e with
   |normal=>exact this
   |ret=>exact this
   |exit id=>simp at hr
end
end Pi
