/- The text PiCodeOk. -/
import Derived.Test.YtfelfooeclnbiaaPiLate
import Derived.RangeFuncLeaves
import Derived.RangeFuncRecord
namespace Pi
open Go
def PX.jO:PX->Exit
 | .normal=> .normal
 | .exit id=> .exit id
 | .ret=> .ret
section
variable{Q:Program}{T:Tg}{cf:CF}{kp:Nat->Option (List Nat×List Nat)}{lf:Nat}{r:Option Nat}
theorem oV{F:Nat->Prop}{G:Nat->Value}{w:World}{a:Act}{s s0:S}{keep:Option (List Nat×List Nat)}(h:aq Q T F G w a s)(hs:fq keep s=some s0): ∃G0,aq Q T F G0 w a s0/\Ext (Own G s.rg) (Own G0 s0.rg) F F w w:=by unfold fq at hs;grind [xb,Ext.refl]
theorem rz{c:Code}{body:S->Option (PX×S)}{keep:Option (List Nat×List Nat)}
  (gC: ∀(s:S) (e:PX) (s':S),body s=some (e,s')-> ∀(F:Nat->Prop) (G:Nat->Value) (w:World) (a:Act) (Q':Exit->Act->World->Prop),aq Q T F G w a s->(∀a' w',gk Q T F G w s s' a' w'->Q' e.jO a' w')->c.wpIn (wd r) 0 Q Q' a w):
  ∀(k:Nat) (s:S) (e:PX) (s':S),dk body keep k s=some (e,s')-> ∀(F:Nat->Prop) (G:Nat->Value) (w:World) (a:Act) (Q':Exit->Act->World->Prop),aq Q T F G w a s->(∀a' w',gk Q T F G w s s' a' w'->Q' e.jO a' w')->Code.roundsIn (wd r) 0 Q c Q' k a w
 |0,s,e,s',hs,F,G,w,a,Q',h,hK=>by simp[dk] at hs
 |k+1,s,e,s',hs,F,G,w,a,Q',h,hK=>by
  simp only[dk] at hs;split at hs
  ·cases hs
  rename_i s0 xH;obtain⟨G0,g1,g2⟩:=oV h xH;cases hb:body s0 with
  |none=>grind
  |some r=>
   obtain⟨e1,s1⟩:=r;simp only[hb] at hs;have out: ∀e1,body s0=some (e1,s1)->(match hJ keep s1 with |some s2=>some (e1,s2)|none=>none)=some (e,s')->(∀a' w',gk Q T F G0 w s0 s1 a' w'->Q' e1.jO a' w'):=λe1 hb hs a' w' hp=>by
    split at hs
    next s2 h2=>obtain⟨rfl,rfl⟩:=hs;obtain⟨F1,G1,k1,k2⟩:=hp;obtain⟨G2,m1,m2⟩:=oV (keep:=keep.map λl=>(l.2,l.2)) k1 (by cases keep<;>exact h2);exact hK a' w' ⟨F1,G2,m1,(g2.trans k2).trans m2⟩
    cases hs
   cases e1 with
   |normal=>refine gC s0 .normal s1 hb F G0 w a _ g1 (λa' w' ⟨F1,G1,k1,k2⟩=> ?_);show Code.roundsIn (wd r) 0 Q c Q' k a' w';exact rz gC k s1 e s' hs F1 G1 w' a' Q' k1 (λa2 w2 hp=>hK a2 w2 (gk.trans (g2.trans k2) hp))
   |exit id=>exact gC s0 _ s1 hb F G0 w a _ g1 (out _ hb hs)
   |ret=>exact gC s0 _ s1 hb F G0 w a _ g1 (out _ hb hs)
theorem cF(iQ:jc Q T.w0 cf)(hdr:Q.follows .mixedOrders=true): ∀(c:Code) (s:S) (e:PX) (s':S),aP Q cf kp lf c s=some (e,s')-> ∀(F:Nat->Prop) (G:Nat->Value) (w:World) (a:Act) (Q':Exit->Act->World->Prop),aq Q T F G w a s->
  (∀a' w',gk Q T F G w s s' a' w'->Q' e.jO a' w')->c.wpIn (wd r) 0 Q Q' a w
 | .skip,s,e,s',hs,F,G,w,a,Q',h,hK=>by obtain⟨rfl,rfl⟩:=hs;exact wpIn_skip (hK a w ⟨F,G,h,Ext.refl _ _ _⟩)
 | .label l,s,e,s',hs,F,G,w,a,Q',h,hK=>by obtain⟨rfl,rfl⟩:=hs;exact wpIn_label (hK a w ⟨F,G,h,Ext.refl _ _ _⟩)
 | .region id ops draw,s,e,s',hs,F,G,w,a,Q',h,hK=>by
  simp only[aP] at hs;cases draw with
  |false=>
   split at hs
   next s1 h1=>simp at hs;obtain⟨rfl,rfl⟩:=hs;exact wpIn_region_list (by simpa using ko iQ ops.toList F G w a s s1 h h1 (Q':=Q') hK)
   cases hs
  |true=>
   split at hs
   next s1 h1=>obtain⟨rfl,rfl⟩:=hs;simpa using s7 (id:=id) iQ hdr h h1 hK
   cases hs
 | .seq x y,s,e,s',hs,F,G,w,a,Q',h,hK=>by
  simp only[aP] at hs;refine wpIn_seq ?_;cases hx:aP Q cf kp lf x s with
  |none=>grind
  |some r=>
   obtain⟨e1,s1⟩:=r;simp only[hx] at hs;cases e1 with
   |normal=>exact cF iQ hdr x s .normal s1 hx F G w a _ h (λa' w' ⟨F1,G1,k1,k2⟩=>cF iQ hdr y s1 e s' hs F1 G1 w' a' Q' k1 (λa2 w2 hp=>hK a2 w2 (gk.trans k2 hp)))
   |exit id=>simp at hs;obtain⟨rfl,rfl⟩:=hs;exact cF iQ hdr x s _ s1 hx F G w a _ h (λa' w' hp=>hK a' w' hp)
   |ret=>simp at hs;obtain⟨rfl,rfl⟩:=hs;exact cF iQ hdr x s _ s1 hx F G w a _ h (λa' w' hp=>hK a' w' hp)
 | .cond c x y,s,e,s',hs,F,G,w,a,Q',h,hK=>by
  simp only[aP] at hs;split at hs
  next b hb=>
   have hv:a.eval c= .bool b:=by have:=Ae h c;rw[hb] at this;exact ak.aW (p:= .d (.bool b)) this rfl
   refine wpIn_cond hv ?_;cases b with
   |true=>exact cF iQ hdr x s e s' (by grind) F G w a Q' h hK
   |false=>exact cF iQ hdr y s e s' (by grind) F G w a Q' h hK
  cases hs
 | .block id c,s,e,s',hs,F,G,w,a,Q',h,hK=>by
  simp only[aP] at hs;refine wpIn_block ?_;cases hx:aP Q cf kp lf c s with
  |none=>grind
  |some r=>
   obtain⟨e1,s1⟩:=r;simp only[hx] at hs;refine cF iQ hdr c s e1 s1 hx F G w a _ h (λa' w' hp=> ?_);cases e1 with
   |normal=>obtain⟨rfl,rfl⟩:=hs;exact hK a' w' hp
   |ret=>obtain⟨rfl,rfl⟩:=hs;exact hK a' w' hp
   |exit tr=>
    simp only at hs;split at hs
    ·rename_i Bu;have Bu:tr=id:=by simpa using Bu
     obtain⟨rfl,rfl⟩:=hs;simp only[PX.jO,Exit.inBlock,Bu,zaT];exact hK a' w' hp
    rename_i Bu;have Bu: ¬tr=id:=by simpa using Bu
    obtain⟨rfl,rfl⟩:=hs;simp only[PX.jO,Exit.inBlock,Bu,za6];exact hK a' w' hp
 | .loop c,s,e,s',hs,F,G,w,a,Q',h,hK=>by exact wpIn_loop_rounds lf (rz (λs e s' hs=>cF iQ hdr c s e s' hs) lf s e s' hs F G w a Q' h hK)
 | .scope c,s,e,s',hs,F,G,w,a,Q',h,hK=>by refine jd (cF iQ hdr c s e s' hs F G w a _ h (λa' w' hp=> ?_));have:=hK a' w' hp;cases e<;>simpa [PX.jO,Exit.noGoto] using this
 | .exit id,s,e,s',hs,F,G,w,a,Q',h,hK=>by obtain⟨rfl,rfl⟩:=hs;exact wpIn_exit (hK a w ⟨F,G,h,Ext.refl _ _ _⟩)
 | .ret,s,e,s',hs,F,G,w,a,Q',h,hK=>by obtain⟨rfl,rfl⟩:=hs;exact wpIn_ret (hK a w ⟨F,G,h,Ext.refl _ _ _⟩)
 | .rangeFunc _ _ _ _,s,e,s',hs,F,G,w,a,Q',h,hK=>by simp[aP] at hs
 | .goto _,s,e,s',hs,F,G,w,a,Q',h,hK=>by simp[aP] at hs
 | .refuse _,s,e,s',hs,F,G,w,a,Q',h,hK=>by simp[aP] at hs
def fN(tmps:Array Value):ResultVar->Sem Value
 | .tmp t=>pure (tmps.getD t undef)
 | .cell ad t=>do loadVar t (<-asAddr (tmps.getD ad undef))
theorem xI{F:Nat->Prop}{G:Nat->Value}{w:World}{a:Act}{s:S}(h:aq Q T F G w a s)(t:Nat):ak F w G s.rg (a.tmps.getD t undef) (((lk s.tm t).getD .bad).under none):=
 au h (g:=none) trivial (.tmp t)
theorem s8{F:Nat->Prop}{G:Nat->Value}{w:World}{a:Act}{s:S}(h:aq Q T F G w a s){r:ResultVar}{p:P}(hr:l0 Q s r=some p):
  ∃v,(fN a.tmps r).run Q w= .ok v w/\ak F w G s.rg v p:=by
 cases r with
 |tmp t=>simp only[l0,zae] at hr;subst hr;exact⟨_,rfl,xI h t⟩
 |cell ad t=>
  obtain⟨u,h1,h2⟩:=qH h (xI h ad) hr;refine⟨u,?_,h2⟩;have hp: ∃x,a.tmps.getD ad undef= .pointer (some x):=by
   cases hv:a.tmps.getD ad undef with
   |pointer o=>
    cases o with
    |some x=>simp
    |none=>rw[hv] at h1;simp[Instr.loadAt,Instr.sureAddr] at h1
   |_=>rw[hv] at h1;simp[Instr.loadAt,Instr.sureAddr] at h1
  obtain⟨x,hx⟩:=hp;rw[hx] at h1;simp only[Instr.loadAt,Instr.sureAddr,Sem.run_bind,Sem.run_pure,Result.andThen_ok] at h1;simp[fN,hx,asAddr,h1]
theorem lH{F:Nat->Prop}{G:Nat->Value}{w:World}{a:Act}{s:S}(h:aq Q T F G w a s): ∀(rs:List ResultVar) (ps:List P),cD Q s rs=some ps->
  ∃vs,(rs.mapM (fN a.tmps)).run Q w= .ok vs w/\vs.length=ps.length/\ ∀(i:Nat) (v:Value) (c:P),vs[i]?=some v->ps[i]?=some c->ak F w G s.rg v c
 | [],ps,hr=>by simp_all [cD]
 |r::rs,ps,hr=>by
  simp only[cD] at hr;cases h1:l0 Q s r with
  |none=>grind
  |some p=>
   cases h2:cD Q s rs with
   |none=>grind
   |some qs=>simp[h1,h2] at hr;subst hr;obtain⟨v,g1,g2⟩:=s8 h h1;obtain⟨vs,k1,k2,k3⟩:=lH h rs qs h2;refine⟨v::vs,by simp_all,by simp[k2],λi u c hu hc=> ?_⟩;grind
theorem nu: ∀(ps:List P) (i0 t:Nat) (p:P),lk (eo i0 ps) t=some p->i0<=t/\ps[t-i0]?=some p
 | [],i0,t,p,h=>by simp[eo,lk] at h
 |q::ps,i0,t,p,h=>by
  simp only[eo,lk] at h;split at h
  ·simp_all
  obtain⟨h1,h2⟩:=nu ps (i0+1) t p h;grind
theorem vn{F:Nat->Prop}{G:Nat->Value}{w:World}{R:List (Nat×En)}{t:TypeId}{v:Value}{p:P}(h:ak F w G R v p):ak F w G R v (r8 Q t p):=by
 unfold r8;split
 ·cases h with
  |d h=>
   cases h;split
   ·split
    ·exact .d (.uu none _ 0)
    exact .d .dm
   exact .d .dm
 exact h
theorem lI: ∀(ts:List TypeId) (ps:List P),(eu Q ts ps).length=ps.length
 | [],ps=>by rfl
 |t::ts,[]=>by rfl
 |t::ts,p::ps=>by simp[eu,lI ts ps]
theorem nv{F:Nat->Prop}{G:Nat->Value}{w:World}{R:List (Nat×En)}: ∀(ts:List TypeId) (ps:List P) (vs:List Value),
  (∀(i:Nat) (v:Value) (c:P),vs[i]?=some v->ps[i]?=some c->ak F w G R v c)-> ∀(i:Nat) (v:Value) (c:P),vs[i]?=some v->(eu Q ts ps)[i]?=some c->ak F w G R v c
 | [],ps,vs,h=>by simpa [eu] using h
 |_::_,[],_,_=>λi v c _ hc=>by simp[eu] at hc
 |t::ts,p::ps,[],h=>λi v c hv=>by simp at hv
 |t::ts,p::ps,v::vs,h=>λi u c hu hc=>by
  cases i with
  |zero=>grind [eu,vn]
  |succ i=>exact nv ts ps vs (λi v c hv hc=>h (i+1) v c (by grind) (by grind)) i u c (by grind) (by simpa [eu] using hc)
theorem s9{F:Nat->Prop}{G:Nat->Value}{w:World}{a:Act}{s:S}(h:aq Q T F G w a s){fn:Func}{ps:List P}(hr:cD Q s fn.results.toList=some ps):
  ∃vs:List Value,(results fn a.tmps).run Q w= .ok (if hh:vs.toArray.size=1 then vs.toArray[0] else .tuple vs.toArray) w/\vs.length=ps.length/\ ∀(i:Nat) (v:Value) (c:P),vs[i]?=some v->ps[i]?=some c->ak F w G s.rg v c:=by
 obtain⟨vs,h1,h2,h3⟩:=lH h fn.results.toList ps hr;refine⟨vs,?_,h2,h3⟩;have e:(fn.results.mapM (fN a.tmps)).run Q w= .ok vs.toArray w:=by rw[Array.mapM_eq_mapM_toList];simp[h1]
 have e2:results fn a.tmps=(do let vs<-fn.results.mapM (fN a.tmps);pure (if h:vs.size=1 then vs[0] else .tuple vs)):=by rfl
 rw[e2,Sem.run_bind,e];rfl
theorem Bv{F:Nat->Prop}{G:Nat->Value}{w:World}{R:List (Nat×En)}{vs:List Value}{ps:List P}(h2:vs.length=ps.length)(h3: ∀(i:Nat) (v:Value) (c:P),vs[i]?=some v->ps[i]?=some c->ak F w G R v c):
  ak F w G R (if hh:vs.toArray.size=1 then vs.toArray[0] else .tuple vs.toArray) (wb ps):=by
 match vs,ps,h2,h3 with
 | [v],[p],_,h3=>exact h3 0 v p rfl rfl
 | [],[],h2,h3=>exact .dX [] [] rfl (λi v c hv=>by simp at hv)
 |v1::v2::vs,p1::p2::ps,h2,h3=>exact .dX _ _ h2 h3
theorem nw{T:Tg}{G:Nat->Value}{w:World}{a:Act}: ∀(ps:List P) (ts:List TypeId) (s:S) (F:Nat->Prop) (s':S) (qs:List P) (vs:List Value),aq Q T F G w a s->jZ Q s ts ps=some (s',qs)->vs.length=ps.length->
  (∀(i:Nat) (v:Value) (c:P),vs[i]?=some v->ps[i]?=some c->ak F w G s.rg v c)->
  ∃F',aq Q T F' G w a s'/\Ext (Own G s.rg) (Own G s'.rg) F F' w w/\Names G G s.rg s'.rg/\(∀b,F b->F' b)/\vs.length=qs.length/\ ∀(i:Nat) (v:Value) (c:P),vs[i]?=some v->qs[i]?=some c->ak F' w G s'.rg v c
 | [],ts,s,F,s',xs,vs,h,hs,hl,hv=>by grind [jZ,Ext.refl,Names.refl]
 |p::ps,ts,s,F,s',xs,vs,h,hs,hl,hv=>by
  cases vs with
  |nil=>simp at hl
  |cons v vs=>
   simp only[jZ] at hs;split at hs
   ·cases hs
   rename_i s1 q h1;split at hs
   ·rename_i s2 A6 h2;simp at hs;obtain⟨rfl,rfl⟩:=hs;obtain⟨F1,a1,a2,a3,a4,a5⟩:=oH h h1 (hv 0 v p (by simp) (by simp));obtain⟨F2,b1,b2,b3,b4,b5,b6⟩:=nw ps ts.tail s1 F1 s2 A6 vs a1 h2 (by grind)
     (λi u c hu hc=>(hv (i+1) u c (by grind) (by grind)).mono a4 (λ_ _=>rfl) a3)
    refine⟨F2,b1,a2.trans b2,a3.trans b3,λb hb=>b4 b (a4 b hb),by grind,λi u c hu hc=> ?_⟩;cases i with
    |zero=>simp at hu hc;subst hu;subst hc;exact a5.mono b4 (λ_ _=>rfl) b3
    |succ i=>grind
   cases hs
theorem vo{F:Nat->Prop}{G:Nat->Value}{w:World}{a:Act}{s:S}(h:aq Q T F G w a s){m:Nat}{Cb:List TypeId}{qs:List P}{p:P}{R1:List (Nat×En)}(hf:finish Q m Cb qs s=some (p,R1))
  {vs:List Value} (hl:vs.length=qs.length) (hv: ∀(i:Nat) (v:Value) (c:P),vs[i]?=some v->qs[i]?=some c->ak F w G s.rg v c):
  ∃F' G',dK Q T F' G' w R1/\ak F' w G' R1 (if hh:vs.toArray.size=1 then vs.toArray[0] else .tuple vs.toArray) p/\Ext (Own G s.rg) (Own G' R1) F F' w w:=by
 unfold finish at hf;split at hf
 ·cases hf
 rename_i s0 EY Bw;obtain⟨F1,j1,j2,j3,j4,j5,j6⟩:=nw _ _ s F s0 EY vs h Bw hl hv;split at hf
 ·cases hf
 rename_i s1 Ea ho;obtain⟨G1,h1,h2,h3,h4,h5⟩:=ie _ _ _ s0 G s1 Ea vs j1 ho j5 j6;simp only at hf;split at hf
 next rW=>
  split at hf
  next R hR=>obtain⟨rfl,rfl⟩:=hf;obtain⟨k1,k2,k3⟩:=h1.heap.sub hR rW;refine⟨F1,_,by grind,jE k2 (Bv h4 h5),(j2.trans h2).trans ⟨λ_ h=>h,λ_ h=> .inl h,λb hb=> ?_,λ_ _ _=>rfl,zaf _,rfl,rfl,rfl⟩⟩;obtain⟨n,e,_,he,hb⟩:=k3 b hb;exact .inl ⟨n,e,he,hb⟩
  cases hf
 cases hf
theorem dK.lo{val:Nat->Value}{w0:World}{x y:Nat}{m1 m2:Bool}{F:Nat->Prop}{G:Nat->Value}{w:World}{R:List (Nat×En)}(h:dK Q ⟨val,w0,x,m1⟩ F G w R)(hy:y<=w.heap.size:=by exact zaR _):dK Q ⟨val,w0,y,m2⟩ F G w R:=
 ⟨.nil,h.size,h.tm,h.rg,h.own,h.iY,h.gQ,h.tag,h.z,h.dr,hy⟩
theorem aq.lo{val:Nat->Value}{w0:World}{x y:Nat}{m1 m2:Bool}{F:Nat->Prop}{G:Nat->Value}{w:World}{t:Array Value}{s:S}(h:aq Q ⟨val,w0,x,m1⟩ F G w ⟨t,[]⟩ s)(hy:y<=w.heap.size):aq Q ⟨val,w0,y,m2⟩ F G w ⟨t,[]⟩ s:=
 ⟨.nil,h.size,h.tm,h.rg,h.own,h.iY,h.gQ,h.tag,h.z,h.dr,hy⟩
theorem aq.shut{T:Tg}{F:Nat->Prop}{G:Nat->Value}{w:World}{t:Array Value}{d:Deferred}{ds:List Deferred}{s:S}(h:aq Q T F G w ⟨t,d::ds⟩ s):
  ∃D,d={target:= .collected D,args:= #[]}/\(Instr.takeDeferred D).run Q w= .ok [] (w.putObj D (.deferred none))/\aq Q T F G (w.putObj D (.deferred none)) ⟨t,ds⟩ s/\
   ∀(own0 F0:Nat->Prop) (w1:World),w1.heap.size<=T.lo->Ext own0 (Own G s.rg) F0 F w1 w->Ext own0 (Own G s.rg) F0 F w1 (w.putObj D (.deferred none)):=by
 obtain⟨rW,hm⟩:=h.si;have zj:=zbf.1 rW;obtain⟨D,h1,h0,h2,h3,h4⟩:=hm d (by simp);have bY: ∀b,b≠D->(w.putObj D (.deferred none)).heap[b]?=w.heap[b]?:=λb hb=>by simp only[World.putObj];rw[zay (zaS hb)]
 have hF: ∀b,F b->(w.putObj D (.deferred none)).heap[b]?=w.heap[b]?:=λb hb=>bY b λe=>h3 (e▸hb);have bK:(w.putObj D (.deferred none)).heap.size=w.heap.size:=by simp
 refine⟨D,h1,run_takeDeferred h2,⟨⟨zj.2,λd' Fz=> ?_⟩,h.size,λt p hp=>bt.mono (λ_ h=>h) hF (Names.refl _ _) (h.tm t p hp),
  λn e he=>(h.rg n e he).mono (λ_ h=>h) hF (Names.refl _ _) rfl (λb hb=>bY b λe'=>h4 ⟨n,e,he,e'▸hb⟩),h.own,h.iY,λb hb=>by rw[bK];exact h.gQ b hb,h.tag,
  λb hb=>⟨(h.z b hb).1,(hF b (h.z b hb).1).trans (h.z b hb).2⟩,h.dr,by rw[bK];exact h.sz⟩,λown0 F0 w1 uA hx=> ?_⟩
 ·grind
 exact⟨hx.h9,hx.mr,hx.kb,λb hb hn=>(bY b (by omega)).trans (hx.keep b hb hn),by grind,hx.os,hx.tape,hx.output⟩
theorem rA{T:Tg}{F:Nat->Prop}{G:Nat->Value}{t:Array Value}{s:S}{fn:Func}{own0 F0:Nat->Prop}{w1:World}(uA:w1.heap.size<=T.lo){R:Ending->World->Prop}{n:Nat}
  (hR: ∀w2,aq Q T F G w2 ⟨t,[]⟩ s->Ext own0 (Own G s.rg) F0 F w1 w2-> ∃v,(results fn t).run Q w2= .ok v w2/\R (.returned v) w2):
  ∀(ds:List Deferred) (w:World),aq Q T F G w ⟨t,ds⟩ s->Ext own0 (Own G s.rg) F0 F w1 w->LeavesInM Fence.wide n Q fn t R ds .returning w
 | [],w,h,hx=>hR w h hx
 |d::ds,w,h,hx=>by obtain⟨D,h1,h2,h3,h4⟩:=h.shut;exact⟨λe=>(by cases e),.inl ⟨D,_,by rw[h1],h2,rA uA hR ds _ h3 (h4 _ _ _ uA hx)⟩⟩
theorem nx{f:FuncId}{fn:Func}{c:Code}{args:Array Value}{w:World}{R:Ending->World->Prop}(hf:Q.funcs[f]?=some fn)(hb:fn.body=some c)
  (h:c.wpIn (wd none) 0 Q (bodyPostM Fence.wide 0 Q fn R) {tmps:=args++Array.replicate (fn.ntmps-args.size) undef,defers:=[]} w):Calls Q f args w R:=
 callsIn_wide.1 (callsIn_of_wp_marks hf hb trivial h)
theorem ta(k:Option (List Nat×List Nat))(ts:List TypeId)(ps:List P):(hS k Q ts ps).length=ps.length:=by
 cases k with
 |none=>exact lI ts ps
 |some _=>rfl
theorem vp{F:Nat->Prop}{G:Nat->Value}{w:World}{R:List (Nat×En)}(k:Option (List Nat×List Nat))(ts:List TypeId)(ps:List P)(vs:List Value)
  (h: ∀(i:Nat) (v:Value) (c:P),vs[i]?=some v->ps[i]?=some c->ak F w G R v c): ∀(i:Nat) (v:Value) (c:P),vs[i]?=some v->(hS k Q ts ps)[i]?=some c->ak F w G R v c:=by
 cases k with
 |none=>exact nv ts ps vs h
 |some _=>exact h
theorem tZ{kp:rS}{w0:World}(hX:jc Q w0 kp.X)(hdr:Q.follows .mixedOrders=true): ∀(k:Nat),jc Q w0 (cW Q kp lf k)
 |0=>λgZ ps R p R1 h=>by simp[cW] at h
 |k+1=>λgZ ps R p R1 hr F G w vs hH hl hv=>by
  have ih:=tZ (kp:=kp) hX hdr k;simp only[cW] at hr;split at hr
  ·cases hr
  rename_i fn jD;split at hr
  ·exact hX gZ ps R p R1 hr F G w vs hH hl hv
  split at hr
  ·cases hr
  rename_i c hc;split at hr
  ·cases hr
  rename_i lE;have lE:(fn.name== "runtime.NumGoroutine")=false:=by grind
  left;refine⟨by simp[callFunc,jD,hc];grind,?_⟩;refine nx jD hc ?_;have E9:vs.length=(hS (kp gZ 999999) Q fn.params.toList ps).length:=by rw[ta];exact hl
  have tD:=vp (Q:=Q) (kp gZ 999999) fn.params.toList ps vs hv;have Bx:aq Q ⟨G,w0,w.heap.size,true⟩ F G w {tmps:=(⟨vs⟩:Array Value)++Array.replicate (fn.ntmps-(⟨vs⟩:Array Value).size) undef,defers:=[]} ⟨fn.ntmps,eo 0 (hS (kp gZ 999999) Q fn.params.toList ps),R⟩:=by refine(dK.lo hH (zaf _)).state rfl .nil (by simp;omega) (λt p hp=> ?_);obtain⟨_,h2⟩:=nu _ 0 t p hp;grind [dt,bt.of]
  have fin: ∀(s1:S) (qs:List P),cD Q s1 fn.results.toList=some qs->finish Q R.length fn.resultTypes.toList qs s1=some (p,R1)-> ∀a' w',gk Q ⟨G,w0,w.heap.size,true⟩ F G w ⟨fn.ntmps,eo 0 (hS (kp gZ 999999) Q fn.params.toList ps),R⟩ s1 a' w'->
    LeavesInM Fence.wide 0 Q fn a'.tmps (λe w'=> ∃v2,e= .returned v2/\ ∃F' G',dK Q ⟨G,w0,0,false⟩ F' G' w' R1/\ak F' w' G' R1 v2 p/\Ext (Own G R) (Own G' R1) F F' w w') a'.defers .returning w':=by
   intro s1 qs hq Cd a' w' ⟨F',G',h1,h2⟩;refine rA (T:=⟨G,w0,w.heap.size,true⟩) (own0:=Own G R) (F0:=F) (w1:=w) (zaf _) (λw2 h3 h4=> ?_) a'.defers w' h1 h2;obtain⟨us,g1,g2,g3⟩:=s9 h3 hq;obtain⟨F2,G2,k1,k2,k3⟩:=vo h3 Cd g2 g3;exact⟨_,g1,_,rfl,F2,G2,k1.lo,k2,h4.trans k3⟩
  cases hx:aP Q (cW Q kp lf k) (kp gZ) lf c ⟨fn.ntmps,eo 0 (hS (kp gZ 999999) Q fn.params.toList ps),R⟩ with
  |none=>grind
  |some r=>
   obtain⟨e,s1⟩:=r;simp only[hx] at hr;have Bw: ∃qs,cD Q s1 fn.results.toList=some qs/\finish Q R.length fn.resultTypes.toList qs s1=some (p,R1):=by
    cases e<;>simp only at hr<;>try (grind)
    all_goals
     grind
   obtain⟨qs,hq,Cd⟩:=Bw;refine cF (r:=none) (T:=⟨G,w0,w.heap.size,true⟩) ih hdr c _ e s1 hx F G w _ _ Bx (λa' w' hp=> ?_);have:=fin s1 qs hq Cd a' w' hp;cases e with
   |normal=>exact this
   |ret=>exact this
   |exit id=>simp at hr
end
end Pi
