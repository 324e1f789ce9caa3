/- The text PiCodeOk. -/
import Derived.Test.YtpiohccneeblhaaPiLate
import Derived.RangeFuncLeaves
import Derived.RangeFuncRecord
namespace Pi
open Go
def PX.dx:PX->Exit
 | .normal=> .normal
 | .exit id=> .exit id
 | .ret=> .ret
section
variable{Q:Program}{T:Tg}{cf:CF}{kp:Nat->Option (List Nat×List Nat)}{lf:Nat}{r:Option Nat}
theorem dD{F:Nat->Prop}{G:Nat->Value}{w:World}{a:Act}{s s0:S}{keep:Option (List Nat×List Nat)}(h:aq Q T F G w a s)(hs:cx keep s=some s0): ∃G0,aq Q T F G0 w a s0/\Ext (Own G s.rg) (Own G0 s0.rg) F F w w:=by unfold cx at hs;grind [CL,Ext.refl]
theorem wx{c:Code}{body:S->Option (PX×S)}{keep:Option (List Nat×List Nat)}
  (bZ: ∀(s:S) (e:PX) (s':S),body s=some (e,s')-> ∀(F:Nat->Prop) (G:Nat->Value) (w:World) (a:Act) (Q':Exit->Act->World->Prop),aq Q T F G w a s->(∀a' w',fh Q T F G w s s' a' w'->Q' e.dx a' w')->c.wpIn (wd r) 0 Q Q' a w):
  ∀(k:Nat) (s:S) (e:PX) (s':S),eK body keep k s=some (e,s')-> ∀(F:Nat->Prop) (G:Nat->Value) (w:World) (a:Act) (Q':Exit->Act->World->Prop),aq Q T F G w a s->(∀a' w',fh Q T F G w s s' a' w'->Q' e.dx a' w')->Code.roundsIn (wd r) 0 Q c Q' k a w
 |0,s,e,s',hs,F,G,w,a,Q',h,hK=>by simp[eK] at hs
 |k+1,s,e,s',hs,F,G,w,a,Q',h,hK=>by
  simp only[eK] at hs;split at hs
  ·cases hs
  rename_i s0 J7;obtain⟨G0,g1,g2⟩:=dD h J7;cases hb:body s0 with
  |none=>grind
  |some r=>
   obtain⟨e1,s1⟩:=r;simp only[hb] at hs;have out: ∀e1,body s0=some (e1,s1)->(match eI keep s1 with |some s2=>some (e1,s2)|none=>none)=some (e,s')->(∀a' w',fh Q T F G0 w s0 s1 a' w'->Q' e1.dx a' w'):=λe1 hb hs a' w' hp=>by
    split at hs
    next s2 h2=>obtain⟨rfl,rfl⟩:=hs;obtain⟨F1,G1,k1,k2⟩:=hp;obtain⟨G2,m1,m2⟩:=dD (keep:=keep.map λl=>(l.2,l.2)) k1 (by cases keep<;>exact h2);exact hK a' w' ⟨F1,G2,m1,(g2.trans k2).trans m2⟩
    cases hs
   cases e1 with
   |normal=>refine bZ s0 .normal s1 hb F G0 w a _ g1 (λa' w' ⟨F1,G1,k1,k2⟩=> ?_);show Code.roundsIn (wd r) 0 Q c Q' k a' w';exact wx bZ k s1 e s' hs F1 G1 w' a' Q' k1 (λa2 w2 hp=>hK a2 w2 (fh.trans (g2.trans k2) hp))
   |exit id=>exact bZ s0 _ s1 hb F G0 w a _ g1 (out _ hb hs)
   |ret=>exact bZ s0 _ s1 hb F G0 w a _ g1 (out _ hb hs)
theorem dy(fG:cL Q T.w0 cf)(hdr:Q.follows .mixedOrders=true): ∀(c:Code) (s:S) (e:PX) (s':S),aS Q cf kp lf c s=some (e,s')-> ∀(F:Nat->Prop) (G:Nat->Value) (w:World) (a:Act) (Q':Exit->Act->World->Prop),aq Q T F G w a s->
  (∀a' w',fh Q T F G w s s' a' w'->Q' e.dx a' w')->c.wpIn (wd r) 0 Q Q' a w
 | .skip,s,e,s',hs,F,G,w,a,Q',h,hK=>by obtain⟨rfl,rfl⟩:=hs;exact wpIn_skip (hK a w ⟨F,G,h,Ext.refl _ _ _⟩)
 | .label l,s,e,s',hs,F,G,w,a,Q',h,hK=>by obtain⟨rfl,rfl⟩:=hs;exact wpIn_label (hK a w ⟨F,G,h,Ext.refl _ _ _⟩)
 | .region id ops draw,s,e,s',hs,F,G,w,a,Q',h,hK=>by
  simp only[aS] at hs;cases draw with
  |false=>
   split at hs
   next s1 h1=>simp at hs;obtain⟨rfl,rfl⟩:=hs;exact wpIn_region_list (by simpa using mK fG ops.toList F G w a s s1 h h1 (Q':=Q') hK)
   cases hs
  |true=>
   split at hs
   next s1 h1=>obtain⟨rfl,rfl⟩:=hs;simpa using yu (id:=id) fG hdr h h1 hK
   cases hs
 | .seq x y,s,e,s',hs,F,G,w,a,Q',h,hK=>by
  simp only[aS] at hs;refine wpIn_seq ?_;cases hx:aS Q cf kp lf x s with
  |none=>grind
  |some r=>
   obtain⟨e1,s1⟩:=r;simp only[hx] at hs;cases e1 with
   |normal=>exact dy fG hdr x s .normal s1 hx F G w a _ h (λa' w' ⟨F1,G1,k1,k2⟩=>dy fG hdr y s1 e s' hs F1 G1 w' a' Q' k1 (λa2 w2 hp=>hK a2 w2 (fh.trans k2 hp)))
   |exit id=>simp at hs;obtain⟨rfl,rfl⟩:=hs;exact dy fG hdr x s _ s1 hx F G w a _ h (λa' w' hp=>hK a' w' hp)
   |ret=>simp at hs;obtain⟨rfl,rfl⟩:=hs;exact dy fG hdr x s _ s1 hx F G w a _ h (λa' w' hp=>hK a' w' hp)
 | .cond c x y,s,e,s',hs,F,G,w,a,Q',h,hK=>by
  simp only[aS] at hs;split at hs
  next b hb=>
   have hv:a.eval c= .bool b:=by have:=pC h c;rw[hb] at this;exact ao.br (p:= .d (.bool b)) this rfl
   refine wpIn_cond hv ?_;cases b with
   |true=>exact dy fG hdr x s e s' (by grind) F G w a Q' h hK
   |false=>exact dy fG hdr y s e s' (by grind) F G w a Q' h hK
  cases hs
 | .block id c,s,e,s',hs,F,G,w,a,Q',h,hK=>by
  simp only[aS] at hs;refine wpIn_block ?_;cases hx:aS Q cf kp lf c s with
  |none=>grind
  |some r=>
   obtain⟨e1,s1⟩:=r;simp only[hx] at hs;refine dy fG hdr c s e1 s1 hx F G w a _ h (λa' w' hp=> ?_);cases e1 with
   |normal=>obtain⟨rfl,rfl⟩:=hs;exact hK a' w' hp
   |ret=>obtain⟨rfl,rfl⟩:=hs;exact hK a' w' hp
   |exit kl=>
    simp only at hs;split at hs
    ·rename_i nY;have nY:kl=id:=by simpa using nY
     obtain⟨rfl,rfl⟩:=hs;simp only[PX.dx,Exit.inBlock,nY,zaT];exact hK a' w' hp
    rename_i nY;have nY: ¬kl=id:=by simpa using nY
    obtain⟨rfl,rfl⟩:=hs;simp only[PX.dx,Exit.inBlock,nY,za3];exact hK a' w' hp
 | .loop c,s,e,s',hs,F,G,w,a,Q',h,hK=>by exact wpIn_loop_rounds lf (wx (λs e s' hs=>dy fG hdr c s e s' hs) lf s e s' hs F G w a Q' h hK)
 | .scope c,s,e,s',hs,F,G,w,a,Q',h,hK=>by refine dJ (dy fG hdr c s e s' hs F G w a _ h (λa' w' hp=> ?_));have:=hK a' w' hp;cases e<;>simpa [PX.dx,Exit.noGoto] using this
 | .exit id,s,e,s',hs,F,G,w,a,Q',h,hK=>by obtain⟨rfl,rfl⟩:=hs;exact wpIn_exit (hK a w ⟨F,G,h,Ext.refl _ _ _⟩)
 | .ret,s,e,s',hs,F,G,w,a,Q',h,hK=>by obtain⟨rfl,rfl⟩:=hs;exact wpIn_ret (hK a w ⟨F,G,h,Ext.refl _ _ _⟩)
 | .rangeFunc _ _ _ _,s,e,s',hs,F,G,w,a,Q',h,hK=>by simp[aS] at hs
 | .goto _,s,e,s',hs,F,G,w,a,Q',h,hK=>by simp[aS] at hs
 | .refuse _,s,e,s',hs,F,G,w,a,Q',h,hK=>by simp[aS] at hs
def iZ(tmps:Array Value):ResultVar->Sem Value
 | .tmp t=>pure (tmps.getD t undef)
 | .cell ad t=>do loadVar t (<-asAddr (tmps.getD ad undef))
theorem Da{F:Nat->Prop}{G:Nat->Value}{w:World}{a:Act}{s:S}(h:aq Q T F G w a s)(t:Nat):ao F w G s.rg (a.tmps.getD t undef) (((lk s.tm t).getD .bad).under none):=
 aB h (g:=none) trivial (.tmp t)
theorem yw{F:Nat->Prop}{G:Nat->Value}{w:World}{a:Act}{s:S}(h:aq Q T F G w a s){r:ResultVar}{p:P}(hr:oT Q s r=some p):
  ∃v,(iZ a.tmps r).run Q w= .ok v w/\ao F w G s.rg v p:=by
 cases r with
 |tmp t=>simp only[oT,zaf] at hr;subst hr;exact⟨_,rfl,Da h t⟩
 |cell ad t=>
  obtain⟨u,h1,h2⟩:=vu h (Da h ad) hr;refine⟨u,?_,h2⟩;have hp: ∃x,a.tmps.getD ad undef= .pointer (some x):=by
   cases hv:a.tmps.getD ad undef with
   |pointer o=>
    cases o with
    |some x=>simp
    |none=>rw[hv] at h1;simp[Instr.loadAt,Instr.sureAddr] at h1
   |_=>rw[hv] at h1;simp[Instr.loadAt,Instr.sureAddr] at h1
  obtain⟨x,hx⟩:=hp;rw[hx] at h1;simp only[Instr.loadAt,Instr.sureAddr,Sem.run_bind,Sem.run_pure,Result.andThen_ok] at h1;simp[iZ,hx,asAddr,h1]
theorem nZ{F:Nat->Prop}{G:Nat->Value}{w:World}{a:Act}{s:S}(h:aq Q T F G w a s): ∀(rs:List ResultVar) (ps:List P),bW Q s rs=some ps->
  ∃vs,(rs.mapM (iZ a.tmps)).run Q w= .ok vs w/\vs.length=ps.length/\ ∀(i:Nat) (v:Value) (c:P),vs[i]?=some v->ps[i]?=some c->ao F w G s.rg v c
 | [],ps,hr=>by simp_all [bW]
 |r::rs,ps,hr=>by
  simp only[bW] at hr;cases h1:oT Q s r with
  |none=>grind
  |some p=>
   cases h2:bW Q s rs with
   |none=>grind
   |some qs=>simp[h1,h2] at hr;subst hr;obtain⟨v,g1,g2⟩:=yw h h1;obtain⟨vs,k1,k2,k3⟩:=nZ h rs qs h2;refine⟨v::vs,by simp_all,by simp[k2],λi u c hu hc=> ?_⟩;grind
theorem jy: ∀(ps:List P) (i0 t:Nat) (p:P),lk (dB i0 ps) t=some p->i0<=t/\ps[t-i0]?=some p
 | [],i0,t,p,h=>by simp[dB,lk] at h
 |q::ps,i0,t,p,h=>by
  simp only[dB,lk] at h;split at h
  ·simp_all
  obtain⟨h1,h2⟩:=jy ps (i0+1) t p h;grind
theorem AW{F:Nat->Prop}{G:Nat->Value}{w:World}{R:List (Nat×En)}{t:TypeId}{v:Value}{p:P}(h:ao F w G R v p):ao F w G R v (xv Q t p):=by
 unfold xv;split
 ·cases h with
  |d h=>
   cases h;split
   ·split
    ·exact .d (.Bp none _ 0)
    exact .d .bu
   exact .d .bu
 exact h
theorem n0: ∀(ts:List TypeId) (ps:List P),(gb Q ts ps).length=ps.length
 | [],ps=>by rfl
 |t::ts,[]=>by rfl
 |t::ts,p::ps=>by simp[gb,n0 ts ps]
theorem qz{F:Nat->Prop}{G:Nat->Value}{w:World}{R:List (Nat×En)}: ∀(ts:List TypeId) (ps:List P) (vs:List Value),
  (∀(i:Nat) (v:Value) (c:P),vs[i]?=some v->ps[i]?=some c->ao F w G R v c)-> ∀(i:Nat) (v:Value) (c:P),vs[i]?=some v->(gb Q ts ps)[i]?=some c->ao F w G R v c
 | [],ps,vs,h=>by simpa [gb] using h
 |_::_,[],_,_=>λi v c _ hc=>by simp[gb] at hc
 |t::ts,p::ps,[],h=>λi v c hv=>by simp at hv
 |t::ts,p::ps,v::vs,h=>λi u c hu hc=>by
  cases i with
  |zero=>grind [gb,AW]
  |succ i=>exact qz ts ps vs (λi v c hv hc=>h (i+1) v c (by grind) (by grind)) i u c (by grind) (by simpa [gb] using hc)
theorem l5{F:Nat->Prop}{G:Nat->Value}{w:World}{a:Act}{s:S}(h:aq Q T F G w a s){fn:Func}{ps:List P}(hr:bW Q s fn.results.toList=some ps):
  ∃vs:List Value,(results fn a.tmps).run Q w= .ok (if hh:vs.toArray.size=1 then vs.toArray[0] else .tuple vs.toArray) w/\vs.length=ps.length/\ ∀(i:Nat) (v:Value) (c:P),vs[i]?=some v->ps[i]?=some c->ao F w G s.rg v c:=by
 obtain⟨vs,h1,h2,h3⟩:=nZ h fn.results.toList ps hr;refine⟨vs,?_,h2,h3⟩;have e:(fn.results.mapM (iZ a.tmps)).run Q w= .ok vs.toArray w:=by rw[Array.mapM_eq_mapM_toList];simp[h1]
 have e2:results fn a.tmps=(do let vs<-fn.results.mapM (iZ a.tmps);pure (if h:vs.size=1 then vs[0] else .tuple vs)):=by rfl
 rw[e2,Sem.run_bind,e];rfl
theorem Hy{F:Nat->Prop}{G:Nat->Value}{w:World}{R:List (Nat×En)}{vs:List Value}{ps:List P}(h2:vs.length=ps.length)(h3: ∀(i:Nat) (v:Value) (c:P),vs[i]?=some v->ps[i]?=some c->ao F w G R v c):
  ao F w G R (if hh:vs.toArray.size=1 then vs.toArray[0] else .tuple vs.toArray) (BS ps):=by
 match vs,ps,h2,h3 with
 | [v],[p],_,h3=>exact h3 0 v p rfl rfl
 | [],[],h2,h3=>exact .fL [] [] rfl (λi v c hv=>by simp at hv)
 |v1::v2::vs,p1::p2::ps,h2,h3=>exact .fL _ _ h2 h3
theorem qA{T:Tg}{G:Nat->Value}{w:World}{a:Act}: ∀(ps:List P) (ts:List TypeId) (s:S) (F:Nat->Prop) (s':S) (qs:List P) (vs:List Value),aq Q T F G w a s->my Q s ts ps=some (s',qs)->vs.length=ps.length->
  (∀(i:Nat) (v:Value) (c:P),vs[i]?=some v->ps[i]?=some c->ao F w G s.rg v c)->
  ∃F',aq Q T F' G w a s'/\Ext (Own G s.rg) (Own G s'.rg) F F' w w/\Names G G s.rg s'.rg/\(∀b,F b->F' b)/\vs.length=qs.length/\ ∀(i:Nat) (v:Value) (c:P),vs[i]?=some v->qs[i]?=some c->ao F' w G s'.rg v c
 | [],ts,s,F,s',xs,vs,h,hs,hl,hv=>by grind [my,Ext.refl,Names.refl]
 |p::ps,ts,s,F,s',xs,vs,h,hs,hl,hv=>by
  cases vs with
  |nil=>simp at hl
  |cons v vs=>
   simp only[my] at hs;split at hs
   ·cases hs
   rename_i s1 q h1;split at hs
   ·rename_i s2 Hb h2;simp at hs;obtain⟨rfl,rfl⟩:=hs;obtain⟨F1,a1,a2,a3,a4,a5⟩:=sx h h1 (hv 0 v p (by simp) (by simp));obtain⟨F2,b1,b2,b3,b4,b5,b6⟩:=qA ps ts.tail s1 F1 s2 Hb vs a1 h2 (by grind)
     (λi u c hu hc=>(hv (i+1) u c (by grind) (by grind)).mono a4 (λ_ _=>rfl) a3)
    refine⟨F2,b1,a2.trans b2,a3.trans b3,λb hb=>b4 b (a4 b hb),by grind,λi u c hu hc=> ?_⟩;cases i with
    |zero=>simp at hu hc;subst hu;subst hc;exact a5.mono b4 (λ_ _=>rfl) b3
    |succ i=>grind
   cases hs
theorem sO{F:Nat->Prop}{G:Nat->Value}{w:World}{a:Act}{s:S}(h:aq Q T F G w a s){m:Nat}{Iq:List TypeId}{qs:List P}{p:P}{R1:List (Nat×En)}(hf:finish Q m Iq qs s=some (p,R1))
  {vs:List Value} (hl:vs.length=qs.length) (hv: ∀(i:Nat) (v:Value) (c:P),vs[i]?=some v->qs[i]?=some c->ao F w G s.rg v c):
  ∃F' G',aL Q T F' G' w R1/\ao F' w G' R1 (if hh:vs.toArray.size=1 then vs.toArray[0] else .tuple vs.toArray) p/\Ext (Own G s.rg) (Own G' R1) F F' w w:=by
 unfold finish at hf;split at hf
 ·cases hf
 rename_i s0 L6 Hz;obtain⟨F1,j1,j2,j3,j4,j5,j6⟩:=qA _ _ s F s0 L6 vs h Hz hl hv;split at hf
 ·cases hf
 rename_i s1 Lc ho;obtain⟨G1,h1,h2,h3,h4,h5⟩:=ky _ _ _ s0 G s1 Lc vs j1 ho j5 j6;simp only at hf;split at hf
 next hY=>
  split at hf
  next R hR=>obtain⟨rfl,rfl⟩:=hf;obtain⟨k1,k2,k3⟩:=h1.heap.sub hR hY;refine⟨F1,_,by grind,gS k2 (Hy h4 h5),(j2.trans h2).trans ⟨λ_ h=>h,λ_ h=> .inl h,λb hb=> ?_,λ_ _ _=>rfl,zae _,rfl,rfl,rfl⟩⟩;obtain⟨n,e,_,he,hb⟩:=k3 b hb;exact .inl ⟨n,e,he,hb⟩
  cases hf
 cases hf
theorem aL.lo{val:Nat->Value}{w0:World}{x y:Nat}{m1 m2:Bool}{F:Nat->Prop}{G:Nat->Value}{w:World}{R:List (Nat×En)}(h:aL Q ⟨val,w0,x,m1⟩ F G w R)(hy:y<=w.heap.size:=by exact za2 _):aL Q ⟨val,w0,y,m2⟩ F G w R:=
 ⟨.nil,h.size,h.tm,h.rg,h.own,h.gG,h.fw,h.tag,h.z,h.dr,hy⟩
theorem aq.lo{val:Nat->Value}{w0:World}{x y:Nat}{m1 m2:Bool}{F:Nat->Prop}{G:Nat->Value}{w:World}{t:Array Value}{s:S}(h:aq Q ⟨val,w0,x,m1⟩ F G w ⟨t,[]⟩ s)(hy:y<=w.heap.size):aq Q ⟨val,w0,y,m2⟩ F G w ⟨t,[]⟩ s:=
 ⟨.nil,h.size,h.tm,h.rg,h.own,h.gG,h.fw,h.tag,h.z,h.dr,hy⟩
theorem aq.shut{T:Tg}{F:Nat->Prop}{G:Nat->Value}{w:World}{t:Array Value}{d:Deferred}{ds:List Deferred}{s:S}(h:aq Q T F G w ⟨t,d::ds⟩ s):
  ∃D,d={target:= .collected D,args:= #[]}/\(Instr.takeDeferred D).run Q w= .ok [] (w.putObj D (.deferred none))/\aq Q T F G (w.putObj D (.deferred none)) ⟨t,ds⟩ s/\
   ∀(own0 F0:Nat->Prop) (w1:World),w1.heap.size<=T.lo->Ext own0 (Own G s.rg) F0 F w1 w->Ext own0 (Own G s.rg) F0 F w1 (w.putObj D (.deferred none)):=by
 obtain⟨hY,hm⟩:=h.mf;have E1:=zax.1 hY;obtain⟨D,h1,h0,h2,h3,h4⟩:=hm d (by simp);have ca: ∀b,b≠D->(w.putObj D (.deferred none)).heap[b]?=w.heap[b]?:=λb hb=>by simp only[World.putObj];rw[zaC (za5 hb)]
 have hF: ∀b,F b->(w.putObj D (.deferred none)).heap[b]?=w.heap[b]?:=λb hb=>ca b λe=>h3 (e▸hb);have cp:(w.putObj D (.deferred none)).heap.size=w.heap.size:=by simp
 refine⟨D,h1,run_takeDeferred h2,⟨⟨E1.2,λd' wh=> ?_⟩,h.size,λt p hp=>bt.mono (λ_ h=>h) hF (Names.refl _ _) (h.tm t p hp),
  λn e he=>(h.rg n e he).mono (λ_ h=>h) hF (Names.refl _ _) rfl (λb hb=>ca b λe'=>h4 ⟨n,e,he,e'▸hb⟩),h.own,h.gG,λb hb=>by rw[cp];exact h.fw b hb,h.tag,
  λb hb=>⟨(h.z b hb).1,(hF b (h.z b hb).1).trans (h.z b hb).2⟩,h.dr,by rw[cp];exact h.sz⟩,λown0 F0 w1 Ab hx=> ?_⟩
 ·grind
 exact⟨hx.fV,hx.iN,hx.fe,λb hb hn=>(ca b (by omega)).trans (hx.keep b hb hn),by grind,hx.os,hx.tape,hx.output⟩
theorem qB{T:Tg}{F:Nat->Prop}{G:Nat->Value}{t:Array Value}{s:S}{fn:Func}{own0 F0:Nat->Prop}{w1:World}(Ab:w1.heap.size<=T.lo){R:Ending->World->Prop}{n:Nat}
  (hR: ∀w2,aq Q T F G w2 ⟨t,[]⟩ s->Ext own0 (Own G s.rg) F0 F w1 w2-> ∃v,(results fn t).run Q w2= .ok v w2/\R (.returned v) w2):
  ∀(ds:List Deferred) (w:World),aq Q T F G w ⟨t,ds⟩ s->Ext own0 (Own G s.rg) F0 F w1 w->LeavesInM Fence.wide n Q fn t R ds .returning w
 | [],w,h,hx=>hR w h hx
 |d::ds,w,h,hx=>by obtain⟨D,h1,h2,h3,h4⟩:=h.shut;exact⟨λe=>(by cases e),.inl ⟨D,_,by rw[h1],h2,qB Ab hR ds _ h3 (h4 _ _ _ Ab hx)⟩⟩
theorem gV{f:FuncId}{fn:Func}{c:Code}{args:Array Value}{w:World}{R:Ending->World->Prop}(hf:Q.funcs[f]?=some fn)(hb:fn.body=some c)
  (h:c.wpIn (wd none) 0 Q (bodyPostM Fence.wide 0 Q fn R) {tmps:=args++Array.replicate (fn.ntmps-args.size) undef,defers:=[]} w):Calls Q f args w R:=
 callsIn_wide.1 (callsIn_of_wp_marks hf hb trivial h)
theorem qC(k:Option (List Nat×List Nat))(ts:List TypeId)(ps:List P):(gF k Q ts ps).length=ps.length:=by
 cases k with
 |none=>exact n0 ts ps
 |some _=>rfl
theorem sP{F:Nat->Prop}{G:Nat->Value}{w:World}{R:List (Nat×En)}(k:Option (List Nat×List Nat))(ts:List TypeId)(ps:List P)(vs:List Value)
  (h: ∀(i:Nat) (v:Value) (c:P),vs[i]?=some v->ps[i]?=some c->ao F w G R v c): ∀(i:Nat) (v:Value) (c:P),vs[i]?=some v->(gF k Q ts ps)[i]?=some c->ao F w G R v c:=by
 cases k with
 |none=>exact qz ts ps vs h
 |some _=>exact h
theorem mQ{kp:tq}{w0:World}(hX:cL Q w0 kp.X)(hdr:Q.follows .mixedOrders=true): ∀(k:Nat),cL Q w0 (dh Q kp lf k)
 |0=>λfN ps R p R1 h=>by simp[dh] at h
 |k+1=>λfN ps R p R1 hr F G w vs hH hl hv=>by
  have ih:=mQ (kp:=kp) hX hdr k;simp only[dh] at hr;split at hr
  ·cases hr
  rename_i fn fg;split at hr
  ·exact hX fN ps R p R1 hr F G w vs hH hl hv
  split at hr
  ·cases hr
  rename_i c hc;split at hr
  ·cases hr
  rename_i iY;have iY:(fn.name== "runtime.NumGoroutine")=false:=by grind
  left;refine⟨by simp[callFunc,fg,hc];grind,?_⟩;refine gV fg hc ?_;have Lj:vs.length=(gF (kp fN 999999) Q fn.params.toList ps).length:=by rw[qC];exact hl
  have B7:=sP (Q:=Q) (kp fN 999999) fn.params.toList ps vs hv;have qD:aq Q ⟨G,w0,w.heap.size,true⟩ F G w {tmps:=(⟨vs⟩:Array Value)++Array.replicate (fn.ntmps-(⟨vs⟩:Array Value).size) undef,defers:=[]} ⟨fn.ntmps,dB 0 (gF (kp fN 999999) Q fn.params.toList ps),R⟩:=by refine(aL.lo hH (zae _)).state rfl .nil (by simp;omega) (λt p hp=> ?_);obtain⟨_,h2⟩:=jy _ 0 t p hp;grind [cK,bt.of]
  have fin: ∀(s1:S) (qs:List P),bW Q s1 fn.results.toList=some qs->finish Q R.length fn.resultTypes.toList qs s1=some (p,R1)-> ∀a' w',fh Q ⟨G,w0,w.heap.size,true⟩ F G w ⟨fn.ntmps,dB 0 (gF (kp fN 999999) Q fn.params.toList ps),R⟩ s1 a' w'->
    LeavesInM Fence.wide 0 Q fn a'.tmps (λe w'=> ∃v2,e= .returned v2/\ ∃F' G',aL Q ⟨G,w0,0,false⟩ F' G' w' R1/\ao F' w' G' R1 v2 p/\Ext (Own G R) (Own G' R1) F F' w w') a'.defers .returning w':=by
   intro s1 qs hq yZ a' w' ⟨F',G',h1,h2⟩;refine qB (T:=⟨G,w0,w.heap.size,true⟩) (own0:=Own G R) (F0:=F) (w1:=w) (zae _) (λw2 h3 h4=> ?_) a'.defers w' h1 h2;obtain⟨us,g1,g2,g3⟩:=l5 h3 hq;obtain⟨F2,G2,k1,k2,k3⟩:=sO h3 yZ g2 g3;exact⟨_,g1,_,rfl,F2,G2,k1.lo,k2,h4.trans k3⟩
  cases hx:aS Q (dh Q kp lf k) (kp fN) lf c ⟨fn.ntmps,dB 0 (gF (kp fN 999999) Q fn.params.toList ps),R⟩ with
  |none=>grind
  |some r=>
   obtain⟨e,s1⟩:=r;simp only[hx] at hr;have Hz: ∃qs,bW Q s1 fn.results.toList=some qs/\finish Q R.length fn.resultTypes.toList qs s1=some (p,R1):=by
    cases e<;>simp only at hr<;>try (grind)
    all_goals
     grind
   obtain⟨qs,hq,yZ⟩:=Hz;refine dy (r:=none) (T:=⟨G,w0,w.heap.size,true⟩) ih hdr c _ e s1 hx F G w _ _ qD (λa' w' hp=> ?_);have:=fin s1 qs hq yZ a' w' hp;cases e with
   |normal=>exact this
   |ret=>exact this
   |exit id=>simp at hr
end
end Pi
