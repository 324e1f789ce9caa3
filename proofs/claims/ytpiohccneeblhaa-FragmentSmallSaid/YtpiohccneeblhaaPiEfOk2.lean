/- The text PiEfOk2. -/
import Derived.Test.YtpiohccneeblhaaPiEfOk
namespace Pi
open Go
section
variable{Q:Program}{T:Tg}{F:Nat->Prop}{G:Nat->Value}{w:World}{a:Act}{s:S}
theorem S.a8{n:Nat}{e:En}{o:Obj}(he:lk s.rg n=some e):s.setObj n o={s with rg:=ins n ⟨e.az,e.tag,o⟩ s.rg}:=by simp[S.setObj,he]
theorem aq.freeze(h:aq Q T F G w a s){n:Nat}{e:En}{ty:TypeId}{fz:Bool}{es:List D}(he:lk s.rg n=some e)(aP:e.obj= .arr ty fz es):
  ∃F',aq Q T F' G w a (s.setObj n (.arr ty true es))/\Ext (Own G s.rg) (Own G (s.setObj n (.arr ty true es)).rg) F F' w w/\Names G G s.rg (s.setObj n (.arr ty true es)).rg/\(∀b,aj (G n)=some b->F' b)/\(∀b,F b->F' b):=by
 rw[S.a8 he];have hn:Names G G s.rg (ins n ⟨e.az,e.tag,.arr ty true es⟩ s.rg):=by have:=cI (G:=G) (g1:=G n) (R:=s.rg) (n:=n) (e1:=⟨e.az,e.tag,.arr ty true es⟩) (λe' bb=>by rw[he] at bb;cases bb;exact .inr ⟨rfl,λ_=>⟨by rw[aP];rfl,rfl⟩⟩);rwa [aK] at this
 have jZ: ∀m e1,lk (ins n ⟨e.az,e.tag,Obj.arr ty true es⟩ s.rg) m=some e1->(m=n/\e1=⟨e.az,e.tag,.arr ty true es⟩)\/(n≠m/\lk s.rg m=some e1):=λm e1 h1=>by
  by_cases hm:n=m
  ·subst hm;rw[aH] at h1;cases h1;exact .inl ⟨rfl,rfl⟩
  rw[aV _ _ hm] at h1;exact .inr ⟨hm,h1⟩
 have hO:=h.rg n e he;rw[aP] at hO;have tP: ∀b,aj (G n)=some b->b<w.heap.size:=λb hb=>by
  rcases hO with⟨hg,_⟩| ⟨b',cap,cs,k,hg,hh,_⟩
  ·simp[hg,aj] at hb
  simp[hg,aj] at hb;subst hb;exact(zap.1 hh).1
 have cA: ∀b,aj (G n)=some b->F b\/ay (G n) e.obj b:=λb hb=>by
  rw[aP];cases fz with
  |false=>right;simp[ay,hb]
  |true=>
   left;rcases hO with⟨hg,_⟩| ⟨b',cap,cs,k,hg,hh,_,_,_,_,_,hf,_⟩
   ·simp[hg,aj] at hb
   simp[hg,aj] at hb;subst hb;exact hf rfl
 refine⟨λb=>F b\/aj (G n)=some b,⟨h.mf.uR (λb hb=>hb.elim .inl λhb=>(cA b hb).imp id λh2=>⟨n,e,he,h2⟩) (λb hb=>by
  obtain⟨m,e1,h1,h2⟩:=hb;rcases jZ m e1 h1 with⟨rfl,rfl⟩| ⟨_,h1⟩
  ·simp[ay] at h2
  exact⟨m,e1,h1,h2⟩),h.size,λt p hp=>(h.tm t p hp).mono (λ_ h=> .inl h) (λ_ _=>rfl) hn,?_,?_,?_,?_,?_,λb hb=>⟨.inl (h.z b hb).1,(h.z b hb).2⟩,h.dr,h.sz⟩,?_,hn,λb hb=> .inr hb,λb hb=> .inl hb⟩
 ·intro m e1 h1;rcases jZ m e1 h1 with⟨rfl,rfl⟩| ⟨hm,h1⟩
  ·rcases hO with⟨hg,h0⟩| ⟨b',cap,cs,k,hg,hh,h1,h2,h3,h4,h5,h6,h7⟩
   ·exact .inl ⟨hg,h0⟩
   exact .inr ⟨b',cap,cs,k,hg,hh,h1,h2,h3,h4,h5,λ_=> .inr (by simp[hg,aj]),h7.mono (λ_ h=> .inl h) (λ_ _=>rfl)⟩
  exact(h.rg m e1 h1).mono (λ_ h=> .inl h) (λ_ _=>rfl) hn rfl (λ_ _=>rfl)
 ·intro m1 m2 e1 e2 b h1 h2 nf jT;rcases jZ m1 e1 h1 with⟨rfl,rfl⟩| ⟨Ah,Iu⟩
  ·simp[ay] at nf
  rcases jZ m2 e2 h2 with⟨rfl,rfl⟩| ⟨Ai,JF⟩
  ·simp[ay] at jT
  exact h.own _ _ _ _ b Iu JF nf jT
 ·intro m e1 b h1 hb rA;rcases jZ m e1 h1 with⟨rfl,rfl⟩| ⟨hm,h1⟩
  ·simp[ay] at hb
  rcases rA with rA |rA
  ·exact h.gG m e1 b h1 hb rA
  rcases cA b rA with h2 |h2
  ·exact h.gG m e1 b h1 hb h2
  exact hm (h.own _ _ _ _ b he h1 h2 hb)
 ·intro b hb;rcases hb with hb |hb
  ·exact h.fw b hb
  exact tP b hb
 ·intro m e1 i h1 hi hl;rcases jZ m e1 h1 with⟨rfl,rfl⟩| ⟨hm,h1⟩
  ·exact h.tag _ e i he hi (by rw[aP];rfl)
  exact h.tag m e1 i h1 hi hl
 refine⟨λ_ h=> .inl h,?_,?_,λ_ _ _=>rfl,zae _,rfl,rfl,rfl⟩
 ·intro b hb;rcases hb with hb |hb
  ·exact .inl hb
  rcases cA b hb with h2 |h2
  ·exact .inl h2
  exact .inr (.inl ⟨n,e,he,h2⟩)
 rintro b ⟨m,e1,h1,hb⟩;rcases jZ m e1 h1 with⟨rfl,rfl⟩| ⟨hm,h1⟩
 ·simp[ay] at hb
 exact .inl ⟨m,e1,h1,hb⟩
theorem D.jK{x:D}{cs:List D}(h:cs.length=x.cells.length)(hc: ∀c∈cs,c.aI=true):(x.cm cs).cells=cs:=by
 have one: ∀(y:D),cs.length=1->(cs.headD y).cells=cs:=λy h1=>by
  cases cs with
  |nil=>simp at h1
  |cons c r=>have:r=[]:=zaJ (by simpa using h1);subst this;have:=hc c (by simp);cases c<;>simp_all [D.cells,D.aI]
 cases x<;>first |rfl |exact one _ (by simpa [D.cells] using h)
theorem oH.unk{R:List (Nat×En)}{cs:Array Value}{k:Nat}{es:List D}{hd:Option (Nat×Nat×P)}(h:oH F w G R cs k es hd):fC F w cs k (bJ es hd):=by
 intro m z hz;cases hd with
 |none=>obtain⟨h1,h2,h3⟩:=h.1 m z hz;exact⟨h1,h2,λj c hc=>h3 j c hc λp e=>by cases e⟩
 |some t=>
  obtain⟨i,j,p⟩:=t;simp only[bJ,List.getElem?_modify] at hz;by_cases hm:i=m
  ·subst hm;simp only[↓reduceIte] at hz;cases hx:es[i]? with
   |none=>rw[hx] at hz;cases hz
   |some x=>
    rw[hx] at hz;cases hz;obtain⟨h1,h2,h3⟩:=h.1 i x hx;have Gf: ∀c∈x.cells.set j .unk,c.aI=true:=λc hc=>by
     rcases zbl hc with hc |rfl
     ·exact h2 c hc
     rfl
    rw[D.jK (zas ..) Gf];refine⟨by rw[zas,h1],Gf,λj' c hc=> ?_⟩;by_cases hj:j=j'
    ·subst hj;rw[zaE (by have:=(zaa.1 hc).1;rwa [zas] at this)] at hc;cases hc;exact .unk _ (h.2 i j p rfl).2.2.1
    rw[zau hj] at hc;exact h3 j' c hc λp e=>by cases e;exact hj rfl
  have hz:es[m]?=some z:=by simpa [hm] using hz
  obtain⟨h1,h2,h3⟩:=h.1 m z hz;exact⟨h1,h2,λj' c hc=>h3 j' c hc λp e=>by cases e;exact hm rfl⟩
theorem zg{α:Type}(n:Nat)(a b:α): ∀l:List (Nat×α),ins n a (ins n b l)=ins n a l
 | []=>by simp[ins]
 | (j,u)::r=>by
  simp only[ins];cases h1:Nat.blt n j with
  |true=>simp[ins]
  |false=>
   cases h2:Nat.beq n j with
   |true=>simp[ins]
   |false=>simp only[zar,za3,ins,h1,h2,zg n a b r]
theorem S.xP{n:Nat}{e:En}{o1 o2:Obj}(he:lk s.rg n=some e):(s.setObj n o1).setObj n o2=s.setObj n o2:=by rw[S.a8 he,S.a8 (e:=⟨e.az,e.tag,o1⟩) (by exact aH _ _ _),S.a8 he];simp only[zg]
theorem aq.unk(h:aq Q T F G w a s){n:Nat}{e:En}{ty:TypeId}{hd:Option (Nat×Nat×P)}{es:List D}(he:lk s.rg n=some e)(aP:e.obj= .bC ty es hd):
  aq Q T F G w a (s.setObj n (.arr ty false (bJ es hd)))/\Ext (Own G s.rg) (Own G (s.setObj n (.arr ty false (bJ es hd))).rg) F F w w/\Names G G s.rg (s.setObj n (.arr ty false (bJ es hd))).rg:=by
 rw[S.a8 he];have bX:jJ G s.rg n ⟨e.az,e.tag,.arr ty false (bJ es hd)⟩ (G n):=λe' bb=>by rw[he] at bb;cases bb;exact .inr ⟨rfl,λ_=>⟨by rw[aP];rfl,rfl⟩⟩
 have jm:=cI bX;rw[aK] at jm;have hO:=h.rg n e he;rw[aP] at hO;obtain⟨d1,d2⟩:=h.iH (e1:=⟨e.az,e.tag,.arr ty false (bJ es hd)⟩) (g1:=G n) (w':=w) bX (λc _ _=>rfl) (zae _) rfl rfl rfl
  (λc hc=> .inr ⟨e,he,by rw[aP];exact hc.2⟩)
  (by
   have hl:(bJ es hd).length=es.length:=by unfold bJ;split<;>simp
   rcases hO with⟨h1,h2,h3⟩| ⟨b,cap,cs,k,h1,h2,h3,h4,h5,h6,h7,h8⟩
   ·exact .inl ⟨by rw[aK];exact h1,by rw[h2,h3];rfl⟩
   exact .inr ⟨b,cap,cs,k,by rw[aK,hl];exact h1,h2,h3,h4,by rw[hl];exact h5,h6,h7,(λh=>by cases h),h8.unk⟩)
  (λi hi hl=>h.tag n e i he hi (by rw[aP];rfl))
 rw[aK] at d1 d2;exact⟨d1,d2,jm⟩
theorem oW(h:aq Q T F G w a s){p:P}{s':S}{x:D}(hs:kb Q s p=some (s',x)){v:Value}(hv:ao F w G s.rg v p):
  ∃F',aq Q T F' G w a s'/\Ext (Own G s.rg) (Own G s'.rg) F F' w w/\Names G G s.rg s'.rg/\(∀b,F b->F' b)/\aA F' w v x:=by
 unfold kb at hs;split at hs
 ·simp at hs;obtain⟨rfl,rfl⟩:=hs;cases hv with |d hv=>exact⟨F,h,Ext.refl _ _ _,Names.refl _ _,λ_ h=>h,hv⟩
 next n az len=>
  split at hs
  next ty fz es ho=>
   obtain⟨e,he,bN,aP⟩:=S.aJ ho;split at hs
   ·rename_i k hk;simp at hs;obtain⟨rfl,rfl⟩:=hs;cases hv with
    |sl _ _ _ _ h1 hr=>obtain⟨F',f1,f2,f3,f4,f5⟩:=h.freeze he aP;refine⟨F',f1,f2,f3,f5,?_⟩;have hO:=h.rg n e he;rw[aP] at hO;exact ku (s:=s) hO hk (hr.at he bN (by rw[aP];rfl)) f4 f5
   cases hs
  next ty es hd ho=>
   obtain⟨e,he,bN,aP⟩:=S.aJ ho;split at hs
   ·rename_i k hk;simp at hs;obtain⟨rfl,rfl⟩:=hs;obtain⟨u1,u2,u3⟩:=h.unk he aP;have ze:lk (s.setObj n (.arr ty false (bJ es hd))).rg n=some ⟨e.az,e.tag,.arr ty false (bJ es hd)⟩:=by rw[S.a8 he];exact aH _ _ _
    have vI:=hv.mono (λ_ h=>h) (λ_ _=>rfl) u3;cases vI with
    |sl _ _ _ _ h1 hr=>obtain⟨F',f1,f2,f3,f4,f5⟩:=u1.freeze ze rfl;rw[S.xP he] at f1 f2 f3;refine⟨F',f1,u2.trans f2,u3.trans f3,f5,?_⟩;have hO:=u1.rg n _ ze;exact ku (s:=s.setObj n (.arr ty false (bJ es hd))) hO hk (hr.at ze bN rfl) f4 f5
   cases hs
  cases hs
 next n az k0 off len=>
  split at hs
  next ty fz es ho=>
   obtain⟨e,he,bN,aP⟩:=S.aJ ho;split at hs
   ·rename_i k hk;split at hs
    ·rename_i dW;have dW:=zab dW;subst dW;simp at hs;obtain⟨rfl,rfl⟩:=hs;cases hv with
     |hZ _ _ _ _ _ _ h1 hr=>obtain⟨F',f1,f2,f3,f4,f5⟩:=h.freeze he aP;refine⟨F',f1,f2,f3,f5,?_⟩;have hO:=h.rg n e he;rw[aP] at hO;exact tK (s:=s) hO hk (hr.at he bN (by rw[aP];rfl)) f4 f5
    cases hs
   cases hs
  cases hs
 cases hs
theorem aA.up{F F':Nat->Prop}{v:Value}{x:D}(h:aA F w v x)(hF: ∀b,F b->F' b):aA F' w v x:=h.mono hF (λ_ _=>rfl)
theorem zh: ∀(ps:List P) (s:S) (F:Nat->Prop) (s':S) (xs:List D) (vs:List Value),aq Q T F G w a s->lj Q s ps=some (s',xs)->vs.length=ps.length->
  (∀(i:Nat) (v:Value) (c:P),vs[i]?=some v->ps[i]?=some c->ao F w G s.rg v c)->
  ∃F',aq Q T F' G w a s'/\Ext (Own G s.rg) (Own G s'.rg) F F' w w/\Names G G s.rg s'.rg/\(∀b,F b->F' b)/\vs.length=xs.length/\ ∀(i:Nat) (v:Value) (c:D),vs[i]?=some v->xs[i]?=some c->aA F' w v c
 | [],s,F,s',xs,vs,h,hs,hl,hv=>by simp[lj] at hs;obtain⟨rfl,rfl⟩:=hs;exact⟨F,h,Ext.refl _ _ _,Names.refl _ _,λ_ h=>h,hl,λi v c _ hc=>by simp at hc⟩
 |p::ps,s,F,s',xs,vs,h,hs,hl,hv=>by
  cases vs with
  |nil=>simp at hl
  |cons v vs=>
   simp only[lj] at hs;split at hs
   ·cases hs
   rename_i s1 x h1;split at hs
   ·rename_i s2 GV h2;simp at hs;obtain⟨rfl,rfl⟩:=hs;obtain⟨F1,a1,a2,a3,a4,a5⟩:=oW h h1 (hv 0 v p (by simp) (by simp));obtain⟨F2,b1,b2,b3,b4,b5,b6⟩:=zh ps s1 F1 s2 GV vs a1 h2 (by simpa using hl)
     (λi u c hu hc=>(hv (i+1) u c (by simpa using hu) (by simpa using hc)).mono a4 (λ_ _=>rfl) a3)
    refine⟨F2,b1,a2.trans b2,a3.trans b3,λb hb=>b4 b (a4 b hb),by simpa using b5,λi u c hu hc=> ?_⟩;cases i with
    |zero=>simp at hu hc;subst hu;subst hc;exact a5.up b4
    |succ i=>exact b6 i u c (by simpa using hu) (by simpa using hc)
   cases hs
theorem Cq(h:aq Q T F G w a s){p:P}{s':S}{x:D}(hs:uR Q s p=some (s',x)){v:Value}(hv:ao F w G s.rg v p):
  ∃F',aq Q T F' G w a s'/\Ext (Own G s.rg) (Own G s'.rg) F F' w w/\Names G G s.rg s'.rg/\(∀b,F b->F' b)/\aA F' w v x:=by
 unfold uR at hs;split at hs
 next ps=>
  split at hs
  next s1 xs h1=>
   simp at hs;obtain⟨rfl,rfl⟩:=hs;cases hv with
   |agg vs _ hl fc hc=>
    obtain⟨F',f1,f2,f3,f4,f5,f6⟩:=zh ps s F s1 xs vs h h1 hl hc;exact⟨F',f1,f2,f3,f4,.agg vs xs f5 (λc fO=>by
     obtain⟨i,hi⟩:=zao fO;have bj:i<vs.length:=by have:=(zaa.1 hi).1;omega
     exact(f6 i _ c (zac bj) hi).aI (fc _ (zaX bj))) f6⟩
  cases hs
 exact oW h hs hv
theorem Cr{t:Option TypeId}{v:Value}{x:D}(h:aA F w v x):aA F w v (Jv Q t x):=h
theorem Ct{t:Option TypeId}{x:D}(h:x.aI=true):(Jv Q t x).aI=true:=h
theorem vJ: ∀(ts:List (Option TypeId)) (cs:List D),(vn Q ts cs).length=cs.length
 | [],cs=>by cases cs<;>rfl
 |_::_,[]=>rfl
 |t::ts,c::cs=>by simp[vn,vJ ts cs]
theorem pP: ∀(ts:List (Option TypeId)) (cs:List D) (i:Nat) (c:D),(vn Q ts cs)[i]?=some c-> ∃(t:Option TypeId) (c0:D),cs[i]?=some c0/\c=Jv Q t c0
 | [],cs,i,c,h=>⟨none,c,by cases cs<;>exact h,rfl⟩
 |_::_,[],i,c,h=>by simp[vn] at h
 |t::ts,c0::cs,0,c,h=>by simp[vn] at h;exact⟨t,c0,rfl,h.symm⟩
 |t::ts,c0::cs,i+1,c,h=>by simp only[vn,zbo] at h;exact pP ts cs i c h
theorem Cu{t:TypeId}{v:Value}{x:D}(h:aA F w v x):aA F w v (GR Q t x):=by
 unfold GR;split
 next cs=>
  cases h with
  |agg vs _ hl aW hc=>
   refine .agg vs _ (by rw[vJ];exact hl) (λc fO=> ?_) (λi u c hu fO=> ?_)
   ·obtain⟨i,hi⟩:=zao fO;obtain⟨t',c0,h1,h2⟩:=pP _ _ _ _ hi;rw[h2];exact Ct (aW c0 (zak h1))
   obtain⟨t',c0,h1,h2⟩:=pP _ _ _ _ fO;rw[h2];exact Cr (hc i u c0 hu h1)
 ·exact Cr h
 exact h
theorem nu{t:TypeId}{p:P}{s':S}{x:D}(hs:jh Q s t p=some (s',x)): ∃y,uR Q s p=some (s',y)/\(x=y\/x=GR Q t y):=by
 unfold jh at hs;split at hs
 ·exact⟨x,hs,.inl rfl⟩
 split at hs
 next s1 y h1=>rw[D.force_eq] at hs;simp at hs;obtain⟨rfl,rfl⟩:=hs;exact⟨y,h1,.inr rfl⟩
 cases hs
theorem oX(h:aq Q T F G w a s){t:TypeId}{p:P}{s':S}{x:D}(hs:jh Q s t p=some (s',x)){v:Value}(hv:ao F w G s.rg v p):
  ∃F',aq Q T F' G w a s'/\Ext (Own G s.rg) (Own G s'.rg) F F' w w/\Names G G s.rg s'.rg/\(∀b,F b->F' b)/\aA F' w v x:=by
 obtain⟨y,h1,h2⟩:=nu hs;obtain⟨F',f1,f2,f3,f4,f5⟩:=Cq h h1 hv;refine⟨F',f1,f2,f3,f4,?_⟩;rcases h2 with rfl |rfl
 ·exact f5
 exact Cu f5
end
end Pi
