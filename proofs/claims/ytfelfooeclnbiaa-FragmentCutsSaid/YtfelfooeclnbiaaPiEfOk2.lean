/- The text PiEfOk2. -/
import Derived.Test.YtfelfooeclnbiaaPiEfOk
namespace Pi
open Go
section
variable{Q:Program}{T:Tg}{F:Nat->Prop}{G:Nat->Value}{w:World}{a:Act}{s:S}
theorem S.cH{n:Nat}{e:En}{o:Obj}(he:lk s.rg n=some e):s.setObj n o={s with rg:=ins n ⟨e.aw,e.tag,o⟩ s.rg}:=by simp[S.setObj,he]
theorem ar.freeze(h:ar Q T F G w a s){n:Nat}{e:En}{ty:TypeId}{fz:Bool}{es:List D}(he:lk s.rg n=some e)(aN:e.obj= .arr ty fz es):
  ∃F',ar Q T F' G w a (s.setObj n (.arr ty true es))/\Ext (Own G s.rg) (Own G (s.setObj n (.arr ty true es)).rg) F F' w w/\Names G G s.rg (s.setObj n (.arr ty true es)).rg/\(∀b,au (G n)=some b->F' b)/\(∀b,F b->F' b):=by
 rw[S.cH he];have hn:Names G G s.rg (ins n ⟨e.aw,e.tag,.arr ty true es⟩ s.rg):=by have:=cd (G:=G) (g1:=G n) (R:=s.rg) (n:=n) (e1:=⟨e.aw,e.tag,.arr ty true es⟩) (λe' aW=>by rw[he] at aW;cases aW;exact .inr ⟨rfl,λ_=>⟨by rw[aN];rfl,rfl⟩⟩);rwa [aH] at this
 have gp: ∀m e1,lk (ins n ⟨e.aw,e.tag,Obj.arr ty true es⟩ s.rg) m=some e1->(m=n/\e1=⟨e.aw,e.tag,.arr ty true es⟩)\/(n≠m/\lk s.rg m=some e1):=λm e1 h1=>by
  by_cases hm:n=m
  ·subst hm;rw[aK] at h1;cases h1;exact .inl ⟨rfl,rfl⟩
  rw[aQ _ _ hm] at h1;exact .inr ⟨hm,h1⟩
 have hO:=h.rg n e he;rw[aN] at hO;have lO: ∀b,au (G n)=some b->b<w.heap.size:=λb hb=>by
  rcases hO with⟨hg,_⟩| ⟨b',cap,cs,k,hg,hh,_⟩
  ·simp[hg,au] at hb
  simp[hg,au] at hb;subst hb;exact(zal.1 hh).1
 have cg: ∀b,au (G n)=some b->F b\/aD (G n) e.obj=some b:=λb hb=>by
  rw[aN];cases fz with
  |false=>right;simp[aD,hb]
  |true=>
   left;rcases hO with⟨hg,_⟩| ⟨b',cap,cs,k,hg,hh,_,_,_,_,_,hf,_⟩
   ·simp[hg,au] at hb
   simp[hg,au] at hb;subst hb;exact hf rfl
 refine⟨λb=>F b\/au (G n)=some b,⟨h.qX.pe (λb hb=>hb.elim .inl λhb=>(cg b hb).imp id λh2=>⟨n,e,he,h2⟩) (λb hb=>by
  obtain⟨m,e1,h1,h2⟩:=hb;rcases gp m e1 h1 with⟨rfl,rfl⟩| ⟨_,h1⟩
  ·simp[aD] at h2
  exact⟨m,e1,h1,h2⟩),h.size,λt p hp=>(h.tm t p hp).mono (λ_ h=> .inl h) (λ_ _=>rfl) hn,?_,?_,?_,?_,?_,λb hb=>⟨.inl (h.z b hb).1,(h.z b hb).2⟩,h.dr,h.sz⟩,?_,hn,λb hb=> .inr hb,λb hb=> .inl hb⟩
 ·intro m e1 h1;rcases gp m e1 h1 with⟨rfl,rfl⟩| ⟨hm,h1⟩
  ·rcases hO with⟨hg,h0⟩| ⟨b',cap,cs,k,hg,hh,h1,h2,h3,h4,h5,h6,h7⟩
   ·exact .inl ⟨hg,h0⟩
   exact .inr ⟨b',cap,cs,k,hg,hh,h1,h2,h3,h4,h5,λ_=> .inr (by simp[hg,au]),h7.mono (λ_ h=> .inl h) (λ_ _=>rfl)⟩
  exact(h.rg m e1 h1).mono (λ_ h=> .inl h) (λ_ _=>rfl) hn rfl (λ_ _=>rfl)
 ·intro m1 m2 e1 e2 b h1 h2 ko iS;rcases gp m1 e1 h1 with⟨rfl,rfl⟩| ⟨s9,zQ⟩
  ·simp[aD] at ko
  rcases gp m2 e2 h2 with⟨rfl,rfl⟩| ⟨ta,Al⟩
  ·simp[aD] at iS
  exact h.own _ _ _ _ b zQ Al ko iS
 ·intro m e1 b h1 hb mT;rcases gp m e1 h1 with⟨rfl,rfl⟩| ⟨hm,h1⟩
  ·simp[aD] at hb
  rcases mT with mT |mT
  ·exact h.hS m e1 b h1 hb mT
  rcases cg b mT with h2 |h2
  ·exact h.hS m e1 b h1 hb h2
  exact hm (h.own _ _ _ _ b he h1 h2 hb)
 ·intro b hb;rcases hb with hb |hb
  ·exact h.fL b hb
  exact lO b hb
 ·intro m e1 i h1 hi hl;rcases gp m e1 h1 with⟨rfl,rfl⟩| ⟨hm,h1⟩
  ·exact h.tag _ e i he hi (by rw[aN];rfl)
  exact h.tag m e1 i h1 hi hl
 refine⟨λ_ h=> .inl h,?_,?_,λ_ _ _=>rfl,zag _,rfl,rfl,rfl⟩
 ·intro b hb;rcases hb with hb |hb
  ·exact .inl hb
  rcases cg b hb with h2 |h2
  ·exact .inl h2
  exact .inr (.inl ⟨n,e,he,h2⟩)
 rintro b ⟨m,e1,h1,hb⟩;rcases gp m e1 h1 with⟨rfl,rfl⟩| ⟨hm,h1⟩
 ·simp[aD] at hb
 exact .inl ⟨m,e1,h1,hb⟩
theorem ln(h:ar Q T F G w a s){p:P}{s':S}{x:D}(hs:gw Q s p=some (s',x)){v:Value}(hv:ao F w G s.rg v p):
  ∃F',ar Q T F' G w a s'/\Ext (Own G s.rg) (Own G s'.rg) F F' w w/\Names G G s.rg s'.rg/\(∀b,F b->F' b)/\ay F' w v x:=by
 unfold gw at hs;split at hs
 ·simp at hs;obtain⟨rfl,rfl⟩:=hs;cases hv with |d hv=>exact⟨F,h,Ext.refl _ _ _,Names.refl _ _,λ_ h=>h,hv⟩
 next n aw len=>
  split at hs
  next ty fz es ho=>
   obtain⟨e,he,bE,aN⟩:=S.aJ ho;split at hs
   ·rename_i k hk;simp at hs;obtain⟨rfl,rfl⟩:=hs;cases hv with
    |sl _ _ _ _ h1 hr=>obtain⟨F',f1,f2,f3,f4,f5⟩:=h.freeze he aN;refine⟨F',f1,f2,f3,f5,?_⟩;have hO:=h.rg n e he;rw[aN] at hO;exact kj (s:=s) hO hk (hr.at he bE (by rw[aN];rfl)) f4 f5
   cases hs
  cases hs
 next n aw k0 off len=>
  split at hs
  next ty fz es ho=>
   obtain⟨e,he,bE,aN⟩:=S.aJ ho;split at hs
   ·rename_i k hk;split at hs
    ·rename_i dK;have dK:=zac dK;subst dK;simp at hs;obtain⟨rfl,rfl⟩:=hs;cases hv with
     |eL _ _ _ _ _ _ h1 hr=>obtain⟨F',f1,f2,f3,f4,f5⟩:=h.freeze he aN;refine⟨F',f1,f2,f3,f5,?_⟩;have hO:=h.rg n e he;rw[aN] at hO;exact oz (s:=s) hO hk (hr.at he bE (by rw[aN];rfl)) f4 f5
    cases hs
   cases hs
  cases hs
 cases hs
theorem ay.up{F F':Nat->Prop}{v:Value}{x:D}(h:ay F w v x)(hF: ∀b,F b->F' b):ay F' w v x:=h.mono hF (λ_ _=>rfl)
theorem sv: ∀(ps:List P) (s:S) (F:Nat->Prop) (s':S) (xs:List D) (vs:List Value),ar Q T F G w a s->ib Q s ps=some (s',xs)->vs.length=ps.length->
  (∀(i:Nat) (v:Value) (c:P),vs[i]?=some v->ps[i]?=some c->ao F w G s.rg v c)->
  ∃F',ar Q T F' G w a s'/\Ext (Own G s.rg) (Own G s'.rg) F F' w w/\Names G G s.rg s'.rg/\(∀b,F b->F' b)/\vs.length=xs.length/\ ∀(i:Nat) (v:Value) (c:D),vs[i]?=some v->xs[i]?=some c->ay F' w v c
 | [],s,F,s',xs,vs,h,hs,hl,hv=>by simp[ib] at hs;obtain⟨rfl,rfl⟩:=hs;exact⟨F,h,Ext.refl _ _ _,Names.refl _ _,λ_ h=>h,hl,λi v c _ hc=>by simp at hc⟩
 |p::ps,s,F,s',xs,vs,h,hs,hl,hv=>by
  cases vs with
  |nil=>simp at hl
  |cons v vs=>
   simp only[ib] at hs;split at hs
   ·cases hs
   rename_i s1 x h1;split at hs
   ·rename_i s2 yy h2;simp at hs;obtain⟨rfl,rfl⟩:=hs;obtain⟨F1,a1,a2,a3,a4,a5⟩:=ln h h1 (hv 0 v p (by simp) (by simp));obtain⟨F2,b1,b2,b3,b4,b5,b6⟩:=sv ps s1 F1 s2 yy vs a1 h2 (by simpa using hl)
     (λi u c hu hc=>(hv (i+1) u c (by simpa using hu) (by simpa using hc)).mono a4 (λ_ _=>rfl) a3)
    refine⟨F2,b1,a2.trans b2,a3.trans b3,λb hb=>b4 b (a4 b hb),by simpa using b5,λi u c hu hc=> ?_⟩;cases i with
    |zero=>simp at hu hc;subst hu;subst hc;exact a5.up b4
    |succ i=>exact b6 i u c (by simpa using hu) (by simpa using hc)
   cases hs
theorem vi(h:ar Q T F G w a s){p:P}{s':S}{x:D}(hs:pe Q s p=some (s',x)){v:Value}(hv:ao F w G s.rg v p):
  ∃F',ar Q T F' G w a s'/\Ext (Own G s.rg) (Own G s'.rg) F F' w w/\Names G G s.rg s'.rg/\(∀b,F b->F' b)/\ay F' w v x:=by
 unfold pe at hs;split at hs
 next ps=>
  split at hs
  next s1 xs h1=>
   simp at hs;obtain⟨rfl,rfl⟩:=hs;cases hv with
   |agg vs _ hl cK hc=>
    obtain⟨F',f1,f2,f3,f4,f5,f6⟩:=sv ps s F s1 xs vs h h1 hl hc;exact⟨F',f1,f2,f3,f4,.agg vs xs f5 (λc fB=>by
     obtain⟨i,hi⟩:=zar fB;have bm:i<vs.length:=by have:=(zaa.1 hi).1;omega
     exact(f6 i _ c (zab bm) hi).aG (cK _ (za2 bm))) f6⟩
  cases hs
 exact ln h hs hv
theorem vj{t:Option TypeId}{v:Value}{x:D}(h:ay F w v x):ay F w v (yr Q t x):=by
 cases t with
 |none=>exact h
 |some e=>
  unfold yr;simp only;split
  ·split
   ·cases h;exact .sS none _ 0
   exact h
  exact h
theorem vn{t:Option TypeId}{x:D}(h:x.aG=true):(yr Q t x).aG=true:=by
 cases t with
 |none=>exact h
 |some e=>
  unfold yr;simp only;split
  ·split<;>rfl
  exact h
theorem pK: ∀(ts:List (Option TypeId)) (cs:List D),(pq Q ts cs).length=cs.length
 | [],cs=>by cases cs<;>rfl
 |_::_,[]=>rfl
 |t::ts,c::cs=>by simp[pq,pK ts cs]
theorem lP: ∀(ts:List (Option TypeId)) (cs:List D) (i:Nat) (c:D),(pq Q ts cs)[i]?=some c-> ∃(t:Option TypeId) (c0:D),cs[i]?=some c0/\c=yr Q t c0
 | [],cs,i,c,h=>⟨none,c,by cases cs<;>exact h,rfl⟩
 |_::_,[],i,c,h=>by simp[pq] at h
 |t::ts,c0::cs,0,c,h=>by simp[pq] at h;exact⟨t,c0,rfl,h.symm⟩
 |t::ts,c0::cs,i+1,c,h=>by simp only[pq,zbd] at h;exact lP ts cs i c h
theorem vo{t:TypeId}{v:Value}{x:D}(h:ay F w v x):ay F w v (yu Q t x):=by
 unfold yu;split
 next cs=>
  cases h with
  |agg vs _ hl aO hc=>
   refine .agg vs _ (by rw[pK];exact hl) (λc fB=> ?_) (λi u c hu fB=> ?_)
   ·obtain⟨i,hi⟩:=zar fB;obtain⟨t',c0,h1,rfl⟩:=lP _ _ _ _ hi;exact vn (aO c0 (zao h1))
   obtain⟨t',c0,h1,rfl⟩:=lP _ _ _ _ fB;exact vj (hc i u c0 hu h1)
 ·exact vj h
 exact h
theorem jT{t:TypeId}{p:P}{s':S}{x:D}(hs:fE Q s t p=some (s',x)): ∃y,pe Q s p=some (s',y)/\(x=y\/x=yu Q t y):=by
 unfold fE at hs;split at hs
 ·exact⟨x,hs,.inl rfl⟩
 split at hs
 next s1 y h1=>rw[D.force_eq] at hs;simp at hs;obtain⟨rfl,rfl⟩:=hs;exact⟨y,h1,.inr rfl⟩
 cases hs
theorem lp(h:ar Q T F G w a s){t:TypeId}{p:P}{s':S}{x:D}(hs:fE Q s t p=some (s',x)){v:Value}(hv:ao F w G s.rg v p):
  ∃F',ar Q T F' G w a s'/\Ext (Own G s.rg) (Own G s'.rg) F F' w w/\Names G G s.rg s'.rg/\(∀b,F b->F' b)/\ay F' w v x:=by
 obtain⟨y,h1,h2⟩:=jT hs;obtain⟨F',f1,f2,f3,f4,f5⟩:=vi h h1 hv;refine⟨F',f1,f2,f3,f4,?_⟩;rcases h2 with rfl |rfl
 ·exact f5
 exact vo f5
end
end Pi
