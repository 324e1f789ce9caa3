/- The text PiEfOk2. -/
import Derived.Test.YtdgkdigdflkjhaaGreatDoorPiEfOk
namespace Pi
open Go
section
variable{Q:Program}{T:Tg}{F:Nat->Prop}{G:Nat->Value}{w:World}{a:Act}{s:S}
theorem S.fA{n e o}(he:lk s.rg n=some e):s.setObj n o={s with rg:=ins n ⟨e.aV,e.tag,o⟩ s.rg}:=by simp[S.setObj,he]
theorem aC.freeze(h:aC Q T F G w a s){n e ty fz}{es}(he:lk s.rg n=some e)(b8:e.obj= .arr ty fz es):
  ∃F',aC Q T F' G w a (s.setObj n (.arr ty true es))/\Ext (Own G s.rg) (Own G (s.setObj n (.arr ty true es)).rg) F F' w w/\Names G G s.rg (s.setObj n (.arr ty true es)).rg/\(∀b,aO (G n)=some b->F' b)/\(∀b,F b->F' b):=by
 rw[S.fA he];have hn:Names G G s.rg (ins n ⟨e.aV,e.tag,.arr ty true es⟩ s.rg):=by have:=ib (G:=G) (g1:=G n) (R:=s.rg) (n:=n) (e1:=⟨e.aV,e.tag,.arr ty true es⟩) (λe' cR=>by rw[he] at cR;cases cR;exact .inr ⟨rfl,λ_=>⟨by rw[b8];rfl,rfl⟩⟩);rwa [bV] at this
 have qk: ∀m e1,lk (ins n ⟨e.aV,e.tag,Obj.arr ty true es⟩ s.rg) m=some e1->(m=n/\e1=⟨e.aV,e.tag,.arr ty true es⟩)\/(n≠m/\lk s.rg m=some e1):=λm e1 h1=>by
  by_cases hm:n=m
  ·subst hm;rw[bE] at h1;cases h1;exact .inl ⟨rfl,rfl⟩
  rw[cc _ _ hm] at h1;exact .inr ⟨hm,h1⟩
 have hO:=h.rg n e he;rw[b8] at hO;have ya: ∀b,aO (G n)=some b->b<w.heap.size:=λb hb=>by
  rcases hO with⟨hg,_⟩| ⟨b',cap,cs,k,hg,hh,_⟩
  ·simp[hg,aO] at hb
  simp[hg,aO] at hb;subst hb;exact(zax.1 hh).1
 have fB: ∀b,aO (G n)=some b->F b\/bB (G n) e.obj=some b:=λb hb=>by
  rw[b8];cases fz with
  |false=>right;simp[bB,hb]
  |true=>
   left;rcases hO with⟨hg,_⟩| ⟨b',cap,cs,k,hg,hh,_,_,_,_,_,hf,_⟩
   ·simp[hg,aO] at hb
   simp[hg,aO] at hb;subst hb;exact hf rfl
 refine⟨λb=>F b\/aO (G n)=some b,⟨h.s7.Hc (λb hb=>hb.elim .inl λhb=>(fB b hb).imp id λh2=>⟨n,e,he,h2⟩) (λb hb=>by
  obtain⟨m,e1,h1,h2⟩:=hb;rcases qk m e1 h1 with⟨rfl,rfl⟩| ⟨_,h1⟩
  ·simp[bB] at h2
  exact⟨m,e1,h1,h2⟩),h.size,λt p hp=>(h.tm t p hp).mono (λ_ h=> .inl h) (λ_ _=>rfl) hn,?_,?_,?_,?_,?_,λb hb=>⟨.inl (h.z b hb).1,(h.z b hb).2⟩,h.dr,h.sz⟩,?_,hn,λb hb=> .inr hb,λb hb=> .inl hb⟩
 ·intro m e1 h1;rcases qk m e1 h1 with⟨rfl,rfl⟩| ⟨hm,h1⟩
  ·rcases hO with⟨hg,h0⟩| ⟨b',cap,cs,k,hg,hh,h1,h2,h3,h4,h5,h6,h7⟩
   ·exact .inl ⟨hg,h0⟩
   exact .inr ⟨b',cap,cs,k,hg,hh,h1,h2,h3,h4,h5,λ_=> .inr (by simp[hg,aO]),h7.mono (λ_ h=> .inl h) (λ_ _=>rfl)⟩
  exact(h.rg m e1 h1).mono (λ_ h=> .inl h) (λ_ _=>rfl) hn rfl (λ_ _=>rfl)
 ·intro m1 m2 e1 e2 b h1 h2 la cP;rcases qk m1 e1 h1 with⟨rfl,rfl⟩| ⟨Qs,LC⟩
  ·simp[bB] at la
  rcases qk m2 e2 h2 with⟨rfl,rfl⟩| ⟨H6,h2'⟩
  ·simp[bB] at cP
  exact h.own _ _ _ _ b LC h2' la cP
 ·intro m e1 b h1 hb Ct;rcases qk m e1 h1 with⟨rfl,rfl⟩| ⟨hm,h1⟩
  ·simp[bB] at hb
  rcases Ct with Ct |Ct
  ·exact h.nA m e1 b h1 hb Ct
  rcases fB b Ct with h2 |h2
  ·exact h.nA m e1 b h1 hb h2
  exact hm (h.own _ _ _ _ b he h1 h2 hb)
 ·intro b hb;rcases hb with hb |hb
  ·exact h.jE b hb
  exact ya b hb
 ·intro m e1 i h1 hi hl;rcases qk m e1 h1 with⟨rfl,rfl⟩| ⟨hm,h1⟩
  ·exact h.tag _ e i he hi (by rw[b8];rfl)
  exact h.tag m e1 i h1 hi hl
 refine⟨λ_ h=> .inl h,?_,?_,λ_ _ _=>rfl,zal _,rfl,rfl,rfl⟩
 ·intro b hb;rcases hb with hb |hb
  ·exact .inl hb
  rcases fB b hb with h2 |h2
  ·exact .inl h2
  exact .inr (.inl ⟨n,e,he,h2⟩)
 rintro b ⟨m,e1,h1,hb⟩;rcases qk m e1 h1 with⟨rfl,rfl⟩| ⟨hm,h1⟩
 ·simp[bB] at hb
 exact .inl ⟨m,e1,h1,hb⟩
theorem yE(h:aC Q T F G w a s){p s' x}(hs:qu Q s p=some (s',x)){v}(hv:aH F w G s.rg v p):
  ∃F',aC Q T F' G w a s'/\Ext (Own G s.rg) (Own G s'.rg) F F' w w/\Names G G s.rg s'.rg/\(∀b,F b->F' b)/\aY F' w v x:=by
 unfold qu at hs;split at hs
 ·simp at hs;obtain⟨rfl,rfl⟩:=hs;cases hv with |d hv=>exact⟨F,h,Ext.refl _ _ _,Names.refl _ _,λ_ h=>h,hv⟩
 next n aV len=>
  split at hs
  next ty fz es ho=>
   obtain⟨e,he,eb,b8⟩:=S.bM ho;split at hs
   ·rename_i k hk;simp at hs;obtain⟨rfl,rfl⟩:=hs;cases hv with
    |sl _ _ _ _ h1 hr=>obtain⟨F',f1,f2,f3,f4,f5⟩:=h.freeze he b8;refine⟨F',f1,f2,f3,f5,?_⟩;have hO:=h.rg n e he;rw[b8] at hO;exact wZ (s:=s) hO hk (hr.at he eb (by rw[b8];rfl)) f4 f5
   cases hs
  cases hs
 next n aV k0 off len=>
  split at hs
  next ty fz es ho=>
   obtain⟨e,he,eb,b8⟩:=S.bM ho;split at hs
   ·rename_i k hk;split at hs
    ·rename_i kj;have kj:=zag kj;subst kj;simp at hs;obtain⟨rfl,rfl⟩:=hs;cases hv with
     |mG _ _ _ _ _ _ h1 hr=>obtain⟨F',f1,f2,f3,f4,f5⟩:=h.freeze he b8;refine⟨F',f1,f2,f3,f5,?_⟩;have hO:=h.rg n e he;rw[b8] at hO;exact Fa (s:=s) hO hk (hr.at he eb (by rw[b8];rfl)) f4 f5
    cases hs
   cases hs
  cases hs
 cases hs
theorem aY.up{F F' v x}(h:aY F w v x)(hF: ∀b,F b->F' b):aY F' w v x:=h.mono hF (λ_ _=>rfl)
theorem NT: ∀(ps:List P) (s:S) (F:Nat->Prop) (s':S) (xs:List D) (vs:List Value),aC Q T F G w a s->rV Q s ps=some (s',xs)->vs.length=ps.length->
  (∀(i:Nat) (v:Value) (c:P),vs[i]?=some v->ps[i]?=some c->aH F w G s.rg v c)->
  ∃F',aC Q T F' G w a s'/\Ext (Own G s.rg) (Own G s'.rg) F F' w w/\Names G G s.rg s'.rg/\(∀b,F b->F' b)/\vs.length=xs.length/\ ∀(i:Nat) (v:Value) (c:D),vs[i]?=some v->xs[i]?=some c->aY F' w v c
 | [],s,F,s',xs,vs,h,hs,hl,hv=>by simp[rV] at hs;obtain⟨rfl,rfl⟩:=hs;exact⟨F,h,Ext.refl _ _ _,Names.refl _ _,λ_ h=>h,hl,λi v c _ hc=>by simp at hc⟩
 |p::ps,s,F,s',xs,vs,h,hs,hl,hv=>by
  cases vs with
  |nil=>simp at hl
  |cons v vs=>
   simp only[rV] at hs;split at hs
   ·cases hs
   rename_i s1 x h1;split at hs
   ·rename_i s2 xs2 h2;simp at hs;obtain⟨rfl,rfl⟩:=hs;obtain⟨F1,a1,a2,a3,a4,a5⟩:=yE h h1 (hv 0 v p (by simp) (by simp));obtain⟨F2,b1,b2,b3,b4,b5,b6⟩:=NT ps s1 F1 s2 xs2 vs a1 h2 (by simpa using hl)
     (λi u c hu hc=>(hv (i+1) u c (by simpa using hu) (by simpa using hc)).mono a4 (λ_ _=>rfl) a3)
    refine⟨F2,b1,a2.trans b2,a3.trans b3,λb hb=>b4 b (a4 b hb),by simpa using b5,λi u c hu hc=> ?_⟩;cases i with
    |zero=>simp at hu hc;subst hu;subst hc;exact a5.up b4
    |succ i=>exact b6 i u c (by simpa using hu) (by simpa using hc)
   cases hs
theorem T2(h:aC Q T F G w a s){p s' x}(hs:Hc Q s p=some (s',x)){v}(hv:aH F w G s.rg v p):
  ∃F',aC Q T F' G w a s'/\Ext (Own G s.rg) (Own G s'.rg) F F' w w/\Names G G s.rg s'.rg/\(∀b,F b->F' b)/\aY F' w v x:=by
 unfold Hc at hs;split at hs
 next ps=>
  split at hs
  next s1 xs h1=>
   simp at hs;obtain⟨rfl,rfl⟩:=hs;cases hv with
   |agg vs _ hl jk hc=>
    obtain⟨F',f1,f2,f3,f4,f5,f6⟩:=NT ps s F s1 xs vs h h1 hl hc;exact⟨F',f1,f2,f3,f4,.agg vs xs f5 (λc lF=>by
     obtain⟨i,hi⟩:=zaV lF;have bK:i<vs.length:=by have:=(zae.1 hi).1;omega
     exact(f6 i _ c (zad bK) hi).bL (jk _ (zas bK))) f6⟩
  cases hs
 exact yE h hs hv
theorem T3{t v x}(h:aY F w v x):aY F w v (nzC Q t x):=by
 cases t with
 |none=>exact h
 |some e=>
  unfold nzC;simp only;split
  ·split
   ·cases h;exact .Qf none _ 0
   exact h
  exact h
theorem T4{t x}(h:x.bL=true):(nzC Q t x).bL=true:=by
 cases t with
 |none=>exact h
 |some e=>
  unfold nzC;simp only;split
  ·split<;>rfl
  exact h
theorem H7: ∀ts cs,(HS Q ts cs).length=cs.length
 | [],cs=>by cases cs<;>rfl
 |_::_,[]=>rfl
 |t::ts,c::cs=>by simp[HS,H7 ts cs]
theorem zN: ∀(ts:List (Option TypeId)) (cs:List D) (i:Nat) (c:D),(HS Q ts cs)[i]?=some c-> ∃t c0,cs[i]?=some c0/\c=nzC Q t c0
 | [],cs,i,c,h=>⟨none,c,by cases cs<;>exact h,rfl⟩
 |_::_,[],i,c,h=>by simp[HS] at h
 |t::ts,c0::cs,0,c,h=>by simp[HS] at h;exact⟨t,c0,rfl,h.symm⟩
 |t::ts,c0::cs,i+1,c,h=>by simp only[HS,zcK] at h;exact zN ts cs i c h
theorem T5{t v x}(h:aY F w v x):aY F w v (nzD Q t x):=by
 unfold nzD;split
 next cs=>
  cases h with
  |agg vs _ hl cm hc=>
   refine .agg vs _ (by rw[H7];exact hl) (λc lF=> ?_) (λi u c hu lF=> ?_)
   ·obtain⟨i,hi⟩:=zaV lF;obtain⟨t',c0,h1,rfl⟩:=zN _ _ _ _ hi;exact T4 (cm c0 (zaA h1))
   obtain⟨t',c0,h1,rfl⟩:=zN _ _ _ _ lF;exact T3 (hc i u c0 hu h1)
 ·exact T3 h
 exact h
theorem vY{t p s' x}(hs:oW Q s t p=some (s',x)): ∃y,Hc Q s p=some (s',y)/\(x=y\/x=nzD Q t y):=by
 unfold oW at hs;split at hs
 ·exact⟨x,hs,.inl rfl⟩
 split at hs
 next s1 y h1=>rw[D.force_eq] at hs;simp at hs;obtain⟨rfl,rfl⟩:=hs;exact⟨y,h1,.inr rfl⟩
 cases hs
theorem yF(h:aC Q T F G w a s){t p s' x}(hs:oW Q s t p=some (s',x)){v}(hv:aH F w G s.rg v p):
  ∃F',aC Q T F' G w a s'/\Ext (Own G s.rg) (Own G s'.rg) F F' w w/\Names G G s.rg s'.rg/\(∀b,F b->F' b)/\aY F' w v x:=by
 obtain⟨y,h1,h2⟩:=vY hs;obtain⟨F',f1,f2,f3,f4,f5⟩:=T2 h h1 hv;refine⟨F',f1,f2,f3,f4,?_⟩;rcases h2 with rfl |rfl
 ·exact f5
 exact T5 f5
end
end Pi
