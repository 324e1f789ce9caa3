/- The text PiEfOk2. -/
import Derived.Test.YtfelfooeclnbiaaPiEfOk
namespace Pi
open Go
section
variable{Q:Program}{T:Tg}{F:Nat->Prop}{G:Nat->Value}{w:World}{a:Act}{s:S}
theorem S.cT{n:Nat}{e:En}{o:Obj}(he:lk s.rg n=some e):s.setObj n o={s with rg:=ins n ⟨e.ay,e.tag,o⟩ s.rg}:=by simp[S.setObj,he]
theorem ar.freeze(h:ar Q T F G w a s){n:Nat}{e:En}{ty:TypeId}{fz:Bool}{es:List D}(he:lk s.rg n=some e)(aO:e.obj= .arr ty fz es):
  ∃F',ar Q T F' G w a (s.setObj n (.arr ty true es))/\Ext (Own G s.rg) (Own G (s.setObj n (.arr ty true es)).rg) F F' w w/\Names G G s.rg (s.setObj n (.arr ty true es)).rg/\(∀b,au (G n)=some b->F' b)/\(∀b,F b->F' b):=by
 rw[S.cT he];have hn:Names G G s.rg (ins n ⟨e.ay,e.tag,.arr ty true es⟩ s.rg):=by have:=cz (G:=G) (g1:=G n) (R:=s.rg) (n:=n) (e1:=⟨e.ay,e.tag,.arr ty true es⟩) (λe' bb=>by rw[he] at bb;cases bb;exact .inr ⟨rfl,λ_=>⟨by rw[aO];rfl,rfl⟩⟩);rwa [aN] at this
 have gM: ∀m e1,lk (ins n ⟨e.ay,e.tag,Obj.arr ty true es⟩ s.rg) m=some e1->(m=n/\e1=⟨e.ay,e.tag,.arr ty true es⟩)\/(n≠m/\lk s.rg m=some e1):=λm e1 h1=>by
  by_cases hm:n=m
  ·subst hm;rw[aK] at h1;cases h1;exact .inl ⟨rfl,rfl⟩
  rw[aS _ _ hm] at h1;exact .inr ⟨hm,h1⟩
 have hO:=h.rg n e he;rw[aO] at hO;have qz: ∀b,au (G n)=some b->b<w.heap.size:=λb hb=>by
  rcases hO with⟨hg,_⟩| ⟨b',cap,cs,k,hg,hh,_⟩
  ·simp[hg,au] at hb
  simp[hg,au] at hb;subst hb;exact(zan.1 hh).1
 have cA: ∀b,au (G n)=some b->F b\/aH (G n) e.obj=some b:=λb hb=>by
  rw[aO];cases fz with
  |false=>right;simp[aH,hb]
  |true=>
   left;rcases hO with⟨hg,_⟩| ⟨b',cap,cs,k,hg,hh,_,_,_,_,_,hf,_⟩
   ·simp[hg,au] at hb
   simp[hg,au] at hb;subst hb;exact hf rfl
 refine⟨λb=>F b\/au (G n)=some b,⟨h.r4.qc (λb hb=>hb.elim .inl λhb=>(cA b hb).imp id λh2=>⟨n,e,he,h2⟩) (λb hb=>by
  obtain⟨m,e1,h1,h2⟩:=hb;rcases gM m e1 h1 with⟨rfl,rfl⟩| ⟨_,h1⟩
  ·simp[aH] at h2
  exact⟨m,e1,h1,h2⟩),h.size,λt p hp=>(h.tm t p hp).mono (λ_ h=> .inl h) (λ_ _=>rfl) hn,?_,?_,?_,?_,?_,λb hb=>⟨.inl (h.z b hb).1,(h.z b hb).2⟩,h.dr,h.sz⟩,?_,hn,λb hb=> .inr hb,λb hb=> .inl hb⟩
 ·intro m e1 h1;rcases gM m e1 h1 with⟨rfl,rfl⟩| ⟨hm,h1⟩
  ·rcases hO with⟨hg,h0⟩| ⟨b',cap,cs,k,hg,hh,h1,h2,h3,h4,h5,h6,h7⟩
   ·exact .inl ⟨hg,h0⟩
   exact .inr ⟨b',cap,cs,k,hg,hh,h1,h2,h3,h4,h5,λ_=> .inr (by simp[hg,au]),h7.mono (λ_ h=> .inl h) (λ_ _=>rfl)⟩
  exact(h.rg m e1 h1).mono (λ_ h=> .inl h) (λ_ _=>rfl) hn rfl (λ_ _=>rfl)
 ·intro m1 m2 e1 e2 b h1 h2 k7 js;rcases gM m1 e1 h1 with⟨rfl,rfl⟩| ⟨tH,BQ⟩
  ·simp[aH] at k7
  rcases gM m2 e2 h2 with⟨rfl,rfl⟩| ⟨uE,Ew⟩
  ·simp[aH] at js
  exact h.own _ _ _ _ b BQ Ew k7 js
 ·intro m e1 b h1 hb nN;rcases gM m e1 h1 with⟨rfl,rfl⟩| ⟨hm,h1⟩
  ·simp[aH] at hb
  rcases nN with nN |nN
  ·exact h.iO m e1 b h1 hb nN
  rcases cA b nN with h2 |h2
  ·exact h.iO m e1 b h1 hb h2
  exact hm (h.own _ _ _ _ b he h1 h2 hb)
 ·intro b hb;rcases hb with hb |hb
  ·exact h.gK b hb
  exact qz b hb
 ·intro m e1 i h1 hi hl;rcases gM m e1 h1 with⟨rfl,rfl⟩| ⟨hm,h1⟩
  ·exact h.tag _ e i he hi (by rw[aO];rfl)
  exact h.tag m e1 i h1 hi hl
 refine⟨λ_ h=> .inl h,?_,?_,λ_ _ _=>rfl,zaf _,rfl,rfl,rfl⟩
 ·intro b hb;rcases hb with hb |hb
  ·exact .inl hb
  rcases cA b hb with h2 |h2
  ·exact .inl h2
  exact .inr (.inl ⟨n,e,he,h2⟩)
 rintro b ⟨m,e1,h1,hb⟩;rcases gM m e1 h1 with⟨rfl,rfl⟩| ⟨hm,h1⟩
 ·simp[aH] at hb
 exact .inl ⟨m,e1,h1,hb⟩
theorem lX(h:ar Q T F G w a s){p:P}{s':S}{x:D}(hs:gP Q s p=some (s',x)){v:Value}(hv:ao F w G s.rg v p):
  ∃F',ar Q T F' G w a s'/\Ext (Own G s.rg) (Own G s'.rg) F F' w w/\Names G G s.rg s'.rg/\(∀b,F b->F' b)/\az F' w v x:=by
 unfold gP at hs;split at hs
 ·simp at hs;obtain⟨rfl,rfl⟩:=hs;cases hv with |d hv=>exact⟨F,h,Ext.refl _ _ _,Names.refl _ _,λ_ h=>h,hv⟩
 next n ay len=>
  split at hs
  next ty fz es ho=>
   obtain⟨e,he,bP,aO⟩:=S.aJ ho;split at hs
   ·rename_i k hk;simp at hs;obtain⟨rfl,rfl⟩:=hs;cases hv with
    |sl _ _ _ _ h1 hr=>obtain⟨F',f1,f2,f3,f4,f5⟩:=h.freeze he aO;refine⟨F',f1,f2,f3,f5,?_⟩;have hO:=h.rg n e he;rw[aO] at hO;exact kY (s:=s) hO hk (hr.at he bP (by rw[aO];rfl)) f4 f5
   cases hs
  cases hs
 next n ay k0 off len=>
  split at hs
  next ty fz es ho=>
   obtain⟨e,he,bP,aO⟩:=S.aJ ho;split at hs
   ·rename_i k hk;split at hs
    ·rename_i dT;have dT:=zab dT;subst dT;simp at hs;obtain⟨rfl,rfl⟩:=hs;cases hv with
     |eZ _ _ _ _ _ _ h1 hr=>obtain⟨F',f1,f2,f3,f4,f5⟩:=h.freeze he aO;refine⟨F',f1,f2,f3,f5,?_⟩;have hO:=h.rg n e he;rw[aO] at hO;exact pn (s:=s) hO hk (hr.at he bP (by rw[aO];rfl)) f4 f5
    cases hs
   cases hs
  cases hs
 cases hs
theorem az.up{F F':Nat->Prop}{v:Value}{x:D}(h:az F w v x)(hF: ∀b,F b->F' b):az F' w v x:=h.mono hF (λ_ _=>rfl)
theorem tJ: ∀(ps:List P) (s:S) (F:Nat->Prop) (s':S) (xs:List D) (vs:List Value),ar Q T F G w a s->iK Q s ps=some (s',xs)->vs.length=ps.length->
  (∀(i:Nat) (v:Value) (c:P),vs[i]?=some v->ps[i]?=some c->ao F w G s.rg v c)->
  ∃F',ar Q T F' G w a s'/\Ext (Own G s.rg) (Own G s'.rg) F F' w w/\Names G G s.rg s'.rg/\(∀b,F b->F' b)/\vs.length=xs.length/\ ∀(i:Nat) (v:Value) (c:D),vs[i]?=some v->xs[i]?=some c->az F' w v c
 | [],s,F,s',xs,vs,h,hs,hl,hv=>by simp[iK] at hs;obtain⟨rfl,rfl⟩:=hs;exact⟨F,h,Ext.refl _ _ _,Names.refl _ _,λ_ h=>h,hl,λi v c _ hc=>by simp at hc⟩
 |p::ps,s,F,s',xs,vs,h,hs,hl,hv=>by
  cases vs with
  |nil=>simp at hl
  |cons v vs=>
   simp only[iK] at hs;split at hs
   ·cases hs
   rename_i s1 x h1;split at hs
   ·rename_i s2 Az h2;simp at hs;obtain⟨rfl,rfl⟩:=hs;obtain⟨F1,a1,a2,a3,a4,a5⟩:=lX h h1 (hv 0 v p (by simp) (by simp));obtain⟨F2,b1,b2,b3,b4,b5,b6⟩:=tJ ps s1 F1 s2 Az vs a1 h2 (by simpa using hl)
     (λi u c hu hc=>(hv (i+1) u c (by simpa using hu) (by simpa using hc)).mono a4 (λ_ _=>rfl) a3)
    refine⟨F2,b1,a2.trans b2,a3.trans b3,λb hb=>b4 b (a4 b hb),by simpa using b5,λi u c hu hc=> ?_⟩;cases i with
    |zero=>simp at hu hc;subst hu;subst hc;exact a5.up b4
    |succ i=>exact b6 i u c (by simpa using hu) (by simpa using hc)
   cases hs
theorem wN(h:ar Q T F G w a s){p:P}{s':S}{x:D}(hs:qc Q s p=some (s',x)){v:Value}(hv:ao F w G s.rg v p):
  ∃F',ar Q T F' G w a s'/\Ext (Own G s.rg) (Own G s'.rg) F F' w w/\Names G G s.rg s'.rg/\(∀b,F b->F' b)/\az F' w v x:=by
 unfold qc at hs;split at hs
 next ps=>
  split at hs
  next s1 xs h1=>
   simp at hs;obtain⟨rfl,rfl⟩:=hs;cases hv with
   |agg vs _ hl cW hc=>
    obtain⟨F',f1,f2,f3,f4,f5,f6⟩:=tJ ps s F s1 xs vs h h1 hl hc;exact⟨F',f1,f2,f3,f4,.agg vs xs f5 (λc fQ=>by
     obtain⟨i,hi⟩:=zas fQ;have bA:i<vs.length:=by have:=(zaa.1 hi).1;omega
     exact(f6 i _ c (zad bA) hi).aF (cW _ (zal bA))) f6⟩
  cases hs
 exact lX h hs hv
theorem wO{t:Option TypeId}{v:Value}{x:D}(h:az F w v x):az F w v (Au Q t x):=by
 cases t with
 |none=>exact h
 |some e=>
  unfold Au;simp only;split
  ·split
   ·cases h;exact .ur none _ 0
   exact h
  exact h
theorem wP{t:Option TypeId}{x:D}(h:x.aF=true):(Au Q t x).aF=true:=by
 cases t with
 |none=>exact h
 |some e=>
  unfold Au;simp only;split
  ·split<;>rfl
  exact h
theorem qA: ∀(ts:List (Option TypeId)) (cs:List D),(qi Q ts cs).length=cs.length
 | [],cs=>by cases cs<;>rfl
 |_::_,[]=>rfl
 |t::ts,c::cs=>by simp[qi,qA ts cs]
theorem mx: ∀(ts:List (Option TypeId)) (cs:List D) (i:Nat) (c:D),(qi Q ts cs)[i]?=some c-> ∃(t:Option TypeId) (c0:D),cs[i]?=some c0/\c=Au Q t c0
 | [],cs,i,c,h=>⟨none,c,by cases cs<;>exact h,rfl⟩
 |_::_,[],i,c,h=>by simp[qi] at h
 |t::ts,c0::cs,0,c,h=>by simp[qi] at h;exact⟨t,c0,rfl,h.symm⟩
 |t::ts,c0::cs,i+1,c,h=>by simp only[qi,zbC] at h;exact mx ts cs i c h
theorem wQ{t:TypeId}{v:Value}{x:D}(h:az F w v x):az F w v (Av Q t x):=by
 unfold Av;split
 next cs=>
  cases h with
  |agg vs _ hl aP hc=>
   refine .agg vs _ (by rw[qA];exact hl) (λc fQ=> ?_) (λi u c hu fQ=> ?_)
   ·obtain⟨i,hi⟩:=zas fQ;obtain⟨t',c0,h1,rfl⟩:=mx _ _ _ _ hi;exact wP (aP c0 (zaq h1))
   obtain⟨t',c0,h1,rfl⟩:=mx _ _ _ _ fQ;exact wO (hc i u c0 hu h1)
 ·exact wO h
 exact h
theorem kF{t:TypeId}{p:P}{s':S}{x:D}(hs:fU Q s t p=some (s',x)): ∃y,qc Q s p=some (s',y)/\(x=y\/x=Av Q t y):=by
 unfold fU at hs;split at hs
 ·exact⟨x,hs,.inl rfl⟩
 split at hs
 next s1 y h1=>rw[D.force_eq] at hs;simp at hs;obtain⟨rfl,rfl⟩:=hs;exact⟨y,h1,.inr rfl⟩
 cases hs
theorem lY(h:ar Q T F G w a s){t:TypeId}{p:P}{s':S}{x:D}(hs:fU Q s t p=some (s',x)){v:Value}(hv:ao F w G s.rg v p):
  ∃F',ar Q T F' G w a s'/\Ext (Own G s.rg) (Own G s'.rg) F F' w w/\Names G G s.rg s'.rg/\(∀b,F b->F' b)/\az F' w v x:=by
 obtain⟨y,h1,h2⟩:=kF hs;obtain⟨F',f1,f2,f3,f4,f5⟩:=wN h h1 hv;refine⟨F',f1,f2,f3,f4,?_⟩;rcases h2 with rfl |rfl
 ·exact f5
 exact wQ f5
end
end Pi
