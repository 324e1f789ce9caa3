/- The text PiEfOk2. -/
import Derived.Test.YtfelfooeclnbiaaPiEfOk
namespace Pi
open Go
section
variable{Q:Program}{T:Tg}{F:Nat->Prop}{G:Nat->Value}{w:World}{a:Act}{s:S}
theorem S.cP{n:Nat}{e:En}{o:Obj}(he:lk s.rg n=some e):s.setObj n o={s with rg:=ins n ⟨e.aw,e.tag,o⟩ s.rg}:=by simp[S.setObj,he]
theorem aq.freeze(h:aq Q T F G w a s){n:Nat}{e:En}{ty:TypeId}{fz:Bool}{es:List D}(he:lk s.rg n=some e)(aO:e.obj= .arr ty fz es):
  ∃F',aq Q T F' G w a (s.setObj n (.arr ty true es))/\Ext (Own G s.rg) (Own G (s.setObj n (.arr ty true es)).rg) F F' w w/\Names G G s.rg (s.setObj n (.arr ty true es)).rg/\(∀b,ar (G n)=some b->F' b)/\(∀b,F b->F' b):=by
 rw[S.cP he];have hn:Names G G s.rg (ins n ⟨e.aw,e.tag,.arr ty true es⟩ s.rg):=by have:=cw (G:=G) (g1:=G n) (R:=s.rg) (n:=n) (e1:=⟨e.aw,e.tag,.arr ty true es⟩) (λe' a7=>by rw[he] at a7;cases a7;exact .inr ⟨rfl,λ_=>⟨by rw[aO];rfl,rfl⟩⟩);rwa [aM] at this
 have gS: ∀m e1,lk (ins n ⟨e.aw,e.tag,Obj.arr ty true es⟩ s.rg) m=some e1->(m=n/\e1=⟨e.aw,e.tag,.arr ty true es⟩)\/(n≠m/\lk s.rg m=some e1):=λm e1 h1=>by
  by_cases hm:n=m
  ·subst hm;rw[aJ] at h1;cases h1;exact .inl ⟨rfl,rfl⟩
  rw[aR _ _ hm] at h1;exact .inr ⟨hm,h1⟩
 have hO:=h.rg n e he;rw[aO] at hO;have qQ: ∀b,ar (G n)=some b->b<w.heap.size:=λb hb=>by
  rcases hO with⟨hg,_⟩| ⟨b',cap,cs,k,hg,hh,_⟩
  ·simp[hg,ar] at hb
  simp[hg,ar] at hb;subst hb;exact(zal.1 hh).1
 have cx: ∀b,ar (G n)=some b->F b\/aG (G n) e.obj=some b:=λb hb=>by
  rw[aO];cases fz with
  |false=>right;simp[aG,hb]
  |true=>
   left;rcases hO with⟨hg,_⟩| ⟨b',cap,cs,k,hg,hh,_,_,_,_,_,hf,_⟩
   ·simp[hg,ar] at hb
   simp[hg,ar] at hb;subst hb;exact hf rfl
 refine⟨λb=>F b\/ar (G n)=some b,⟨h.si.qj (λb hb=>hb.elim .inl λhb=>(cx b hb).imp id λh2=>⟨n,e,he,h2⟩) (λb hb=>by
  obtain⟨m,e1,h1,h2⟩:=hb;rcases gS m e1 h1 with⟨rfl,rfl⟩| ⟨_,h1⟩
  ·simp[aG] at h2
  exact⟨m,e1,h1,h2⟩),h.size,λt p hp=>(h.tm t p hp).mono (λ_ h=> .inl h) (λ_ _=>rfl) hn,?_,?_,?_,?_,?_,λb hb=>⟨.inl (h.z b hb).1,(h.z b hb).2⟩,h.dr,h.sz⟩,?_,hn,λb hb=> .inr hb,λb hb=> .inl hb⟩
 ·intro m e1 h1;rcases gS m e1 h1 with⟨rfl,rfl⟩| ⟨hm,h1⟩
  ·rcases hO with⟨hg,h0⟩| ⟨b',cap,cs,k,hg,hh,h1,h2,h3,h4,h5,h6,h7⟩
   ·exact .inl ⟨hg,h0⟩
   exact .inr ⟨b',cap,cs,k,hg,hh,h1,h2,h3,h4,h5,λ_=> .inr (by simp[hg,ar]),h7.mono (λ_ h=> .inl h) (λ_ _=>rfl)⟩
  exact(h.rg m e1 h1).mono (λ_ h=> .inl h) (λ_ _=>rfl) hn rfl (λ_ _=>rfl)
 ·intro m1 m2 e1 e2 b h1 h2 lh ja;rcases gS m1 e1 h1 with⟨rfl,rfl⟩| ⟨rV,Ce⟩
  ·simp[aG] at lh
  rcases gS m2 e2 h2 with⟨rfl,rfl⟩| ⟨uG,Fa⟩
  ·simp[aG] at ja
  exact h.own _ _ _ _ b Ce Fa lh ja
 ·intro m e1 b h1 hb nU;rcases gS m e1 h1 with⟨rfl,rfl⟩| ⟨hm,h1⟩
  ·simp[aG] at hb
  rcases nU with nU |nU
  ·exact h.iY m e1 b h1 hb nU
  rcases cx b nU with h2 |h2
  ·exact h.iY m e1 b h1 hb h2
  exact hm (h.own _ _ _ _ b he h1 h2 hb)
 ·intro b hb;rcases hb with hb |hb
  ·exact h.gQ b hb
  exact qQ b hb
 ·intro m e1 i h1 hi hl;rcases gS m e1 h1 with⟨rfl,rfl⟩| ⟨hm,h1⟩
  ·exact h.tag _ e i he hi (by rw[aO];rfl)
  exact h.tag m e1 i h1 hi hl
 refine⟨λ_ h=> .inl h,?_,?_,λ_ _ _=>rfl,zaf _,rfl,rfl,rfl⟩
 ·intro b hb;rcases hb with hb |hb
  ·exact .inl hb
  rcases cx b hb with h2 |h2
  ·exact .inl h2
  exact .inr (.inl ⟨n,e,he,h2⟩)
 rintro b ⟨m,e1,h1,hb⟩;rcases gS m e1 h1 with⟨rfl,rfl⟩| ⟨hm,h1⟩
 ·simp[aG] at hb
 exact .inl ⟨m,e1,h1,hb⟩
theorem l6(h:aq Q T F G w a s){p:P}{s':S}{x:D}(hs:gW Q s p=some (s',x)){v:Value}(hv:ak F w G s.rg v p):
  ∃F',aq Q T F' G w a s'/\Ext (Own G s.rg) (Own G s'.rg) F F' w w/\Names G G s.rg s'.rg/\(∀b,F b->F' b)/\ax F' w v x:=by
 unfold gW at hs;split at hs
 ·simp at hs;obtain⟨rfl,rfl⟩:=hs;cases hv with |d hv=>exact⟨F,h,Ext.refl _ _ _,Names.refl _ _,λ_ h=>h,hv⟩
 next n aw len=>
  split at hs
  next ty fz es ho=>
   obtain⟨e,he,bM,aO⟩:=S.aI ho;split at hs
   ·rename_i k hk;simp at hs;obtain⟨rfl,rfl⟩:=hs;cases hv with
    |sl _ _ _ _ h1 hr=>obtain⟨F',f1,f2,f3,f4,f5⟩:=h.freeze he aO;refine⟨F',f1,f2,f3,f5,?_⟩;have hO:=h.rg n e he;rw[aO] at hO;exact ld (s:=s) hO hk (hr.at he bM (by rw[aO];rfl)) f4 f5
   cases hs
  cases hs
 next n aw k0 off len=>
  split at hs
  next ty fz es ho=>
   obtain⟨e,he,bM,aO⟩:=S.aI ho;split at hs
   ·rename_i k hk;split at hs
    ·rename_i dS;have dS:=zab dS;subst dS;simp at hs;obtain⟨rfl,rfl⟩:=hs;cases hv with
     |e9 _ _ _ _ _ _ h1 hr=>obtain⟨F',f1,f2,f3,f4,f5⟩:=h.freeze he aO;refine⟨F',f1,f2,f3,f5,?_⟩;have hO:=h.rg n e he;rw[aO] at hO;exact py (s:=s) hO hk (hr.at he bM (by rw[aO];rfl)) f4 f5
    cases hs
   cases hs
  cases hs
 cases hs
theorem ax.up{F F':Nat->Prop}{v:Value}{x:D}(h:ax F w v x)(hF: ∀b,F b->F' b):ax F' w v x:=h.mono hF (λ_ _=>rfl)
theorem tS: ∀(ps:List P) (s:S) (F:Nat->Prop) (s':S) (xs:List D) (vs:List Value),aq Q T F G w a s->iV Q s ps=some (s',xs)->vs.length=ps.length->
  (∀(i:Nat) (v:Value) (c:P),vs[i]?=some v->ps[i]?=some c->ak F w G s.rg v c)->
  ∃F',aq Q T F' G w a s'/\Ext (Own G s.rg) (Own G s'.rg) F F' w w/\Names G G s.rg s'.rg/\(∀b,F b->F' b)/\vs.length=xs.length/\ ∀(i:Nat) (v:Value) (c:D),vs[i]?=some v->xs[i]?=some c->ax F' w v c
 | [],s,F,s',xs,vs,h,hs,hl,hv=>by simp[iV] at hs;obtain⟨rfl,rfl⟩:=hs;exact⟨F,h,Ext.refl _ _ _,Names.refl _ _,λ_ h=>h,hl,λi v c _ hc=>by simp at hc⟩
 |p::ps,s,F,s',xs,vs,h,hs,hl,hv=>by
  cases vs with
  |nil=>simp at hl
  |cons v vs=>
   simp only[iV] at hs;split at hs
   ·cases hs
   rename_i s1 x h1;split at hs
   ·rename_i s2 AU h2;simp at hs;obtain⟨rfl,rfl⟩:=hs;obtain⟨F1,a1,a2,a3,a4,a5⟩:=l6 h h1 (hv 0 v p (by simp) (by simp));obtain⟨F2,b1,b2,b3,b4,b5,b6⟩:=tS ps s1 F1 s2 AU vs a1 h2 (by simpa using hl)
     (λi u c hu hc=>(hv (i+1) u c (by simpa using hu) (by simpa using hc)).mono a4 (λ_ _=>rfl) a3)
    refine⟨F2,b1,a2.trans b2,a3.trans b3,λb hb=>b4 b (a4 b hb),by simpa using b5,λi u c hu hc=> ?_⟩;cases i with
    |zero=>simp at hu hc;subst hu;subst hc;exact a5.up b4
    |succ i=>exact b6 i u c (by simpa using hu) (by simpa using hc)
   cases hs
theorem wO(h:aq Q T F G w a s){p:P}{s':S}{x:D}(hs:qj Q s p=some (s',x)){v:Value}(hv:ak F w G s.rg v p):
  ∃F',aq Q T F' G w a s'/\Ext (Own G s.rg) (Own G s'.rg) F F' w w/\Names G G s.rg s'.rg/\(∀b,F b->F' b)/\ax F' w v x:=by
 unfold qj at hs;split at hs
 next ps=>
  split at hs
  next s1 xs h1=>
   simp at hs;obtain⟨rfl,rfl⟩:=hs;cases hv with
   |agg vs _ hl cS hc=>
    obtain⟨F',f1,f2,f3,f4,f5,f6⟩:=tS ps s F s1 xs vs h h1 hl hc;exact⟨F',f1,f2,f3,f4,.agg vs xs f5 (λc fT=>by
     obtain⟨i,hi⟩:=zaq fT;have bu:i<vs.length:=by have:=(zaa.1 hi).1;omega
     exact(f6 i _ c (zad bu) hi).aF (cS _ (zaH bu))) f6⟩
  cases hs
 exact l6 h hs hv
theorem wP{t:Option TypeId}{v:Value}{x:D}(h:ax F w v x):ax F w v (AO Q t x):=by
 cases t with
 |none=>exact h
 |some e=>
  unfold AO;simp only;split
  ·split
   ·cases h;exact .uu none _ 0
   exact h
  exact h
theorem wQ{t:Option TypeId}{x:D}(h:x.aF=true):(AO Q t x).aF=true:=by
 cases t with
 |none=>exact h
 |some e=>
  unfold AO;simp only;split
  ·split<;>rfl
  exact h
theorem qR: ∀(ts:List (Option TypeId)) (cs:List D),(qB Q ts cs).length=cs.length
 | [],cs=>by cases cs<;>rfl
 |_::_,[]=>rfl
 |t::ts,c::cs=>by simp[qB,qR ts cs]
theorem mG: ∀(ts:List (Option TypeId)) (cs:List D) (i:Nat) (c:D),(qB Q ts cs)[i]?=some c-> ∃(t:Option TypeId) (c0:D),cs[i]?=some c0/\c=AO Q t c0
 | [],cs,i,c,h=>⟨none,c,by cases cs<;>exact h,rfl⟩
 |_::_,[],i,c,h=>by simp[qB] at h
 |t::ts,c0::cs,0,c,h=>by simp[qB] at h;exact⟨t,c0,rfl,h.symm⟩
 |t::ts,c0::cs,i+1,c,h=>by simp only[qB,zbv] at h;exact mG ts cs i c h
theorem wR{t:TypeId}{v:Value}{x:D}(h:ax F w v x):ax F w v (AP Q t x):=by
 unfold AP;split
 next cs=>
  cases h with
  |agg vs _ hl aQ hc=>
   refine .agg vs _ (by rw[qR];exact hl) (λc fT=> ?_) (λi u c hu fT=> ?_)
   ·obtain⟨i,hi⟩:=zaq fT;obtain⟨t',c0,h1,rfl⟩:=mG _ _ _ _ hi;exact wQ (aQ c0 (zan h1))
   obtain⟨t',c0,h1,rfl⟩:=mG _ _ _ _ fT;exact wP (hc i u c0 hu h1)
 ·exact wP h
 exact h
theorem kO{t:TypeId}{p:P}{s':S}{x:D}(hs:fW Q s t p=some (s',x)): ∃y,qj Q s p=some (s',y)/\(x=y\/x=AP Q t y):=by
 unfold fW at hs;split at hs
 ·exact⟨x,hs,.inl rfl⟩
 split at hs
 next s1 y h1=>rw[D.force_eq] at hs;simp at hs;obtain⟨rfl,rfl⟩:=hs;exact⟨y,h1,.inr rfl⟩
 cases hs
theorem l7(h:aq Q T F G w a s){t:TypeId}{p:P}{s':S}{x:D}(hs:fW Q s t p=some (s',x)){v:Value}(hv:ak F w G s.rg v p):
  ∃F',aq Q T F' G w a s'/\Ext (Own G s.rg) (Own G s'.rg) F F' w w/\Names G G s.rg s'.rg/\(∀b,F b->F' b)/\ax F' w v x:=by
 obtain⟨y,h1,h2⟩:=kO hs;obtain⟨F',f1,f2,f3,f4,f5⟩:=wO h h1 hv;refine⟨F',f1,f2,f3,f4,?_⟩;rcases h2 with rfl |rfl
 ·exact f5
 exact wR f5
end
end Pi
