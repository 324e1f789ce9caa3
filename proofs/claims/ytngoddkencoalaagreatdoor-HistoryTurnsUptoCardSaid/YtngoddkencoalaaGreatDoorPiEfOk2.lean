/- The text PiEfOk2. -/
import Derived.Test.YtngoddkencoalaaGreatDoorPiEfOk
namespace Pi
open Go
section
variable{Q:Program}{T:Tg}{F:Nat->Prop}{G:Nat->Value}{w:World}{a:Act}{s:S}
theorem S.fu{n:Nat}{e:En}{o:Obj}(he:lk s.rg n=some e):s.setObj n o={s with rg:=ins n ⟨e.aV,e.tag,o⟩ s.rg}:=by simp[S.setObj,he]
theorem aG.freeze(h:aG Q T F G w a s){n:Nat}{e:En}{ty:TypeId}{fz:Bool}{es:List D}(he:lk s.rg n=some e)(b9:e.obj= .arr ty fz es):
  ∃F',aG Q T F' G w a (s.setObj n (.arr ty true es))/\Ext (Own G s.rg) (Own G (s.setObj n (.arr ty true es)).rg) F F' w w/\Names G G s.rg (s.setObj n (.arr ty true es)).rg/\(∀b,aM (G n)=some b->F' b)/\(∀b,F b->F' b):=by
 rw[S.fu he];have hn:Names G G s.rg (ins n ⟨e.aV,e.tag,.arr ty true es⟩ s.rg):=by have:=gN (G:=G) (g1:=G n) (R:=s.rg) (n:=n) (e1:=⟨e.aV,e.tag,.arr ty true es⟩) (λe' cS=>by rw[he] at cS;cases cS;exact .inr ⟨rfl,λ_=>⟨by rw[b9];rfl,rfl⟩⟩);rwa [ca] at this
 have pS: ∀m e1,lk (ins n ⟨e.aV,e.tag,Obj.arr ty true es⟩ s.rg) m=some e1->(m=n/\e1=⟨e.aV,e.tag,.arr ty true es⟩)\/(n≠m/\lk s.rg m=some e1):=λm e1 h1=>by
  by_cases hm:n=m
  ·subst hm;rw[bC] at h1;cases h1;exact .inl ⟨rfl,rfl⟩
  rw[b8 _ _ hm] at h1;exact .inr ⟨hm,h1⟩
 have hO:=h.rg n e he;rw[b9] at hO;have xn: ∀b,aM (G n)=some b->b<w.heap.size:=λb hb=>by
  rcases hO with⟨hg,_⟩| ⟨b',cap,cs,k,hg,hh,_⟩
  ·simp[hg,aM] at hb
  simp[hg,aM] at hb;subst hb;exact(zaz.1 hh).1
 have ga: ∀b,aM (G n)=some b->F b\/bF (G n) e.obj=some b:=λb hb=>by
  rw[b9];cases fz with
  |false=>right;simp[bF,hb]
  |true=>
   left;rcases hO with⟨hg,_⟩| ⟨b',cap,cs,k,hg,hh,_,_,_,_,_,hf,_⟩
   ·simp[hg,aM] at hb
   simp[hg,aM] at hb;subst hb;exact hf rfl
 refine⟨λb=>F b\/aM (G n)=some b,⟨h.sg.FK (λb hb=>hb.elim .inl λhb=>(ga b hb).imp id λh2=>⟨n,e,he,h2⟩) (λb hb=>by
  obtain⟨m,e1,h1,h2⟩:=hb;rcases pS m e1 h1 with⟨rfl,rfl⟩| ⟨_,h1⟩
  ·simp[bF] at h2
  exact⟨m,e1,h1,h2⟩),h.size,λt p hp=>(h.tm t p hp).mono (λ_ h=> .inl h) (λ_ _=>rfl) hn,?_,?_,?_,?_,?_,λb hb=>⟨.inl (h.z b hb).1,(h.z b hb).2⟩,h.dr,h.sz⟩,?_,hn,λb hb=> .inr hb,λb hb=> .inl hb⟩
 ·intro m e1 h1;rcases pS m e1 h1 with⟨rfl,rfl⟩| ⟨hm,h1⟩
  ·rcases hO with⟨hg,h0⟩| ⟨b',cap,cs,k,hg,hh,h1,h2,h3,h4,h5,h6,h7⟩
   ·exact .inl ⟨hg,h0⟩
   exact .inr ⟨b',cap,cs,k,hg,hh,h1,h2,h3,h4,h5,λ_=> .inr (by simp[hg,aM]),h7.mono (λ_ h=> .inl h) (λ_ _=>rfl)⟩
  exact(h.rg m e1 h1).mono (λ_ h=> .inl h) (λ_ _=>rfl) hn rfl (λ_ _=>rfl)
 ·intro m1 m2 e1 e2 b h1 h2 j7 cu;rcases pS m1 e1 h1 with⟨rfl,rfl⟩| ⟨Kb,QL⟩
  ·simp[bF] at j7
  rcases pS m2 e2 h2 with⟨rfl,rfl⟩| ⟨D4,h2'⟩
  ·simp[bF] at cu
  exact h.own _ _ _ _ b QL h2' j7 cu
 ·intro m e1 b h1 hb BB;rcases pS m e1 h1 with⟨rfl,rfl⟩| ⟨hm,h1⟩
  ·simp[bF] at hb
  rcases BB with BB |BB
  ·exact h.nf m e1 b h1 hb BB
  rcases ga b BB with h2 |h2
  ·exact h.nf m e1 b h1 hb h2
  exact hm (h.own _ _ _ _ b he h1 h2 hb)
 ·intro b hb;rcases hb with hb |hb
  ·exact h.jE b hb
  exact xn b hb
 ·intro m e1 i h1 hi hl;rcases pS m e1 h1 with⟨rfl,rfl⟩| ⟨hm,h1⟩
  ·exact h.tag _ e i he hi (by rw[b9];rfl)
  exact h.tag m e1 i h1 hi hl
 refine⟨λ_ h=> .inl h,?_,?_,λ_ _ _=>rfl,zak _,rfl,rfl,rfl⟩
 ·intro b hb;rcases hb with hb |hb
  ·exact .inl hb
  rcases ga b hb with h2 |h2
  ·exact .inl h2
  exact .inr (.inl ⟨n,e,he,h2⟩)
 rintro b ⟨m,e1,h1,hb⟩;rcases pS m e1 h1 with⟨rfl,rfl⟩| ⟨hm,h1⟩
 ·simp[bF] at hb
 exact .inl ⟨m,e1,h1,hb⟩
theorem xN(h:aG Q T F G w a s){p:P}{s':S}{x:D}(hs:qc Q s p=some (s',x)){v:Value}(hv:aH F w G s.rg v p):
  ∃F',aG Q T F' G w a s'/\Ext (Own G s.rg) (Own G s'.rg) F F' w w/\Names G G s.rg s'.rg/\(∀b,F b->F' b)/\aS F' w v x:=by
 unfold qc at hs;split at hs
 ·simp at hs;obtain⟨rfl,rfl⟩:=hs;cases hv with |d hv=>exact⟨F,h,Ext.refl _ _ _,Names.refl _ _,λ_ h=>h,hv⟩
 next n aV len=>
  split at hs
  next ty fz es ho=>
   obtain⟨e,he,dT,b9⟩:=S.bI ho;split at hs
   ·rename_i k hk;simp at hs;obtain⟨rfl,rfl⟩:=hs;cases hv with
    |sl _ _ _ _ h1 hr=>obtain⟨F',f1,f2,f3,f4,f5⟩:=h.freeze he b9;refine⟨F',f1,f2,f3,f5,?_⟩;have hO:=h.rg n e he;rw[b9] at hO;exact wj (s:=s) hO hk (hr.at he dT (by rw[b9];rfl)) f4 f5
   cases hs
  cases hs
 next n aV k0 off len=>
  split at hs
  next ty fz es ho=>
   obtain⟨e,he,dT,b9⟩:=S.bI ho;split at hs
   ·rename_i k hk;split at hs
    ·rename_i ju;have ju:=zag ju;subst ju;simp at hs;obtain⟨rfl,rfl⟩:=hs;cases hv with
     |mb _ _ _ _ _ _ h1 hr=>obtain⟨F',f1,f2,f3,f4,f5⟩:=h.freeze he b9;refine⟨F',f1,f2,f3,f5,?_⟩;have hO:=h.rg n e he;rw[b9] at hO;exact DX (s:=s) hO hk (hr.at he dT (by rw[b9];rfl)) f4 f5
    cases hs
   cases hs
  cases hs
 cases hs
theorem aS.up{F F':Nat->Prop}{v:Value}{x:D}(h:aS F w v x)(hF: ∀b,F b->F' b):aS F' w v x:=h.mono hF (λ_ _=>rfl)
theorem Mx: ∀(ps:List P) (s:S) (F:Nat->Prop) (s':S) (xs:List D) (vs:List Value),aG Q T F G w a s->rq Q s ps=some (s',xs)->vs.length=ps.length->
  (∀(i:Nat) (v:Value) (c:P),vs[i]?=some v->ps[i]?=some c->aH F w G s.rg v c)->
  ∃F',aG Q T F' G w a s'/\Ext (Own G s.rg) (Own G s'.rg) F F' w w/\Names G G s.rg s'.rg/\(∀b,F b->F' b)/\vs.length=xs.length/\ ∀(i:Nat) (v:Value) (c:D),vs[i]?=some v->xs[i]?=some c->aS F' w v c
 | [],s,F,s',xs,vs,h,hs,hl,hv=>by simp[rq] at hs;obtain⟨rfl,rfl⟩:=hs;exact⟨F,h,Ext.refl _ _ _,Names.refl _ _,λ_ h=>h,hl,λi v c _ hc=>by simp at hc⟩
 |p::ps,s,F,s',xs,vs,h,hs,hl,hv=>by
  cases vs with
  |nil=>simp at hl
  |cons v vs=>
   simp only[rq] at hs;split at hs
   ·cases hs
   rename_i s1 x h1;split at hs
   ·rename_i s2 xs2 h2;simp at hs;obtain⟨rfl,rfl⟩:=hs;obtain⟨F1,a1,a2,a3,a4,a5⟩:=xN h h1 (hv 0 v p (by simp) (by simp));obtain⟨F2,b1,b2,b3,b4,b5,b6⟩:=Mx ps s1 F1 s2 xs2 vs a1 h2 (by simpa using hl)
     (λi u c hu hc=>(hv (i+1) u c (by simpa using hu) (by simpa using hc)).mono a4 (λ_ _=>rfl) a3)
    refine⟨F2,b1,a2.trans b2,a3.trans b3,λb hb=>b4 b (a4 b hb),by simpa using b5,λi u c hu hc=> ?_⟩;cases i with
    |zero=>simp at hu hc;subst hu;subst hc;exact a5.up b4
    |succ i=>exact b6 i u c (by simpa using hu) (by simpa using hc)
   cases hs
theorem Sb(h:aG Q T F G w a s){p:P}{s':S}{x:D}(hs:FK Q s p=some (s',x)){v:Value}(hv:aH F w G s.rg v p):
  ∃F',aG Q T F' G w a s'/\Ext (Own G s.rg) (Own G s'.rg) F F' w w/\Names G G s.rg s'.rg/\(∀b,F b->F' b)/\aS F' w v x:=by
 unfold FK at hs;split at hs
 next ps=>
  split at hs
  next s1 xs h1=>
   simp at hs;obtain⟨rfl,rfl⟩:=hs;cases hv with
   |agg vs _ hl iF hc=>
    obtain⟨F',f1,f2,f3,f4,f5,f6⟩:=Mx ps s F s1 xs vs h h1 hl hc;exact⟨F',f1,f2,f3,f4,.agg vs xs f5 (λc l7=>by
     obtain⟨i,hi⟩:=zaX l7;have bJ:i<vs.length:=by have:=(zaf.1 hi).1;omega
     exact(f6 i _ c (zac bJ) hi).bA (iF _ (zaq bJ))) f6⟩
  cases hs
 exact xN h hs hv
theorem Sc{t:Option TypeId}{v:Value}{x:D}(h:aS F w v x):aS F w v (nzC Q t x):=by
 cases t with
 |none=>exact h
 |some e=>
  unfold nzC;simp only;split
  ·split
   ·cases h;exact .J4 none _ 0
   exact h
  exact h
theorem Sd{t:Option TypeId}{x:D}(h:x.bA=true):(nzC Q t x).bA=true:=by
 cases t with
 |none=>exact h
 |some e=>
  unfold nzC;simp only;split
  ·split<;>rfl
  exact h
theorem GM: ∀(ts:List (Option TypeId)) (cs:List D),(Gu Q ts cs).length=cs.length
 | [],cs=>by cases cs<;>rfl
 |_::_,[]=>rfl
 |t::ts,c::cs=>by simp[Gu,GM ts cs]
theorem yQ: ∀(ts:List (Option TypeId)) (cs:List D) (i:Nat) (c:D),(Gu Q ts cs)[i]?=some c-> ∃(t:Option TypeId) (c0:D),cs[i]?=some c0/\c=nzC Q t c0
 | [],cs,i,c,h=>⟨none,c,by cases cs<;>exact h,rfl⟩
 |_::_,[],i,c,h=>by simp[Gu] at h
 |t::ts,c0::cs,0,c,h=>by simp[Gu] at h;exact⟨t,c0,rfl,h.symm⟩
 |t::ts,c0::cs,i+1,c,h=>by simp only[Gu,zcf] at h;exact yQ ts cs i c h
theorem Se{t:TypeId}{v:Value}{x:D}(h:aS F w v x):aS F w v (nzD Q t x):=by
 unfold nzD;split
 next cs=>
  cases h with
  |agg vs _ hl bR hc=>
   refine .agg vs _ (by rw[GM];exact hl) (λc l7=> ?_) (λi u c hu l7=> ?_)
   ·obtain⟨i,hi⟩:=zaX l7;obtain⟨t',c0,h1,rfl⟩:=yQ _ _ _ _ hi;exact Sd (bR c0 (zaC h1))
   obtain⟨t',c0,h1,rfl⟩:=yQ _ _ _ _ l7;exact Sc (hc i u c0 hu h1)
 ·exact Sc h
 exact h
theorem vr{t:TypeId}{p:P}{s':S}{x:D}(hs:ov Q s t p=some (s',x)): ∃y,FK Q s p=some (s',y)/\(x=y\/x=nzD Q t y):=by
 unfold ov at hs;split at hs
 ·exact⟨x,hs,.inl rfl⟩
 split at hs
 next s1 y h1=>rw[D.force_eq] at hs;simp at hs;obtain⟨rfl,rfl⟩:=hs;exact⟨y,h1,.inr rfl⟩
 cases hs
theorem xO(h:aG Q T F G w a s){t:TypeId}{p:P}{s':S}{x:D}(hs:ov Q s t p=some (s',x)){v:Value}(hv:aH F w G s.rg v p):
  ∃F',aG Q T F' G w a s'/\Ext (Own G s.rg) (Own G s'.rg) F F' w w/\Names G G s.rg s'.rg/\(∀b,F b->F' b)/\aS F' w v x:=by
 obtain⟨y,h1,h2⟩:=vr hs;obtain⟨F',f1,f2,f3,f4,f5⟩:=Sb h h1 hv;refine⟨F',f1,f2,f3,f4,?_⟩;rcases h2 with rfl |rfl
 ·exact f5
 exact Se f5
end
end Pi
