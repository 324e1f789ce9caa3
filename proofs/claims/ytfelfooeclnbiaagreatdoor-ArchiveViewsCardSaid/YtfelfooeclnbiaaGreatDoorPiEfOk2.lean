/- The text PiEfOk2. -/
import Derived.Test.YtfelfooeclnbiaaGreatDoorPiEfOk
namespace Pi
open Go
section
variable{Q:Program}{T:Tg}{F:Nat->Prop}{G:Nat->Value}{w:World}{a:Act}{s:S}
theorem S.fg{n:Nat}{e:En}{o:Obj}(he:lk s.rg n=some e):s.setObj n o={s with rg:=ins n ⟨e.aR,e.tag,o⟩ s.rg}:=by simp[S.setObj,he]
theorem aB.freeze(h:aB Q T F G w a s){n:Nat}{e:En}{ty:TypeId}{fz:Bool}{es:List D}(he:lk s.rg n=some e)(bH:e.obj= .arr ty fz es):
  ∃F',aB Q T F' G w a (s.setObj n (.arr ty true es))/\Ext (Own G s.rg) (Own G (s.setObj n (.arr ty true es)).rg) F F' w w/\Names G G s.rg (s.setObj n (.arr ty true es)).rg/\(∀b,aI (G n)=some b->F' b)/\(∀b,F b->F' b):=by
 rw[S.fg he];have hn:Names G G s.rg (ins n ⟨e.aR,e.tag,.arr ty true es⟩ s.rg):=by have:=fI (G:=G) (g1:=G n) (R:=s.rg) (n:=n) (e1:=⟨e.aR,e.tag,.arr ty true es⟩) (λe' cx=>by rw[he] at cx;cases cx;exact .inr ⟨rfl,λ_=>⟨by rw[bH];rfl,rfl⟩⟩);rwa [bx] at this
 have oU: ∀m e1,lk (ins n ⟨e.aR,e.tag,Obj.arr ty true es⟩ s.rg) m=some e1->(m=n/\e1=⟨e.aR,e.tag,.arr ty true es⟩)\/(n≠m/\lk s.rg m=some e1):=λm e1 h1=>by
  by_cases hm:n=m
  ·subst hm;rw[bp] at h1;cases h1;exact .inl ⟨rfl,rfl⟩
  rw[bT _ _ hm] at h1;exact .inr ⟨hm,h1⟩
 have hO:=h.rg n e he;rw[bH] at hO;have sB: ∀b,aI (G n)=some b->b<w.heap.size:=λb hb=>by
  rcases hO with⟨hg,_⟩| ⟨b',cap,cs,k,hg,hh,_⟩
  ·simp[hg,aI] at hb
  simp[hg,aI] at hb;subst hb;exact(zau.1 hh).1
 have fV: ∀b,aI (G n)=some b->F b\/bm (G n) e.obj=some b:=λb hb=>by
  rw[bH];cases fz with
  |false=>right;simp[bm,hb]
  |true=>
   left;rcases hO with⟨hg,_⟩| ⟨b',cap,cs,k,hg,hh,_,_,_,_,_,hf,_⟩
   ·simp[hg,aI] at hb
   simp[hg,aI] at hb;subst hb;exact hf rfl
 refine⟨λb=>F b\/aI (G n)=some b,⟨h.r0.DM (λb hb=>hb.elim .inl λhb=>(fV b hb).imp id λh2=>⟨n,e,he,h2⟩) (λb hb=>by
  obtain⟨m,e1,h1,h2⟩:=hb;rcases oU m e1 h1 with⟨rfl,rfl⟩| ⟨_,h1⟩
  ·simp[bm] at h2
  exact⟨m,e1,h1,h2⟩),h.size,λt p hp=>(h.tm t p hp).mono (λ_ h=> .inl h) (λ_ _=>rfl) hn,?_,?_,?_,?_,?_,λb hb=>⟨.inl (h.z b hb).1,(h.z b hb).2⟩,h.dr,h.sz⟩,?_,hn,λb hb=> .inr hb,λb hb=> .inl hb⟩
 ·intro m e1 h1;rcases oU m e1 h1 with⟨rfl,rfl⟩| ⟨hm,h1⟩
  ·rcases hO with⟨hg,h0⟩| ⟨b',cap,cs,k,hg,hh,h1,h2,h3,h4,h5,h6,h7⟩
   ·exact .inl ⟨hg,h0⟩
   exact .inr ⟨b',cap,cs,k,hg,hh,h1,h2,h3,h4,h5,λ_=> .inr (by simp[hg,aI]),h7.mono (λ_ h=> .inl h) (λ_ _=>rfl)⟩
  exact(h.rg m e1 h1).mono (λ_ h=> .inl h) (λ_ _=>rfl) hn rfl (λ_ _=>rfl)
 ·intro m1 m2 e1 e2 b h1 h2 ji dM;rcases oU m1 e1 h1 with⟨rfl,rfl⟩| ⟨Mf,Me⟩
  ·simp[bm] at ji
  rcases oU m2 e2 h2 with⟨rfl,rfl⟩| ⟨Ch,h2'⟩
  ·simp[bm] at dM
  exact h.own _ _ _ _ b Me h2' ji dM
 ·intro m e1 b h1 hb zK;rcases oU m e1 h1 with⟨rfl,rfl⟩| ⟨hm,h1⟩
  ·simp[bm] at hb
  rcases zK with zK |zK
  ·exact h.mg m e1 b h1 hb zK
  rcases fV b zK with h2 |h2
  ·exact h.mg m e1 b h1 hb h2
  exact hm (h.own _ _ _ _ b he h1 h2 hb)
 ·intro b hb;rcases hb with hb |hb
  ·exact h.ja b hb
  exact sB b hb
 ·intro m e1 i h1 hi hl;rcases oU m e1 h1 with⟨rfl,rfl⟩| ⟨hm,h1⟩
  ·exact h.tag _ e i he hi (by rw[bH];rfl)
  exact h.tag m e1 i h1 hi hl
 refine⟨λ_ h=> .inl h,?_,?_,λ_ _ _=>rfl,zai _,rfl,rfl,rfl⟩
 ·intro b hb;rcases hb with hb |hb
  ·exact .inl hb
  rcases fV b hb with h2 |h2
  ·exact .inl h2
  exact .inr (.inl ⟨n,e,he,h2⟩)
 rintro b ⟨m,e1,h1,hb⟩;rcases oU m e1 h1 with⟨rfl,rfl⟩| ⟨hm,h1⟩
 ·simp[bm] at hb
 exact .inl ⟨m,e1,h1,hb⟩
theorem wE(h:aB Q T F G w a s){p:P}{s':S}{x:D}(hs:o6 Q s p=some (s',x)){v:Value}(hv:aF F w G s.rg v p):
  ∃F',aB Q T F' G w a s'/\Ext (Own G s.rg) (Own G s'.rg) F F' w w/\Names G G s.rg s'.rg/\(∀b,F b->F' b)/\aU F' w v x:=by
 unfold o6 at hs;split at hs
 ·simp at hs;obtain⟨rfl,rfl⟩:=hs;cases hv with |d hv=>exact⟨F,h,Ext.refl _ _ _,Names.refl _ _,λ_ h=>h,hv⟩
 next n aR len=>
  split at hs
  next ty fz es ho=>
   obtain⟨e,he,dw,bH⟩:=S.bw ho;split at hs
   ·rename_i k hk;simp at hs;obtain⟨rfl,rfl⟩:=hs;cases hv with
    |sl _ _ _ _ h1 hr=>obtain⟨F',f1,f2,f3,f4,f5⟩:=h.freeze he bH;refine⟨F',f1,f2,f3,f5,?_⟩;have hO:=h.rg n e he;rw[bH] at hO;exact vf (s:=s) hO hk (hr.at he dw (by rw[bH];rfl)) f4 f5
   cases hs
  cases hs
 next n aR k0 off len=>
  split at hs
  next ty fz es ho=>
   obtain⟨e,he,dw,bH⟩:=S.bw ho;split at hs
   ·rename_i k hk;split at hs
    ·rename_i jG;have jG:=zah jG;subst jG;simp at hs;obtain⟨rfl,rfl⟩:=hs;cases hv with
     |lu _ _ _ _ _ _ h1 hr=>obtain⟨F',f1,f2,f3,f4,f5⟩:=h.freeze he bH;refine⟨F',f1,f2,f3,f5,?_⟩;have hO:=h.rg n e he;rw[bH] at hO;exact Cc (s:=s) hO hk (hr.at he dw (by rw[bH];rfl)) f4 f5
    cases hs
   cases hs
  cases hs
 cases hs
theorem aU.up{F F':Nat->Prop}{v:Value}{x:D}(h:aU F w v x)(hF: ∀b,F b->F' b):aU F' w v x:=h.mono hF (λ_ _=>rfl)
theorem Kp: ∀(ps:List P) (s:S) (F:Nat->Prop) (s':S) (xs:List D) (vs:List Value),aB Q T F G w a s->qn Q s ps=some (s',xs)->vs.length=ps.length->
  (∀(i:Nat) (v:Value) (c:P),vs[i]?=some v->ps[i]?=some c->aF F w G s.rg v c)->
  ∃F',aB Q T F' G w a s'/\Ext (Own G s.rg) (Own G s'.rg) F F' w w/\Names G G s.rg s'.rg/\(∀b,F b->F' b)/\vs.length=xs.length/\ ∀(i:Nat) (v:Value) (c:D),vs[i]?=some v->xs[i]?=some c->aU F' w v c
 | [],s,F,s',xs,vs,h,hs,hl,hv=>by simp[qn] at hs;obtain⟨rfl,rfl⟩:=hs;exact⟨F,h,Ext.refl _ _ _,Names.refl _ _,λ_ h=>h,hl,λi v c _ hc=>by simp at hc⟩
 |p::ps,s,F,s',xs,vs,h,hs,hl,hv=>by
  cases vs with
  |nil=>simp at hl
  |cons v vs=>
   simp only[qn] at hs;split at hs
   ·cases hs
   rename_i s1 x h1;split at hs
   ·rename_i s2 xs2 h2;simp at hs;obtain⟨rfl,rfl⟩:=hs;obtain⟨F1,a1,a2,a3,a4,a5⟩:=wE h h1 (hv 0 v p (by simp) (by simp));obtain⟨F2,b1,b2,b3,b4,b5,b6⟩:=Kp ps s1 F1 s2 xs2 vs a1 h2 (by simpa using hl)
     (λi u c hu hc=>(hv (i+1) u c (by simpa using hu) (by simpa using hc)).mono a4 (λ_ _=>rfl) a3)
    refine⟨F2,b1,a2.trans b2,a3.trans b3,λb hb=>b4 b (a4 b hb),by simpa using b5,λi u c hu hc=> ?_⟩;cases i with
    |zero=>simp at hu hc;subst hu;subst hc;exact a5.up b4
    |succ i=>exact b6 i u c (by simpa using hu) (by simpa using hc)
   cases hs
theorem Py(h:aB Q T F G w a s){p:P}{s':S}{x:D}(hs:DM Q s p=some (s',x)){v:Value}(hv:aF F w G s.rg v p):
  ∃F',aB Q T F' G w a s'/\Ext (Own G s.rg) (Own G s'.rg) F F' w w/\Names G G s.rg s'.rg/\(∀b,F b->F' b)/\aU F' w v x:=by
 unfold DM at hs;split at hs
 next ps=>
  split at hs
  next s1 xs h1=>
   simp at hs;obtain⟨rfl,rfl⟩:=hs;cases hv with
   |agg vs _ hl gb hc=>
    obtain⟨F',f1,f2,f3,f4,f5,f6⟩:=Kp ps s F s1 xs vs h h1 hl hc;exact⟨F',f1,f2,f3,f4,.agg vs xs f5 (λc ln=>by
     obtain⟨i,hi⟩:=zaP ln;have bz:i<vs.length:=by have:=(zae.1 hi).1;omega
     exact(f6 i _ c (zac bz) hi).bt (gb _ (zar bz))) f6⟩
  cases hs
 exact wE h hs hv
theorem Pz{t:Option TypeId}{v:Value}{x:D}(h:aU F w v x):aU F w v (nzC Q t x):=by
 cases t with
 |none=>exact h
 |some e=>
  unfold nzC;simp only;split
  ·split
   ·cases h;exact .Oe none _ 0
   exact h
  exact h
theorem PA{t:Option TypeId}{x:D}(h:x.bt=true):(nzC Q t x).bt=true:=by
 cases t with
 |none=>exact h
 |some e=>
  unfold nzC;simp only;split
  ·split<;>rfl
  exact h
theorem EE: ∀(ts:List (Option TypeId)) (cs:List D),(Ek Q ts cs).length=cs.length
 | [],cs=>by cases cs<;>rfl
 |_::_,[]=>rfl
 |t::ts,c::cs=>by simp[Ek,EE ts cs]
theorem xp: ∀(ts:List (Option TypeId)) (cs:List D) (i:Nat) (c:D),(Ek Q ts cs)[i]?=some c-> ∃(t:Option TypeId) (c0:D),cs[i]?=some c0/\c=nzC Q t c0
 | [],cs,i,c,h=>⟨none,c,by cases cs<;>exact h,rfl⟩
 |_::_,[],i,c,h=>by simp[Ek] at h
 |t::ts,c0::cs,0,c,h=>by simp[Ek] at h;exact⟨t,c0,rfl,h.symm⟩
 |t::ts,c0::cs,i+1,c,h=>by simp only[Ek,zcy] at h;exact xp ts cs i c h
theorem PB{t:TypeId}{v:Value}{x:D}(h:aU F w v x):aU F w v (nzD Q t x):=by
 unfold nzD;split
 next cs=>
  cases h with
  |agg vs _ hl bU hc=>
   refine .agg vs _ (by rw[EE];exact hl) (λc ln=> ?_) (λi u c hu ln=> ?_)
   ·obtain⟨i,hi⟩:=zaP ln;obtain⟨t',c0,h1,rfl⟩:=xp _ _ _ _ hi;exact PA (bU c0 (zaz h1))
   obtain⟨t',c0,h1,rfl⟩:=xp _ _ _ _ ln;exact Pz (hc i u c0 hu h1)
 ·exact Pz h
 exact h
theorem uh{t:TypeId}{p:P}{s':S}{x:D}(hs:nq Q s t p=some (s',x)): ∃y,DM Q s p=some (s',y)/\(x=y\/x=nzD Q t y):=by
 unfold nq at hs;split at hs
 ·exact⟨x,hs,.inl rfl⟩
 split at hs
 next s1 y h1=>rw[D.force_eq] at hs;simp at hs;obtain⟨rfl,rfl⟩:=hs;exact⟨y,h1,.inr rfl⟩
 cases hs
theorem wF(h:aB Q T F G w a s){t:TypeId}{p:P}{s':S}{x:D}(hs:nq Q s t p=some (s',x)){v:Value}(hv:aF F w G s.rg v p):
  ∃F',aB Q T F' G w a s'/\Ext (Own G s.rg) (Own G s'.rg) F F' w w/\Names G G s.rg s'.rg/\(∀b,F b->F' b)/\aU F' w v x:=by
 obtain⟨y,h1,h2⟩:=uh hs;obtain⟨F',f1,f2,f3,f4,f5⟩:=Py h h1 hv;refine⟨F',f1,f2,f3,f4,?_⟩;rcases h2 with rfl |rfl
 ·exact f5
 exact PB f5
end
end Pi
