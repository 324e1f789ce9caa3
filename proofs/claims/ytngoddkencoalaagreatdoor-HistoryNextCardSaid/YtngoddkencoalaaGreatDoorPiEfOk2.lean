/- The text PiEfOk2. -/
import Derived.Test.YtngoddkencoalaaGreatDoorPiEfOk
namespace Pi
open Go
section
variable {Q:Program} {T:Tg} {F:Nat->Prop} {G:Nat->Value} {w:World} {a:Act} {s:S}
theorem S.fg {n:Nat} {e:En} {o:Obj} (he:lk s.rg n=some e):s.setObj n o={s with rg:=ins n ⟨e.aX,e.tag,o⟩ s.rg}:=by
 simp[S.setObj,he]
theorem aC.freeze (h:aC Q T F G w a s) {n:Nat} {e:En} {ty:TypeId} {fz:Bool} {es:List D} (he:lk s.rg n=some e) (bV:e.obj= .arr ty fz es):
  ∃F',aC Q T F' G w a (s.setObj n (.arr ty true es))/\Ext (Own G s.rg) (Own G (s.setObj n (.arr ty true es)).rg) F F' w w/\Names G G s.rg (s.setObj n (.arr ty true es)).rg/\(∀b,aQ (G n)=some b->F' b)/\(∀b,F b->F' b):=by
 rw[S.fg he]
 have hn:Names G G s.rg (ins n ⟨e.aX,e.tag,.arr ty true es⟩ s.rg):=by
  have:=gF (G:=G) (g1:=G n) (R:=s.rg) (n:=n) (e1:=⟨e.aX,e.tag,.arr ty true es⟩) (fun e' cI=>by rw[he] at cI;cases cI;exact .inr ⟨rfl,fun _=>⟨by rw[bV];rfl,rfl⟩⟩)
  rwa [bW] at this
 have oL: ∀m e1,lk (ins n ⟨e.aX,e.tag,Obj.arr ty true es⟩ s.rg) m=some e1->(m=n/\e1=⟨e.aX,e.tag,.arr ty true es⟩)\/(n≠m/\lk s.rg m=some e1):=fun m e1 h1=>by
  by_cases hm:n=m
  ·subst hm;rw[bA] at h1;cases h1;exact .inl ⟨rfl,rfl⟩
  ·rw[bU _ _ hm] at h1;exact .inr ⟨hm,h1⟩
 have hO:=h.rg n e he
 rw[bV] at hO
 have vB: ∀b,aQ (G n)=some b->b<w.heap.size:=fun b hb=>by
  rcases hO with⟨hg,_⟩| ⟨b',cap,cs,k,hg,hh,_⟩
  ·simp[hg,aQ] at hb
  ·simp[hg,aQ] at hb;subst hb;exact(zar.1 hh).1
 have fU: ∀b,aQ (G n)=some b->F b\/bF (G n) e.obj=some b:=fun b hb=>by
  rw[bV]
  cases fz with
  |false=>right;simp[bF,hb]
  |true=>
   left
   rcases hO with⟨hg,_⟩| ⟨b',cap,cs,k,hg,hh,_,_,_,_,_,hf,_⟩
   ·simp[hg,aQ] at hb
   ·simp[hg,aQ] at hb;subst hb;exact hf rfl
 refine⟨fun b=>F b\/aQ (G n)=some b,⟨h.rf.DP (fun b hb=>hb.elim .inl fun hb=>(fU b hb).imp id fun h2=>⟨n,e,he,h2⟩) (fun b hb=>by
  obtain⟨m,e1,h1,h2⟩:=hb
  rcases oL m e1 h1 with⟨rfl,rfl⟩| ⟨_,h1⟩
  ·simp[bF] at h2
  ·exact⟨m,e1,h1,h2⟩),h.size,fun t p hp=>(h.tm t p hp).mono (fun _ h=> .inl h) (fun _ _=>rfl) hn,?_,?_,?_,?_,?_,fun b hb=>⟨.inl (h.z b hb).1,(h.z b hb).2⟩,h.dr,h.sz⟩,?_,hn,fun b hb=> .inr hb,fun b hb=> .inl hb⟩
 ·intro m e1 h1
  rcases oL m e1 h1 with⟨rfl,rfl⟩| ⟨hm,h1⟩
  ·rcases hO with⟨hg,h0⟩| ⟨b',cap,cs,k,hg,hh,h1,h2,h3,h4,h5,h6,h7⟩
   ·exact .inl ⟨hg,h0⟩
   ·exact .inr ⟨b',cap,cs,k,hg,hh,h1,h2,h3,h4,h5,fun _=> .inr (by simp[hg,aQ]),h7.mono (fun _ h=> .inl h) (fun _ _=>rfl)⟩
  ·exact(h.rg m e1 h1).mono (fun _ h=> .inl h) (fun _ _=>rfl) hn rfl (fun _ _=>rfl)
 ·intro m1 m2 e1 e2 b h1 h2 jJ cm
  rcases oL m1 e1 h1 with⟨rfl,rfl⟩| ⟨L2,N6⟩
  ·simp[bF] at jJ
  ·rcases oL m2 e2 h2 with⟨rfl,rfl⟩| ⟨EC,h2'⟩
   ·simp[bF] at cm
   ·exact h.own _ _ _ _ b N6 h2' jJ cm
 ·intro m e1 b h1 hb zI
  rcases oL m e1 h1 with⟨rfl,rfl⟩| ⟨hm,h1⟩
  ·simp[bF] at hb
  ·rcases zI with zI |zI
   ·exact h.mq m e1 b h1 hb zI
   ·rcases fU b zI with h2 |h2
    ·exact h.mq m e1 b h1 hb h2
    ·exact hm (h.own _ _ _ _ b he h1 h2 hb)
 ·intro b hb
  rcases hb with hb |hb
  ·exact h.jm b hb
  ·exact vB b hb
 ·intro m e1 i h1 hi hl
  rcases oL m e1 h1 with⟨rfl,rfl⟩| ⟨hm,h1⟩
  ·exact h.tag _ e i he hi (by rw[bV];rfl)
  ·exact h.tag m e1 i h1 hi hl
 ·refine⟨fun _ h=> .inl h,?_,?_,fun _ _ _=>rfl,zaj _,rfl,rfl,rfl⟩
  ·intro b hb
   rcases hb with hb |hb
   ·exact .inl hb
   ·rcases fU b hb with h2 |h2
    ·exact .inl h2
    ·exact .inr (.inl ⟨n,e,he,h2⟩)
  ·rintro b ⟨m,e1,h1,hb⟩
   rcases oL m e1 h1 with⟨rfl,rfl⟩| ⟨hm,h1⟩
   ·simp[bF] at hb
   ·exact .inl ⟨m,e1,h1,hb⟩
theorem wc (h:aC Q T F G w a s) {p:P} {s':S} {x:D} (hs:oX Q s p=some (s',x)) {v:Value} (hv:aF F w G s.rg v p):
  ∃F',aC Q T F' G w a s'/\Ext (Own G s.rg) (Own G s'.rg) F F' w w/\Names G G s.rg s'.rg/\(∀b,F b->F' b)/\a7 F' w v x:=by
 unfold oX at hs
 split at hs
 ·simp at hs
  obtain⟨rfl,rfl⟩:=hs
  cases hv with |d hv=>exact⟨F,h,Ext.refl _ _ _,Names.refl _ _,fun _ h=>h,hv⟩
 ·rename_i n aX len
  split at hs
  ·rename_i ty fz es ho
   obtain⟨e,he,dP,bV⟩:=S.bH ho
   split at hs
   ·rename_i k hk
    simp at hs
    obtain⟨rfl,rfl⟩:=hs
    cases hv with
    |sl _ _ _ _ h1 hr=>
     obtain⟨F',f1,f2,f3,f4,f5⟩:=h.freeze he bV
     refine⟨F',f1,f2,f3,f5,?_⟩
     have hO:=h.rg n e he
     rw[bV] at hO
     exact uD (s:=s) hO hk (hr.at he dP (by rw[bV];rfl)) f4 f5
   ·cases hs
  ·cases hs
 ·rename_i n aX k0 off len
  split at hs
  ·rename_i ty fz es ho
   obtain⟨e,he,dP,bV⟩:=S.bH ho
   split at hs
   ·rename_i k hk
    split at hs
    ·rename_i jH
     have jH:=zaf jH
     subst jH
     simp at hs
     obtain⟨rfl,rfl⟩:=hs
     cases hv with
     |lC _ _ _ _ _ _ h1 hr=>
      obtain⟨F',f1,f2,f3,f4,f5⟩:=h.freeze he bV
      refine⟨F',f1,f2,f3,f5,?_⟩
      have hO:=h.rg n e he
      rw[bV] at hO
      exact Cf (s:=s) hO hk (hr.at he dP (by rw[bV];rfl)) f4 f5
    ·cases hs
   ·cases hs
  ·cases hs
 ·cases hs
theorem a7.up {F F':Nat->Prop} {v:Value} {x:D} (h:a7 F w v x) (hF: ∀b,F b->F' b):a7 F' w v x:=h.mono hF (fun _ _=>rfl)
theorem Kh: ∀(ps:List P) (s:S) (F:Nat->Prop) (s':S) (xs:List D) (vs:List Value),aC Q T F G w a s->qm Q s ps=some (s',xs)->vs.length=ps.length->
  (∀(i:Nat) (v:Value) (c:P),vs[i]?=some v->ps[i]?=some c->aF F w G s.rg v c)->
  ∃F',aC Q T F' G w a s'/\Ext (Own G s.rg) (Own G s'.rg) F F' w w/\Names G G s.rg s'.rg/\(∀b,F b->F' b)/\vs.length=xs.length/\ ∀(i:Nat) (v:Value) (c:D),vs[i]?=some v->xs[i]?=some c->a7 F' w v c
 | [],s,F,s',xs,vs,h,hs,hl,hv=>by
  simp[qm] at hs
  obtain⟨rfl,rfl⟩:=hs
  exact⟨F,h,Ext.refl _ _ _,Names.refl _ _,fun _ h=>h,hl,fun i v c _ hc=>by simp at hc⟩
 |p::ps,s,F,s',xs,vs,h,hs,hl,hv=>by
  cases vs with
  |nil=>simp at hl
  |cons v vs=>
   simp only[qm] at hs
   split at hs
   ·cases hs
   ·rename_i s1 x h1
    split at hs
    ·rename_i s2 xs2 h2
     simp at hs
     obtain⟨rfl,rfl⟩:=hs
     obtain⟨F1,a1,a2,a3,a4,a5⟩:=wc h h1 (hv 0 v p (by simp) (by simp))
     obtain⟨F2,b1,b2,b3,b4,b5,b6⟩:=Kh ps s1 F1 s2 xs2 vs a1 h2 (by simpa using hl)
      (fun i u c hu hc=>(hv (i+1) u c (by simpa using hu) (by simpa using hc)).mono a4 (fun _ _=>rfl) a3)
     refine⟨F2,b1,a2.trans b2,a3.trans b3,fun b hb=>b4 b (a4 b hb),by simpa using b5,fun i u c hu hc=> ?_⟩
     cases i with
     |zero=>simp at hu hc;subst hu;subst hc;exact a5.up b4
     |succ i=>exact b6 i u c (by simpa using hu) (by simpa using hc)
    ·cases hs
theorem Pk (h:aC Q T F G w a s) {p:P} {s':S} {x:D} (hs:DP Q s p=some (s',x)) {v:Value} (hv:aF F w G s.rg v p):
  ∃F',aC Q T F' G w a s'/\Ext (Own G s.rg) (Own G s'.rg) F F' w w/\Names G G s.rg s'.rg/\(∀b,F b->F' b)/\a7 F' w v x:=by
 unfold DP at hs
 split at hs
 ·rename_i ps
  split at hs
  ·rename_i s1 xs h1
   simp at hs
   obtain⟨rfl,rfl⟩:=hs
   cases hv with
   |agg vs _ hl ij hc=>
    obtain⟨F',f1,f2,f3,f4,f5,f6⟩:=Kh ps s F s1 xs vs h h1 hl hc
    exact⟨F',f1,f2,f3,f4,.agg vs xs f5 (fun c jG=>by
     obtain⟨i,hi⟩:=zaP jG
     have bG:i<vs.length:=by have:=(zad.1 hi).1;omega
     exact(f6 i _ c (zae bG) hi).bC (ij _ (zas bG))) f6⟩
  ·cases hs
 ·exact wc h hs hv
theorem Pm {t:Option TypeId} {v:Value} {x:D} (h:a7 F w v x):a7 F w v (nzC Q t x):=by
 cases t with
 |none=>exact h
 |some e=>
  unfold nzC
  simp only
  split
  ·split
   ·cases h;exact .N4 none _ 0
   ·exact h
  ·exact h
theorem Pn {t:Option TypeId} {x:D} (h:x.bC=true):(nzC Q t x).bC=true:=by
 cases t with
 |none=>exact h
 |some e=>
  unfold nzC
  simp only
  split
  ·split<;>rfl
  ·exact h
theorem ED: ∀(ts:List (Option TypeId)) (cs:List D),(Ej Q ts cs).length=cs.length
 | [],cs=>by cases cs<;>rfl
 |_::_,[]=>rfl
 |t::ts,c::cs=>by simp[Ej,ED ts cs]
theorem xe: ∀(ts:List (Option TypeId)) (cs:List D) (i:Nat) (c:D),(Ej Q ts cs)[i]?=some c-> ∃(t:Option TypeId) (c0:D),cs[i]?=some c0/\c=nzC Q t c0
 | [],cs,i,c,h=>⟨none,c,by cases cs<;>exact h,rfl⟩
 |_::_,[],i,c,h=>by simp[Ej] at h
 |t::ts,c0::cs,0,c,h=>by
  simp[Ej] at h
  exact⟨t,c0,rfl,h.symm⟩
 |t::ts,c0::cs,i+1,c,h=>by
  simp only[Ej,zcu] at h
  exact xe ts cs i c h
theorem Po {t:TypeId} {v:Value} {x:D} (h:a7 F w v x):a7 F w v (nzD Q t x):=by
 unfold nzD
 split
 ·rename_i cs
  cases h with
  |agg vs _ hl ca hc=>
   refine .agg vs _ (by rw[ED];exact hl) (fun c jG=> ?_) (fun i u c hu jG=> ?_)
   ·obtain⟨i,hi⟩:=zaP jG
    obtain⟨t',c0,h1,rfl⟩:=xe _ _ _ _ hi
    exact Pn (ca c0 (zaC h1))
   ·obtain⟨t',c0,h1,rfl⟩:=xe _ _ _ _ jG
    exact Pm (hc i u c0 hu h1)
 ·exact Pm h
 ·exact h
theorem tL {t:TypeId} {p:P} {s':S} {x:D} (hs:nq Q s t p=some (s',x)): ∃y,DP Q s p=some (s',y)/\(x=y\/x=nzD Q t y):=by
 unfold nq at hs
 split at hs
 ·exact⟨x,hs,.inl rfl⟩
 ·split at hs
  ·rename_i s1 y h1
   rw[D.force_eq] at hs
   simp at hs
   obtain⟨rfl,rfl⟩:=hs
   exact⟨y,h1,.inr rfl⟩
  ·cases hs
theorem wg (h:aC Q T F G w a s) {t:TypeId} {p:P} {s':S} {x:D} (hs:nq Q s t p=some (s',x)) {v:Value} (hv:aF F w G s.rg v p):
  ∃F',aC Q T F' G w a s'/\Ext (Own G s.rg) (Own G s'.rg) F F' w w/\Names G G s.rg s'.rg/\(∀b,F b->F' b)/\a7 F' w v x:=by
 obtain⟨y,h1,h2⟩:=tL hs
 obtain⟨F',f1,f2,f3,f4,f5⟩:=Pk h h1 hv
 refine⟨F',f1,f2,f3,f4,?_⟩
 rcases h2 with rfl |rfl
 ·exact f5
 ·exact Po f5
end
end Pi
