/- The text PiEfOk2. -/
import Derived.Test.YtngoddkencoalaaGreatDoorPiEfOk
namespace Pi
open Go
section
variable {Q:Program} {T:Tg} {F:Nat->Prop} {G:Nat->Value} {w:World} {a:Act} {s:S}
theorem S.e9 {n:Nat} {e:En} {o:Obj} (he:lk s.rg n=some e):s.setObj n o={s with rg:=ins n ⟨e.aU,e.tag,o⟩ s.rg}:=by
 simp[S.setObj,he]
theorem aB.freeze (h:aB Q T F G w a s) {n:Nat} {e:En} {ty:TypeId} {fz:Bool} {es:List D} (he:lk s.rg n=some e) (bR:e.obj= .arr ty fz es):
  ∃F',aB Q T F' G w a (s.setObj n (.arr ty true es))/\Ext (Own G s.rg) (Own G (s.setObj n (.arr ty true es)).rg) F F' w w/\Names G G s.rg (s.setObj n (.arr ty true es)).rg/\(∀b,aL (G n)=some b->F' b)/\(∀b,F b->F' b):=by
 rw[S.e9 he]
 have hn:Names G G s.rg (ins n ⟨e.aU,e.tag,.arr ty true es⟩ s.rg):=by
  have:=gi (G:=G) (g1:=G n) (R:=s.rg) (n:=n) (e1:=⟨e.aU,e.tag,.arr ty true es⟩) (fun e' cF=>by rw[he] at cF;cases cF;exact .inr ⟨rfl,fun _=>⟨by rw[bR];rfl,rfl⟩⟩)
  rwa [bU] at this
 have n0: ∀m e1,lk (ins n ⟨e.aU,e.tag,Obj.arr ty true es⟩ s.rg) m=some e1->(m=n/\e1=⟨e.aU,e.tag,.arr ty true es⟩)\/(n≠m/\lk s.rg m=some e1):=fun m e1 h1=>by
  by_cases hm:n=m
  ·subst hm;rw[bA] at h1;cases h1;exact .inl ⟨rfl,rfl⟩
  ·rw[bG _ _ hm] at h1;exact .inr ⟨hm,h1⟩
 have hO:=h.rg n e he
 rw[bR] at hO
 have uT: ∀b,aL (G n)=some b->b<w.heap.size:=fun b hb=>by
  rcases hO with⟨hg,_⟩| ⟨b',cap,cs,k,hg,hh,_⟩
  ·simp[hg,aL] at hb
  ·simp[hg,aL] at hb;subst hb;exact(Array.getElem?_eq_some_iff.1 hh).1
 have ep: ∀b,aL (G n)=some b->F b\/bu (G n) e.obj=some b:=fun b hb=>by
  rw[bR]
  cases fz with
  |false=>right;simp[bu,hb]
  |true=>
   left
   rcases hO with⟨hg,_⟩| ⟨b',cap,cs,k,hg,hh,_,_,_,_,_,hf,_⟩
   ·simp[hg,aL] at hb
   ·simp[hg,aL] at hb;subst hb;exact hf rfl
 refine⟨fun b=>F b\/aL (G n)=some b,⟨h.qV.C1 (fun b hb=>hb.elim .inl fun hb=>(ep b hb).imp id fun h2=>⟨n,e,he,h2⟩) (fun b hb=>by
  obtain⟨m,e1,h1,h2⟩:=hb
  rcases n0 m e1 h1 with⟨rfl,rfl⟩| ⟨_,h1⟩
  ·simp[bu] at h2
  ·exact⟨m,e1,h1,h2⟩),h.size,fun t p hp=>(h.tm t p hp).mono (fun _ h=> .inl h) (fun _ _=>rfl) hn,?_,?_,?_,?_,?_,fun b hb=>⟨.inl (h.z b hb).1,(h.z b hb).2⟩,h.dr,h.sz⟩,?_,hn,fun b hb=> .inr hb,fun b hb=> .inl hb⟩
 ·intro m e1 h1
  rcases n0 m e1 h1 with⟨rfl,rfl⟩| ⟨hm,h1⟩
  ·rcases hO with⟨hg,h0⟩| ⟨b',cap,cs,k,hg,hh,h1,h2,h3,h4,h5,h6,h7⟩
   ·exact .inl ⟨hg,h0⟩
   ·exact .inr ⟨b',cap,cs,k,hg,hh,h1,h2,h3,h4,h5,fun _=> .inr (by simp[hg,aL]),h7.mono (fun _ h=> .inl h) (fun _ _=>rfl)⟩
  ·exact(h.rg m e1 h1).mono (fun _ h=> .inl h) (fun _ _=>rfl) hn rfl (fun _ _=>rfl)
 ·intro m1 m2 e1 e2 b h1 h2 jk cu
  rcases n0 m1 e1 h1 with⟨rfl,rfl⟩| ⟨Ke,Mp⟩
  ·simp[bu] at jk
  ·rcases n0 m2 e2 h2 with⟨rfl,rfl⟩| ⟨Kf,YU⟩
   ·simp[bu] at cu
   ·exact h.own _ _ _ _ b Mp YU jk cu
 ·intro m e1 b h1 hb yM
  rcases n0 m e1 h1 with⟨rfl,rfl⟩| ⟨hm,h1⟩
  ·simp[bu] at hb
  ·rcases yM with yM |yM
   ·exact h.lr m e1 b h1 hb yM
   ·rcases ep b yM with h2 |h2
    ·exact h.lr m e1 b h1 hb h2
    ·exact hm (h.own _ _ _ _ b he h1 h2 hb)
 ·intro b hb
  rcases hb with hb |hb
  ·exact h.iR b hb
  ·exact uT b hb
 ·intro m e1 i h1 hi hl
  rcases n0 m e1 h1 with⟨rfl,rfl⟩| ⟨hm,h1⟩
  ·exact h.tag _ e i he hi (by rw[bR];rfl)
  ·exact h.tag m e1 i h1 hi hl
 ·refine⟨fun _ h=> .inl h,?_,?_,fun _ _ _=>rfl,Nat.le_refl _,rfl,rfl,rfl⟩
  ·intro b hb
   rcases hb with hb |hb
   ·exact .inl hb
   ·rcases ep b hb with h2 |h2
    ·exact .inl h2
    ·exact .inr (.inl ⟨n,e,he,h2⟩)
  ·rintro b ⟨m,e1,h1,hb⟩
   rcases n0 m e1 h1 with⟨rfl,rfl⟩| ⟨hm,h1⟩
   ·simp[bu] at hb
   ·exact .inl ⟨m,e1,h1,hb⟩
theorem vn (h:aB Q T F G w a s) {p:P} {s':S} {x:D} (hs:og Q s p=some (s',x)) {v:Value} (hv:aD F w G s.rg v p):
  ∃F',aB Q T F' G w a s'/\Ext (Own G s.rg) (Own G s'.rg) F F' w w/\Names G G s.rg s'.rg/\(∀b,F b->F' b)/\aW F' w v x:=by
 unfold og at hs
 split at hs
 ·simp at hs
  obtain⟨rfl,rfl⟩:=hs
  cases hv with |d hv=>exact⟨F,h,Ext.refl _ _ _,Names.refl _ _,fun _ h=>h,hv⟩
 ·rename_i n aU len
  split at hs
  ·rename_i ty fz es ho
   obtain⟨e,he,dI,bR⟩:=S.bF ho
   split at hs
   ·rename_i k hk
    simp at hs
    obtain⟨rfl,rfl⟩:=hs
    cases hv with
    |sl _ _ _ _ h1 hr=>
     obtain⟨F',f1,f2,f3,f4,f5⟩:=h.freeze he bR
     refine⟨F',f1,f2,f3,f5,?_⟩
     have hO:=h.rg n e he
     rw[bR] at hO
     exact tO (s:=s) hO hk (hr.at he dI (by rw[bR];rfl)) f4 f5
   ·cases hs
  ·cases hs
 ·rename_i n aU k0 off len
  split at hs
  ·rename_i ty fz es ho
   obtain⟨e,he,dI,bR⟩:=S.bF ho
   split at hs
   ·rename_i k hk
    split at hs
    ·rename_i jh
     have jh:=Nat.eq_of_beq_eq_true jh
     subst jh
     simp at hs
     obtain⟨rfl,rfl⟩:=hs
     cases hv with
     |kT _ _ _ _ _ _ h1 hr=>
      obtain⟨F',f1,f2,f3,f4,f5⟩:=h.freeze he bR
      refine⟨F',f1,f2,f3,f5,?_⟩
      have hO:=h.rg n e he
      rw[bR] at hO
      exact Bh (s:=s) hO hk (hr.at he dI (by rw[bR];rfl)) f4 f5
    ·cases hs
   ·cases hs
  ·cases hs
 ·cases hs
theorem aW.up {F F':Nat->Prop} {v:Value} {x:D} (h:aW F w v x) (hF: ∀b,F b->F' b):aW F' w v x:=h.mono hF (fun _ _=>rfl)
theorem Is: ∀(ps:List P) (s:S) (F:Nat->Prop) (s':S) (xs:List D) (vs:List Value),aB Q T F G w a s->pU Q s ps=some (s',xs)->vs.length=ps.length->
  (∀(i:Nat) (v:Value) (c:P),vs[i]?=some v->ps[i]?=some c->aD F w G s.rg v c)->
  ∃F',aB Q T F' G w a s'/\Ext (Own G s.rg) (Own G s'.rg) F F' w w/\Names G G s.rg s'.rg/\(∀b,F b->F' b)/\vs.length=xs.length/\ ∀(i:Nat) (v:Value) (c:D),vs[i]?=some v->xs[i]?=some c->aW F' w v c
 | [],s,F,s',xs,vs,h,hs,hl,hv=>by
  simp[pU] at hs
  obtain⟨rfl,rfl⟩:=hs
  exact⟨F,h,Ext.refl _ _ _,Names.refl _ _,fun _ h=>h,hl,fun i v c _ hc=>by simp at hc⟩
 |p::ps,s,F,s',xs,vs,h,hs,hl,hv=>by
  cases vs with
  |nil=>simp at hl
  |cons v vs=>
   simp only[pU] at hs
   split at hs
   ·cases hs
   ·rename_i s1 x h1
    split at hs
    ·rename_i s2 YL h2
     simp at hs
     obtain⟨rfl,rfl⟩:=hs
     obtain⟨F1,a1,a2,a3,a4,a5⟩:=vn h h1 (hv 0 v p (by simp) (by simp))
     obtain⟨F2,b1,b2,b3,b4,b5,b6⟩:=Is ps s1 F1 s2 YL vs a1 h2 (by simpa using hl)
      (fun i u c hu hc=>(hv (i+1) u c (by simpa using hu) (by simpa using hc)).mono a4 (fun _ _=>rfl) a3)
     refine⟨F2,b1,a2.trans b2,a3.trans b3,fun b hb=>b4 b (a4 b hb),by simpa using b5,fun i u c hu hc=> ?_⟩
     cases i with
     |zero=>simp at hu hc;subst hu;subst hc;exact a5.up b4
     |succ i=>exact b6 i u c (by simpa using hu) (by simpa using hc)
    ·cases hs
theorem Nx (h:aB Q T F G w a s) {p:P} {s':S} {x:D} (hs:C1 Q s p=some (s',x)) {v:Value} (hv:aD F w G s.rg v p):
  ∃F',aB Q T F' G w a s'/\Ext (Own G s.rg) (Own G s'.rg) F F' w w/\Names G G s.rg s'.rg/\(∀b,F b->F' b)/\aW F' w v x:=by
 unfold C1 at hs
 split at hs
 ·rename_i ps
  split at hs
  ·rename_i s1 xs h1
   simp at hs
   obtain⟨rfl,rfl⟩:=hs
   cases hv with
   |agg vs _ hl gm hc=>
    obtain⟨F',f1,f2,f3,f4,f5,f6⟩:=Is ps s F s1 xs vs h h1 hl hc
    exact⟨F',f1,f2,f3,f4,.agg vs xs f5 (fun c iQ=>by
     obtain⟨i,hi⟩:=List.getElem?_of_mem iQ
     have bk:i<vs.length:=by have:=(List.getElem?_eq_some_iff.1 hi).1;omega
     exact(f6 i _ c (List.getElem?_eq_getElem bk) hi).bC (gm _ (List.getElem_mem bk))) f6⟩
  ·cases hs
 ·exact vn h hs hv
theorem Ny {t:Option TypeId} {v:Value} {x:D} (h:aW F w v x):aW F w v (YI Q t x):=by
 cases t with
 |none=>exact h
 |some e=>
  unfold YI
  simp only
  split
  ·split
   ·cases h;exact .Mm none _ 0
   ·exact h
  ·exact h
theorem Nz {t:Option TypeId} {x:D} (h:x.bC=true):(YI Q t x).bC=true:=by
 cases t with
 |none=>exact h
 |some e=>
  unfold YI
  simp only
  split
  ·split<;>rfl
  ·exact h
theorem DC: ∀(ts:List (Option TypeId)) (cs:List D),(Dn Q ts cs).length=cs.length
 | [],cs=>by cases cs<;>rfl
 |_::_,[]=>rfl
 |t::ts,c::cs=>by simp[Dn,DC ts cs]
theorem wq: ∀(ts:List (Option TypeId)) (cs:List D) (i:Nat) (c:D),(Dn Q ts cs)[i]?=some c-> ∃(t:Option TypeId) (c0:D),cs[i]?=some c0/\c=YI Q t c0
 | [],cs,i,c,h=>⟨none,c,by cases cs<;>exact h,rfl⟩
 |_::_,[],i,c,h=>by simp[Dn] at h
 |t::ts,c0::cs,0,c,h=>by
  simp[Dn] at h
  exact⟨t,c0,rfl,h.symm⟩
 |t::ts,c0::cs,i+1,c,h=>by
  simp only[Dn,List.getElem?_cons_succ] at h
  exact wq ts cs i c h
theorem NA {t:TypeId} {v:Value} {x:D} (h:aW F w v x):aW F w v (YJ Q t x):=by
 unfold YJ
 split
 ·rename_i cs
  cases h with
  |agg vs _ hl bY hc=>
   refine .agg vs _ (by rw[DC];exact hl) (fun c iQ=> ?_) (fun i u c hu iQ=> ?_)
   ·obtain⟨i,hi⟩:=List.getElem?_of_mem iQ
    obtain⟨t',c0,h1,rfl⟩:=wq _ _ _ _ hi
    exact Nz (bY c0 (List.mem_of_getElem? h1))
   ·obtain⟨t',c0,h1,rfl⟩:=wq _ _ _ _ iQ
    exact Ny (hc i u c0 hu h1)
 ·exact Ny h
 ·exact h
theorem sV {t:TypeId} {p:P} {s':S} {x:D} (hs:mF Q s t p=some (s',x)): ∃y,C1 Q s p=some (s',y)/\(x=y\/x=YJ Q t y):=by
 unfold mF at hs
 split at hs
 ·exact⟨x,hs,.inl rfl⟩
 ·split at hs
  ·rename_i s1 y h1
   rw[D.force_eq] at hs
   simp at hs
   obtain⟨rfl,rfl⟩:=hs
   exact⟨y,h1,.inr rfl⟩
  ·cases hs
theorem vo (h:aB Q T F G w a s) {t:TypeId} {p:P} {s':S} {x:D} (hs:mF Q s t p=some (s',x)) {v:Value} (hv:aD F w G s.rg v p):
  ∃F',aB Q T F' G w a s'/\Ext (Own G s.rg) (Own G s'.rg) F F' w w/\Names G G s.rg s'.rg/\(∀b,F b->F' b)/\aW F' w v x:=by
 obtain⟨y,h1,h2⟩:=sV hs
 obtain⟨F',f1,f2,f3,f4,f5⟩:=Nx h h1 hv
 refine⟨F',f1,f2,f3,f4,?_⟩
 rcases h2 with rfl |rfl
 ·exact f5
 ·exact NA f5
end
end Pi
