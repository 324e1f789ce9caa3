/- The text PiCodeOk. -/
import Derived.Test.YtngoddkencoalaaGreatDoorPiLate
import Derived.RangeFuncLeaves
import Derived.RangeFuncRecord
namespace Pi
open Go
def PX.fe:PX->Exit
 | .normal=> .normal
 | .exit id=> .exit id
 | .ret=> .ret
section
variable {Q:Program} {T:Tg} {cf:CF} {kp:Nat->Option (List Nat×List Nat)} {lf:Nat} {r:Option Nat}
theorem fq {F:Nat->Prop} {G:Nat->Value} {w:World} {a:Act} {s s0:S} {keep:Option (List Nat×List Nat)} (h:aB Q T F G w a s) (hs:cq keep s=some s0): ∃G0,aB Q T F G0 w a s0/\Ext (Own G s.rg) (Own G0 s0.rg) F F w w:=by
 unfold cq at hs
 split at hs
 ·exact NR h hs
 ·simp at hs
  subst hs
  exact⟨G,h,Ext.refl _ _ _⟩
theorem D2 {c:Code} {body:S->Option (PX×S)} {keep:Option (List Nat×List Nat)}
  (cB: ∀(s:S) (e:PX) (s':S),body s=some (e,s')-> ∀(F:Nat->Prop) (G:Nat->Value) (w:World) (a:Act) (Q':Exit->Act->World->Prop),aB Q T F G w a s->(∀a' w',iv Q T F G w s s' a' w'->Q' e.fe a' w')->c.wpIn (wd r) 0 Q Q' a w):
  ∀(k:Nat) (s:S) (e:PX) (s':S),hQ body keep k s=some (e,s')-> ∀(F:Nat->Prop) (G:Nat->Value) (w:World) (a:Act) (Q':Exit->Act->World->Prop),aB Q T F G w a s->(∀a' w',iv Q T F G w s s' a' w'->Q' e.fe a' w')->Code.roundsIn (wd r) 0 Q c Q' k a w
 |0,s,e,s',hs,F,G,w,a,Q',h,hK=>by simp[hQ] at hs
 |k+1,s,e,s',hs,F,G,w,a,Q',h,hK=>by
  simp only[hQ] at hs
  split at hs
  ·cases hs
  ·rename_i s0 hs0
   obtain⟨G0,g1,g2⟩:=fq h hs0
   rw[roundsIn_succ]
   cases hb:body s0 with
   |none=>simp[hb] at hs
   |some r=>
    obtain⟨e1,s1⟩:=r
    simp only[hb] at hs
    have out: ∀e1,body s0=some (e1,s1)->(match dt keep s1 with |some s2=>some (e1,s2)|none=>none)=some (e,s')->(∀a' w',iv Q T F G0 w s0 s1 a' w'->Q' e1.fe a' w'):=fun e1 hb hs a' w' hp=>by
     split at hs
     ·rename_i s2 h2
      simp at hs
      obtain⟨rfl,rfl⟩:=hs
      obtain⟨F1,G1,k1,k2⟩:=hp
      obtain⟨G2,m1,m2⟩:=fq (keep:=keep.map fun l=>(l.2,l.2)) k1 (by cases keep<;>exact h2)
      exact hK a' w' ⟨F1,G2,m1,(g2.trans k2).trans m2⟩
     ·cases hs
    cases e1 with
    |normal=>
     refine cB s0 .normal s1 hb F G0 w a _ g1 (fun a' w' ⟨F1,G1,k1,k2⟩=> ?_)
     show Code.roundsIn (wd r) 0 Q c Q' k a' w'
     exact D2 cB k s1 e s' hs F1 G1 w' a' Q' k1 (fun a2 w2 hp=>hK a2 w2 (iv.trans (g2.trans k2) hp))
    |exit id=>exact cB s0 _ s1 hb F G0 w a _ g1 (out _ hb hs)
    |ret=>exact cB s0 _ s1 hb F G0 w a _ g1 (out _ hb hs)
theorem ff (iV:db Q T.w0 cf) (hdr:Q.follows .mixedOrders=true): ∀(c:Code) (s:S) (e:PX) (s':S),bz Q cf kp lf c s=some (e,s')-> ∀(F:Nat->Prop) (G:Nat->Value) (w:World) (a:Act) (Q':Exit->Act->World->Prop),aB Q T F G w a s->
  (∀a' w',iv Q T F G w s s' a' w'->Q' e.fe a' w')->c.wpIn (wd r) 0 Q Q' a w
 | .skip,s,e,s',hs,F,G,w,a,Q',h,hK=>by
  simp[bz] at hs
  obtain⟨rfl,rfl⟩:=hs
  exact wpIn_skip (hK a w ⟨F,G,h,Ext.refl _ _ _⟩)
 | .label l,s,e,s',hs,F,G,w,a,Q',h,hK=>by
  simp[bz] at hs
  obtain⟨rfl,rfl⟩:=hs
  exact wpIn_label (hK a w ⟨F,G,h,Ext.refl _ _ _⟩)
 | .region id ops draw,s,e,s',hs,F,G,w,a,Q',h,hK=>by
  simp only[bz] at hs
  cases draw with
  |false=>
   simp only[Bool.false_eq_true,if_false] at hs
   split at hs
   ·rename_i s1 h1
    simp at hs
    obtain⟨rfl,rfl⟩:=hs
    exact wpIn_region_list (by simpa using sa iV ops.toList F G w a s s1 h h1 (Q':=Q') hK)
   ·cases hs
  |true=>
   simp only[if_true] at hs
   split at hs
   ·rename_i s1 h1
    simp at hs
    obtain⟨rfl,rfl⟩:=hs
    simpa using GJ (id:=id) iV hdr h h1 hK
   ·cases hs
 | .seq x y,s,e,s',hs,F,G,w,a,Q',h,hK=>by
  simp only[bz] at hs
  refine wpIn_seq ?_
  cases hx:bz Q cf kp lf x s with
  |none=>simp[hx] at hs
  |some r=>
   obtain⟨e1,s1⟩:=r
   simp only[hx] at hs
   cases e1 with
   |normal=>exact ff iV hdr x s .normal s1 hx F G w a _ h (fun a' w' ⟨F1,G1,k1,k2⟩=>ff iV hdr y s1 e s' hs F1 G1 w' a' Q' k1 (fun a2 w2 hp=>hK a2 w2 (iv.trans k2 hp)))
   |exit id=>
    simp at hs
    obtain⟨rfl,rfl⟩:=hs
    exact ff iV hdr x s _ s1 hx F G w a _ h (fun a' w' hp=>hK a' w' hp)
   |ret=>
    simp at hs
    obtain⟨rfl,rfl⟩:=hs
    exact ff iV hdr x s _ s1 hx F G w a _ h (fun a' w' hp=>hK a' w' hp)
 | .cond c x y,s,e,s',hs,F,G,w,a,Q',h,hK=>by
  simp only[bz] at hs
  split at hs
  ·rename_i b hb
   have hv:a.eval c= .bool b:=by
    have:=vW h c
    rw[hb] at this
    exact aD.cw (p:= .d (.bool b)) this rfl
   refine wpIn_cond hv ?_
   cases b with
   |true=>exact ff iV hdr x s e s' (by simpa using hs) F G w a Q' h hK
   |false=>exact ff iV hdr y s e s' (by simpa using hs) F G w a Q' h hK
  ·cases hs
 | .block id c,s,e,s',hs,F,G,w,a,Q',h,hK=>by
  simp only[bz] at hs
  refine wpIn_block ?_
  cases hx:bz Q cf kp lf c s with
  |none=>simp[hx] at hs
  |some r=>
   obtain⟨e1,s1⟩:=r
   simp only[hx] at hs
   refine ff iV hdr c s e1 s1 hx F G w a _ h (fun a' w' hp=> ?_)
   cases e1 with
   |normal=>simp at hs;obtain⟨rfl,rfl⟩:=hs;exact hK a' w' hp
   |ret=>simp at hs;obtain⟨rfl,rfl⟩:=hs;exact hK a' w' hp
   |exit ou=>
    simp only at hs
    split at hs
    ·rename_i hid
     have hid:ou=id:=by simpa using hid
     simp at hs
     obtain⟨rfl,rfl⟩:=hs
     simp only[PX.fe,Exit.inBlock,hid,if_true]
     exact hK a' w' hp
    ·rename_i hid
     have hid: ¬ou=id:=by simpa using hid
     simp at hs
     obtain⟨rfl,rfl⟩:=hs
     simp only[PX.fe,Exit.inBlock,hid,if_false]
     exact hK a' w' hp
 | .loop c,s,e,s',hs,F,G,w,a,Q',h,hK=>by
  simp only[bz] at hs
  exact wpIn_loop_rounds lf (D2 (fun s e s' hs=>ff iV hdr c s e s' hs) lf s e s' hs F G w a Q' h hK)
 | .scope c,s,e,s',hs,F,G,w,a,Q',h,hK=>by
  simp only[bz] at hs
  refine fD (ff iV hdr c s e s' hs F G w a _ h (fun a' w' hp=> ?_))
  have:=hK a' w' hp
  cases e<;>simpa [PX.fe,Exit.noGoto] using this
 | .exit id,s,e,s',hs,F,G,w,a,Q',h,hK=>by
  simp[bz] at hs
  obtain⟨rfl,rfl⟩:=hs
  exact wpIn_exit (hK a w ⟨F,G,h,Ext.refl _ _ _⟩)
 | .ret,s,e,s',hs,F,G,w,a,Q',h,hK=>by
  simp[bz] at hs
  obtain⟨rfl,rfl⟩:=hs
  exact wpIn_ret (hK a w ⟨F,G,h,Ext.refl _ _ _⟩)
 | .rangeFunc _ _ _ _,s,e,s',hs,F,G,w,a,Q',h,hK=>by simp[bz] at hs
 | .goto _,s,e,s',hs,F,G,w,a,Q',h,hK=>by simp[bz] at hs
 | .refuse _,s,e,s',hs,F,G,w,a,Q',h,hK=>by simp[bz] at hs
def lY (tmps:Array Value):ResultVar->Sem Value
 | .tmp t=>pure (tmps.getD t undef)
 | .cell ad t=>do loadVar t (<-asAddr (tmps.getD ad undef))
theorem Oh {F:Nat->Prop} {G:Nat->Value} {w:World} {a:Act} {s:S} (h:aB Q T F G w a s) (t:Nat):aD F w G s.rg (a.tmps.getD t undef) (((lk s.tm t).getD .bad).under none):=
 aV h (g:=none) trivial (.tmp t)
theorem GK {F:Nat->Prop} {G:Nat->Value} {w:World} {a:Act} {s:S} (h:aB Q T F G w a s) {r:ResultVar} {p:P} (hr:rX Q s r=some p):
  ∃v,(lY a.tmps r).run Q w= .ok v w/\aD F w G s.rg v p:=by
 cases r with
 |tmp t=>
  simp only[rX,Option.some.injEq] at hr
  subst hr
  exact⟨_,rfl,Oh h t⟩
 |cell ad t=>
  simp only[rX] at hr
  obtain⟨u,h1,h2⟩:=Dt h (Oh h ad) hr
  refine⟨u,?_,h2⟩
  have hp: ∃x,a.tmps.getD ad undef= .pointer (some x):=by
   cases hv:a.tmps.getD ad undef with
   |pointer o=>
    cases o with
    |some x=>exact⟨x,rfl⟩
    |none=>rw[hv] at h1;simp[Instr.loadAt,Instr.sureAddr] at h1
   |_=>rw[hv] at h1;simp[Instr.loadAt,Instr.sureAddr] at h1
  obtain⟨x,hx⟩:=hp
  rw[hx] at h1
  simp only[Instr.loadAt,Instr.sureAddr,Sem.run_bind,Sem.run_pure,Result.andThen_ok] at h1
  simp[lY,hx,asAddr,h1]
theorem uk {F:Nat->Prop} {G:Nat->Value} {w:World} {a:Act} {s:S} (h:aB Q T F G w a s): ∀(rs:List ResultVar) (ps:List P),cT Q s rs=some ps->
  ∃vs,(rs.mapM (lY a.tmps)).run Q w= .ok vs w/\vs.length=ps.length/\ ∀(i:Nat) (v:Value) (c:P),vs[i]?=some v->ps[i]?=some c->aD F w G s.rg v c
 | [],ps,hr=>by
  simp[cT] at hr
  subst hr
  exact⟨[],by simp,rfl,fun i v c hv=>by simp at hv⟩
 |r::rs,ps,hr=>by
  simp only[cT] at hr
  cases h1:rX Q s r with
  |none=>simp[h1] at hr
  |some p=>
   cases h2:cT Q s rs with
   |none=>simp[h1,h2] at hr
   |some qs=>
    simp[h1,h2] at hr
    subst hr
    obtain⟨v,g1,g2⟩:=GK h h1
    obtain⟨vs,k1,k2,k3⟩:=uk h rs qs h2
    refine⟨v::vs,by simp[List.mapM_cons,g1,k1],by simp[k2],fun i u c hu hc=> ?_⟩
    cases i with
    |zero=>simp at hu hc;subst hu;subst hc;exact g2
    |succ i=>exact k3 i u c (by simpa using hu) (by simpa using hc)
theorem mV: ∀(ps:List P) (i0 t:Nat) (p:P),lk (fj i0 ps) t=some p->i0<=t/\ps[t-i0]?=some p
 | [],i0,t,p,h=>by simp[fj,lk] at h
 |q::ps,i0,t,p,h=>by
  simp only[fj,lk] at h
  split at h
  ·rename_i ht
   have ht:i0=t:=by simpa using ht
   simp at h
   subst h
   subst ht
   simp
  ·obtain⟨h1,h2⟩:=mV ps (i0+1) t p h
   refine⟨by omega,?_⟩
   have e:t-i0=(t-(i0+1))+1:=by omega
   rw[e]
   simpa using h2
theorem KP {F:Nat->Prop} {G:Nat->Value} {w:World} {R:List (Nat×En)} {t:TypeId} {v:Value} {p:P} (h:aD F w G R v p):aD F w G R v (FY Q t p):=by
 unfold FY
 split
 ·cases h with
  |d h=>
   cases h
   split
   ·split
    ·exact .d (.Mm none _ 0)
    ·exact .d .gu
   ·exact .d .gu
 ·exact h
theorem um: ∀(ts:List TypeId) (ps:List P),(gx Q ts ps).length=ps.length
 | [],ps=>by simp[gx]
 |t::ts,[]=>by simp[gx]
 |t::ts,p::ps=>by simp[gx,um ts ps]
theorem w6 {F:Nat->Prop} {G:Nat->Value} {w:World} {R:List (Nat×En)}: ∀(ts:List TypeId) (ps:List P) (vs:List Value),
  (∀(i:Nat) (v:Value) (c:P),vs[i]?=some v->ps[i]?=some c->aD F w G R v c)-> ∀(i:Nat) (v:Value) (c:P),vs[i]?=some v->(gx Q ts ps)[i]?=some c->aD F w G R v c
 | [],ps,vs,h=>by simpa [gx] using h
 |_::_,[],_,_=>fun i v c _ hc=>by simp[gx] at hc
 |t::ts,p::ps,[],h=>fun i v c hv=>by simp at hv
 |t::ts,p::ps,v::vs,h=>fun i u c hu hc=>by
  cases i with
  |zero=>
   simp[gx] at hu hc
   subst hu
   subst hc
   exact KP (h 0 v p rfl rfl)
  |succ i=>exact w6 ts ps vs (fun i v c hv hc=>h (i+1) v c (by simpa using hv) (by simpa using hc)) i u c (by simpa using hu) (by simpa [gx] using hc)
theorem ra {F:Nat->Prop} {G:Nat->Value} {w:World} {a:Act} {s:S} (h:aB Q T F G w a s) {fn:Func} {ps:List P} (hr:cT Q s fn.results.toList=some ps):
  ∃vs:List Value,(results fn a.tmps).run Q w= .ok (if hh:vs.toArray.size=1 then vs.toArray[0] else .tuple vs.toArray) w/\vs.length=ps.length/\ ∀(i:Nat) (v:Value) (c:P),vs[i]?=some v->ps[i]?=some c->aD F w G s.rg v c:=by
 obtain⟨vs,h1,h2,h3⟩:=uk h fn.results.toList ps hr
 refine⟨vs,?_,h2,h3⟩
 have e:(fn.results.mapM (lY a.tmps)).run Q w= .ok vs.toArray w:=by
  rw[Array.mapM_eq_mapM_toList]
  simp[h1]
 have e2:results fn a.tmps=(do let vs<-fn.results.mapM (lY a.tmps);pure (if h:vs.size=1 then vs[0] else .tuple vs)):=by
  unfold results
  congr 1
 rw[e2,Sem.run_bind,e]
 rfl
theorem qaf {F:Nat->Prop} {G:Nat->Value} {w:World} {R:List (Nat×En)} {vs:List Value} {ps:List P} (h2:vs.length=ps.length) (h3: ∀(i:Nat) (v:Value) (c:P),vs[i]?=some v->ps[i]?=some c->aD F w G R v c):
  aD F w G R (if hh:vs.toArray.size=1 then vs.toArray[0] else .tuple vs.toArray) (MY ps):=by
 match vs,ps,h2,h3 with
 | [v],[p],_,h3=>exact h3 0 v p rfl rfl
 | [],[],h2,h3=>exact .da [] [] rfl (fun i v c hv=>by simp at hv)
 |v1::v2::vs,p1::p2::ps,h2,h3=>exact .da _ _ h2 h3
theorem w7 {T:Tg} {G:Nat->Value} {w:World} {a:Act}: ∀(ps:List P) (ts:List TypeId) (s:S) (F:Nat->Prop) (s':S) (qs:List P) (vs:List Value),aB Q T F G w a s->rY Q s ts ps=some (s',qs)->vs.length=ps.length->
  (∀(i:Nat) (v:Value) (c:P),vs[i]?=some v->ps[i]?=some c->aD F w G s.rg v c)->
  ∃F',aB Q T F' G w a s'/\Ext (Own G s.rg) (Own G s'.rg) F F' w w/\Names G G s.rg s'.rg/\(∀b,F b->F' b)/\vs.length=qs.length/\ ∀(i:Nat) (v:Value) (c:P),vs[i]?=some v->qs[i]?=some c->aD F' w G s'.rg v c
 | [],ts,s,F,s',xs,vs,h,hs,hl,hv=>by
  simp[rY] at hs
  obtain⟨rfl,rfl⟩:=hs
  exact⟨F,h,Ext.refl _ _ _,Names.refl _ _,fun _ h=>h,hl,fun i v c _ hc=>by simp at hc⟩
 |p::ps,ts,s,F,s',xs,vs,h,hs,hl,hv=>by
  cases vs with
  |nil=>simp at hl
  |cons v vs=>
   simp only[rY] at hs
   split at hs
   ·cases hs
   ·rename_i s1 q h1
    split at hs
    ·rename_i s2 YT h2
     simp at hs
     obtain⟨rfl,rfl⟩:=hs
     obtain⟨F1,a1,a2,a3,a4,a5⟩:=zR h h1 (hv 0 v p (by simp) (by simp))
     obtain⟨F2,b1,b2,b3,b4,b5,b6⟩:=w7 ps ts.tail s1 F1 s2 YT vs a1 h2 (by simpa using hl)
      (fun i u c hu hc=>(hv (i+1) u c (by simpa using hu) (by simpa using hc)).mono a4 (fun _ _=>rfl) a3)
     refine⟨F2,b1,a2.trans b2,a3.trans b3,fun b hb=>b4 b (a4 b hb),by simpa using b5,fun i u c hu hc=> ?_⟩
     cases i with
     |zero=>simp at hu hc;subst hu;subst hc;exact a5.mono b4 (fun _ _=>rfl) b3
     |succ i=>exact b6 i u c (by simpa using hu) (by simpa using hc)
    ·cases hs
theorem Ac {F:Nat->Prop} {G:Nat->Value} {w:World} {a:Act} {s:S} (h:aB Q T F G w a s) {m:Nat} {rts:List TypeId} {qs:List P} {p:P} {R1:List (Nat×En)} (hf:finish Q m rts qs s=some (p,R1))
  {vs:List Value} (hl:vs.length=qs.length) (hv: ∀(i:Nat) (v:Value) (c:P),vs[i]?=some v->qs[i]?=some c->aD F w G s.rg v c):
  ∃F' G',fo Q T F' G' w R1/\aD F' w G' R1 (if hh:vs.toArray.size=1 then vs.toArray[0] else .tuple vs.toArray) p/\Ext (Own G s.rg) (Own G' R1) F F' w w:=by
 unfold finish at hf
 split at hf
 ·cases hf
 rename_i s0 qs0 qag
 obtain⟨F1,j1,j2,j3,j4,j5,j6⟩:=w7 _ _ s F s0 qs0 vs h qag hl hv
 split at hf
 ·cases hf
 ·rename_i s1 qs1 ho
  obtain⟨G1,h1,h2,h3,h4,h5⟩:=oC _ _ _ s0 G s1 qs1 vs j1 ho j5 j6
  simp only at hf
  split at hf
  ·rename_i lx
   split at hf
   ·rename_i R hR
    simp only[Option.some.injEq,Prod.mk.injEq] at hf
    obtain⟨rfl,rfl⟩:=hf
    obtain⟨k1,k2,k3⟩:=h1.heap.sub hR lx
    refine⟨F1,_,by simpa using k1,mP k2 (qaf h4 h5),(j2.trans h2).trans ⟨fun _ h=>h,fun _ h=> .inl h,fun b hb=> ?_,fun _ _ _=>rfl,Nat.le_refl _,rfl,rfl,rfl⟩⟩
    obtain⟨n,e,_,he,hb⟩:=k3 b hb
    exact .inl ⟨n,e,he,hb⟩
   ·cases hf
  ·cases hf
theorem fo.lo {val:Nat->Value} {w0:World} {x y:Nat} {m1 m2:Bool} {F:Nat->Prop} {G:Nat->Value} {w:World} {R:List (Nat×En)} (h:fo Q ⟨val,w0,x,m1⟩ F G w R) (hy:y<=w.heap.size:=by exact Nat.zero_le _):fo Q ⟨val,w0,y,m2⟩ F G w R:=
 ⟨.nil,h.size,h.tm,h.rg,h.own,h.lr,h.iR,h.tag,h.z,h.dr,hy⟩
theorem aB.lo {val:Nat->Value} {w0:World} {x y:Nat} {m1 m2:Bool} {F:Nat->Prop} {G:Nat->Value} {w:World} {t:Array Value} {s:S} (h:aB Q ⟨val,w0,x,m1⟩ F G w ⟨t,[]⟩ s) (hy:y<=w.heap.size):aB Q ⟨val,w0,y,m2⟩ F G w ⟨t,[]⟩ s:=
 ⟨.nil,h.size,h.tm,h.rg,h.own,h.lr,h.iR,h.tag,h.z,h.dr,hy⟩
theorem aB.shut {T:Tg} {F:Nat->Prop} {G:Nat->Value} {w:World} {t:Array Value} {d:Deferred} {ds:List Deferred} {s:S} (h:aB Q T F G w ⟨t,d::ds⟩ s):
  ∃D,d={target:= .collected D,args:= #[]}/\(Instr.takeDeferred D).run Q w= .ok [] (w.putObj D (.deferred none))/\aB Q T F G (w.putObj D (.deferred none)) ⟨t,ds⟩ s/\
   ∀(own0 F0:Nat->Prop) (w1:World),w1.heap.size<=T.lo->Ext own0 (Own G s.rg) F0 F w1 w->Ext own0 (Own G s.rg) F0 F w1 (w.putObj D (.deferred none)):=by
 obtain⟨lx,hm⟩:=h.qV
 have NQ:=List.nodup_cons.1 lx
 obtain⟨D,h1,h0,h2,h3,h4⟩:=hm d (by simp)
 have bk:D<w.heap.size:=(Array.getElem?_eq_some_iff.1 h2).1
 have dz: ∀b,b≠D->(w.putObj D (.deferred none)).heap[b]?=w.heap[b]?:=fun b hb=>by
  simp only[World.putObj]
  rw[Array.getElem?_setIfInBounds_ne (Ne.symm hb)]
 have hF: ∀b,F b->(w.putObj D (.deferred none)).heap[b]?=w.heap[b]?:=fun b hb=>dz b fun e=>h3 (e▸hb)
 have cJ:(w.putObj D (.deferred none)).heap.size=w.heap.size:=by simp[World.putObj]
 refine⟨D,h1,run_takeDeferred h2,⟨⟨NQ.2,fun d' KD=> ?_⟩,h.size,fun t p hp=>cr.mono (fun _ h=>h) hF (Names.refl _ _) (h.tm t p hp),
  fun n e he=>(h.rg n e he).mono (fun _ h=>h) hF (Names.refl _ _) rfl (fun b hb=>dz b fun e'=>h4 ⟨n,e,he,e'▸hb⟩),h.own,h.lr,fun b hb=>by rw[cJ];exact h.iR b hb,h.tag,
  fun b hb=>⟨(h.z b hb).1,(hF b (h.z b hb).1).trans (h.z b hb).2⟩,h.dr,by rw[cJ];exact h.sz⟩,fun own0 F0 w1 Im hx=> ?_⟩
 ·obtain⟨D',k1,k0,k2,k3,k4⟩:=hm d' (by simp[KD])
  refine⟨D',k1,k0,(dz D' fun e=>NQ.1 ?_).trans k2,k3,k4⟩
  rw[h1,<-e,<-k1]
  exact KD
 ·exact⟨hx.j7,hx.lS,hx.kU,fun b hb hn=>(dz b (by have:=h0.1;omega)).trans (hx.keep b hb hn),by rw[cJ];exact hx.size,hx.os,hx.tape,hx.output⟩
theorem w8 {T:Tg} {F:Nat->Prop} {G:Nat->Value} {t:Array Value} {s:S} {fn:Func} {own0 F0:Nat->Prop} {w1:World} (Im:w1.heap.size<=T.lo) {R:Ending->World->Prop} {n:Nat}
  (hR: ∀w2,aB Q T F G w2 ⟨t,[]⟩ s->Ext own0 (Own G s.rg) F0 F w1 w2-> ∃v,(results fn t).run Q w2= .ok v w2/\R (.returned v) w2):
  ∀(ds:List Deferred) (w:World),aB Q T F G w ⟨t,ds⟩ s->Ext own0 (Own G s.rg) F0 F w1 w->LeavesInM Fence.wide n Q fn t R ds .returning w
 | [],w,h,hx=>hR w h hx
 |d::ds,w,h,hx=>by
  obtain⟨D,h1,h2,h3,h4⟩:=h.shut
  exact⟨fun e=>(by cases e),.inl ⟨D,_,by rw[h1],h2,w8 Im hR ds _ h3 (h4 _ _ _ Im hx)⟩⟩
theorem km {f:FuncId} {fn:Func} {c:Code} {args:Array Value} {w:World} {R:Ending->World->Prop} (hf:Q.funcs[f]?=some fn) (hb:fn.body=some c)
  (h:c.wpIn (wd none) 0 Q (bodyPostM Fence.wide 0 Q fn R) {tmps:=args++Array.replicate (fn.ntmps-args.size) undef,defers:=[]} w):Calls Q f args w R:=
 callsIn_wide.1 (callsIn_of_wp_marks hf hb trivial h)
theorem w9 (k:Option (List Nat×List Nat)) (ts:List TypeId) (ps:List P):(jZ k Q ts ps).length=ps.length:=by
 cases k with
 |none=>exact um ts ps
 |some _=>rfl
theorem Ad {F:Nat->Prop} {G:Nat->Value} {w:World} {R:List (Nat×En)} (k:Option (List Nat×List Nat)) (ts:List TypeId) (ps:List P) (vs:List Value)
  (h: ∀(i:Nat) (v:Value) (c:P),vs[i]?=some v->ps[i]?=some c->aD F w G R v c): ∀(i:Nat) (v:Value) (c:P),vs[i]?=some v->(jZ k Q ts ps)[i]?=some c->aD F w G R v c:=by
 cases k with
 |none=>exact w6 ts ps vs h
 |some _=>exact h
theorem sj {kp:py} {w0:World} (hX:db Q w0 kp.X) (hdr:Q.follows .mixedOrders=true): ∀(k:Nat),db Q w0 (eZ Q kp lf k)
 |0=>fun ju ps R p R1 h=>by simp[eZ] at h
 |k+1=>fun ju ps R p R1 hr F G w vs hH hl hv=>by
  have ih:=sj (kp:=kp) hX hdr k
  simp only[eZ] at hr
  split at hr
  ·cases hr
  ·rename_i fn eJ
   split at hr
   ·exact hX ju ps R p R1 hr F G w vs hH hl hv
   split at hr
   ·cases hr
   ·rename_i c hc
    split at hr
    ·cases hr
    ·rename_i gJ
     have gJ:(fn.name== "runtime.NumGoroutine")=false:=by simpa using gJ
     left
     refine⟨by simp[callFunc,eJ,hc];simpa using gJ,?_⟩
     refine km eJ hc ?_
     have Nw:vs.length=(jZ (kp ju 999999) Q fn.params.toList ps).length:=by rw[w9];exact hl
     have Ga:=Ad (Q:=Q) (kp ju 999999) fn.params.toList ps vs hv
     have xa:aB Q ⟨G,w0,w.heap.size,true⟩ F G w {tmps:=(⟨vs⟩:Array Value)++Array.replicate (fn.ntmps-(⟨vs⟩:Array Value).size) undef,defers:=[]} ⟨fn.ntmps,fj 0 (jZ (kp ju 999999) Q fn.params.toList ps),R⟩:=by
      refine(fo.lo hH (Nat.le_refl _)).state rfl .nil (by simp;omega) (fun t p hp=> ?_)
      obtain⟨_,h2⟩:=mV _ 0 t p hp
      simp at h2
      have bk:t<vs.length:=by have:=(List.getElem?_eq_some_iff.1 h2).1;omega
      have e:((⟨vs⟩:Array Value)++Array.replicate (fn.ntmps-(⟨vs⟩:Array Value).size) undef).getD t undef=vs[t]:=by
       rw[fm]
       simp[List.getElem?_append_left bk,bk]
      rw[e]
      exact cr.of (Ga t _ p (List.getElem?_eq_getElem bk) h2)
     have fin: ∀(s1:S) (qs:List P),cT Q s1 fn.results.toList=some qs->finish Q R.length fn.resultTypes.toList qs s1=some (p,R1)-> ∀a' w',iv Q ⟨G,w0,w.heap.size,true⟩ F G w ⟨fn.ntmps,fj 0 (jZ (kp ju 999999) Q fn.params.toList ps),R⟩ s1 a' w'->
       LeavesInM Fence.wide 0 Q fn a'.tmps (fun e w'=> ∃v2,e= .returned v2/\ ∃F' G',fo Q ⟨G,w0,0,false⟩ F' G' w' R1/\aD F' w' G' R1 v2 p/\Ext (Own G R) (Own G' R1) F F' w w') a'.defers .returning w':=by
      intro s1 qs hq Sg a' w' ⟨F',G',h1,h2⟩
      refine w8 (T:=⟨G,w0,w.heap.size,true⟩) (own0:=Own G R) (F0:=F) (w1:=w) (Nat.le_refl _) (fun w2 h3 h4=> ?_) a'.defers w' h1 h2
      obtain⟨us,g1,g2,g3⟩:=ra h3 hq
      obtain⟨F2,G2,k1,k2,k3⟩:=Ac h3 Sg g2 g3
      exact⟨_,g1,_,rfl,F2,G2,k1.lo,k2,h4.trans k3⟩
     cases hx:bz Q (eZ Q kp lf k) (kp ju) lf c ⟨fn.ntmps,fj 0 (jZ (kp ju 999999) Q fn.params.toList ps),R⟩ with
     |none=>simp[hx] at hr
     |some r=>
      obtain⟨e,s1⟩:=r
      simp only[hx] at hr
      have qag: ∃qs,cT Q s1 fn.results.toList=some qs/\finish Q R.length fn.resultTypes.toList qs s1=some (p,R1):=by
       cases e<;>simp only at hr<;>try (cases hr;done)
       all_goals
        split at hr
        ·rename_i q hq;exact⟨_,hq,hr⟩
        ·cases hr
      obtain⟨qs,hq,Sg⟩:=qag
      refine ff (r:=none) (T:=⟨G,w0,w.heap.size,true⟩) ih hdr c _ e s1 hx F G w _ _ xa (fun a' w' hp=> ?_)
      have:=fin s1 qs hq Sg a' w' hp
      cases e with
      |normal=>exact this
      |ret=>exact this
      |exit id=>simp at hr
end
end Pi
