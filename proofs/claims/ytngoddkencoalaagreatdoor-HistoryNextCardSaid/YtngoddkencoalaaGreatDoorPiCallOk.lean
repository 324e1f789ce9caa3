/- The text PiCallOk. -/
import Derived.Test.YtngoddkencoalaaGreatDoorPiRen
namespace Pi
open Go
def j8 (Q:Program) (f:FuncId) (args:Array Value) (w:World) (R:Value->World->Prop):Prop:=
 ((callFunc f args).run Q w= .ok (.enter f args) w/\Calls Q f args w (fun e w'=> ∃v,e= .returned v/\R v w'))\/ ∃v w',(callFunc f args).run Q w= .ok (.value v) w'/\R v w'
def dt (Q:Program) (w0:World) (cf:CF):Prop:=
 ∀ku ps R p R1,cf ku ps R=some (p,R1)-> ∀(F:Nat->Prop) (G:Nat->Value) (w:World) (vs:List Value),fG Q ⟨G,w0,0,false⟩ F G w R->vs.length=ps.length->
  (∀(i:Nat) (v:Value) (c:P),vs[i]?=some v->ps[i]?=some c->aF F w G R v c)->
  j8 Q ku ⟨vs⟩ w (fun v w'=> ∃F' G',fG Q ⟨G,w0,0,false⟩ F' G' w' R1/\aF F' w' G' R1 v p/\Ext (Own G R) (Own G' R1) F F' w w')
def jf (R1:List (Nat×En)) (σ:Nat->Nat->Option (Nat×Nat)) (i:Nat):Obj:=
 match wS R1 i with |some (_,e1)=>fS σ e1.obj |none=> .gone
theorem xn (R1:List (Nat×En)) (σ:Nat->Nat->Option (Nat×Nat)): ∀(ns:List Nat) (i0:Nat) (R R2:List (Nat×En)),gk R1 σ i0 ns R=some R2->ns.Nodup->
  ∀m,(∀i,posOf ns m i0=some i-> ∃e,lk R m=some e/\lk R2 m=some ⟨e.aX,e.tag,jf R1 σ i⟩)/\(posOf ns m i0=none->lk R2 m=lk R m)
 | [],i0,R,R2,h,_,m=>by
  grind [gk,posOf]
 |n::ns,i0,R,R2,h,ky,m=>by
  simp only[gk] at h
  split at h
  ·cases h
  ·rename_i e he
   obtain⟨hn,ky⟩:=za7.1 ky
   obtain⟨h1,h2⟩:=xn R1 σ ns (i0+1) _ R2 h ky m
   simp only[posOf]
   by_cases hm:n=m
   ·subst hm
    have hp:posOf ns n (i0+1)=none:=by
     cases hp:posOf ns n (i0+1) with
     |none=>rfl
     |some j=>exact absurd (zaC (gy ns n _ j hp).2) hn
    refine⟨fun i hi=> ?_,fun hi=>by simp at hi⟩
    simp at hi
    subst hi
    refine⟨e,he,?_⟩
    rw[h2 hp,bA]
    rfl
   simp_all [bU]
def fj (R:List (Nat×En)) (m:Nat):Nat:=match lk R m with |none=>0 |some e0=>e0.aX+1
theorem tN (R1:List (Nat×En)) (σ:Nat->Nat->Option (Nat×Nat)): ∀(ms:List Nat) (m0:Nat) (R R3:List (Nat×En)),kI R1 σ m0 ms R=some R3->
  ∀m,(∀n,(m0<=m/\ms[m-m0]?=some n)-> ∃e1,lk R1 n=some e1/\lk R3 m=some ⟨fj R m,none,fS σ e1.obj⟩/\ ∀e0,lk R m=some e0->e0.obj= .gone)/\
   ((m<m0\/m0+ms.length<=m)->lk R3 m=lk R m)
 | [],m0,R,R3,h,m=>by
  grind [kI]
 |n::ms,m0,R,R3,h,m=>by
  simp only[kI] at h
  split at h
  ·cases h
  ·rename_i e1 DS
   have key: ∃aX,kI R1 σ (m0+1) ms (ins m0 ⟨aX,none,fS σ e1.obj⟩ R)=some R3/\aX=fj R m0/\ ∀e0,lk R m0=some e0->e0.obj= .gone:=by
    grind [fj]
   obtain⟨aX,h,Ps,qi8⟩:=key
   obtain⟨h1,h2⟩:=tN R1 σ ms (m0+1) _ R3 h m
   grind [bA,fj,bU]
theorem rj {R1:List (Nat×En)} {i m:Nat} {e:En} (h:wS R1 i=some (m,e)):lk R1 m=some e/\e.tag=some i:=by
 unfold wS at h
 split at h
 ·split at h
  ·rename_i e' he
   split at h
   ·simp_all
   ·cases h
  ·cases h
 ·cases h
section
variable {Q:Program} {T:Tg} {F:Nat->Prop} {G:Nat->Value} {w:World} {a:Act} {s:S}
theorem AQ {t:TypeId} {p q:P} {s':S} {v:Value} (h:aC Q T F G w a s) (h1:kH Q s t p=some (s',q)) (hvp:aF F w G s.rg v p):
  ∃F',aC Q T F' G w a s'/\Ext (Own G s.rg) (Own G s'.rg) F F' w w/\Names G G s.rg s'.rg/\(∀b,F b->F' b)/\aF F' w G s'.rg v q:=by
 unfold kH at h1
 split at h1
 ·split at h1
  ·split at h1
   ·rename_i s3 x hx
    obtain⟨rfl,rfl⟩:=h1
    obtain⟨F',f1,f2,f3,f4,f5⟩:=wg h hx hvp
    exact⟨F',f1,f2,f3,f4,.d f5⟩
   ·cases h1
  grind [Ext.refl,Names.refl]
 ·split at h1
  ·rw[D.force_eq] at h1
   obtain⟨rfl,rfl⟩:=h1
   cases hvp with
   |d hd=>exact⟨F,h,Ext.refl _ _ _,Names.refl _ _,fun _ h=>h,.d (Po hd)⟩
  grind [Ext.refl,Names.refl]
 grind [Ext.refl,Names.refl]
theorem xo: ∀(ps:List P) (ts:List TypeId) (s:S) (F:Nat->Prop) (s':S) (qs:List P) (vs:List Value),aC Q T F G w a s->eC Q s ts ps=some (s',qs)->vs.length=ps.length->
  (∀(i:Nat) (v:Value) (c:P),vs[i]?=some v->ps[i]?=some c->aF F w G s.rg v c)->
  ∃F',aC Q T F' G w a s'/\Ext (Own G s.rg) (Own G s'.rg) F F' w w/\Names G G s.rg s'.rg/\(∀b,F b->F' b)/\vs.length=qs.length/\ ∀(i:Nat) (v:Value) (c:P),vs[i]?=some v->qs[i]?=some c->aF F' w G s'.rg v c
 | [],ts,s,F,s',xs,vs,h,hs,hl,hv=>by
  grind [eC,Ext.refl,Names.refl]
 |p::ps,ts,s,F,s',xs,vs,h,hs,hl,hv=>by
  cases vs with
  |nil=>simp at hl
  |cons v vs=>
   simp only[eC] at hs
   split at hs
   ·cases hs
   ·rename_i s1 q h1
    split at hs
    ·rename_i s2 qs2 h2
     simp at hs
     obtain⟨rfl,rfl⟩:=hs
     have one: ∃F',aC Q T F' G w a s1/\Ext (Own G s.rg) (Own G s1.rg) F F' w w/\Names G G s.rg s1.rg/\(∀b,F b->F' b)/\aF F' w G s1.rg v q:=by
      have hvp:=hv 0 v p (by simp) (by simp)
      unfold oZ at h1
      split at h1
      ·split at h1
       ·rename_i s3 x hx
        obtain⟨rfl,rfl⟩:=h1
        obtain⟨F',f1,f2,f3,f4,f5⟩:=wc h hx hvp
        exact⟨F',f1,f2,f3,f4,.d f5⟩
       ·cases h1
      ·split at h1
       ·rename_i s3 x hx
        obtain⟨rfl,rfl⟩:=h1
        obtain⟨F',f1,f2,f3,f4,f5⟩:=wc h hx hvp
        exact⟨F',f1,f2,f3,f4,.d f5⟩
       ·cases h1
      grind [AQ]
     obtain⟨F1,a1,a2,a3,a4,a5⟩:=one
     obtain⟨F2,b1,b2,b3,b4,b5,b6⟩:=xo ps ts.tail s1 F1 s2 qs2 vs a1 h2 (by grind)
      (fun i u c hu hc=>(hv (i+1) u c (by grind) (by grind)).mono a4 (fun _ _=>rfl) a3)
     refine⟨F2,b1,a2.trans b2,a3.trans b3,fun b hb=>b4 b (a4 b hb),by grind,fun i u c hu hc=> ?_⟩
     cases i with
     |zero=>simp at hu hc;subst hu;subst hc;exact a5.mono b4 (fun _ _=>rfl) b3
     |succ i=>grind
    ·cases hs
theorem uL {f:FuncId} (ps:List P) (s:S) (F:Nat->Prop) (s':S) (qs:List P) (vs:List Value) (h:aC Q T F G w a s) (hs:cL Q s f ps=some (s',qs)) (hl:vs.length=ps.length)
  (hv: ∀(i:Nat) (v:Value) (c:P),vs[i]?=some v->ps[i]?=some c->aF F w G s.rg v c):
  ∃F',aC Q T F' G w a s'/\Ext (Own G s.rg) (Own G s'.rg) F F' w w/\Names G G s.rg s'.rg/\(∀b,F b->F' b)/\vs.length=qs.length/\ ∀(i:Nat) (v:Value) (c:P),vs[i]?=some v->qs[i]?=some c->aF F' w G s'.rg v c:=by
 grind [cL,Ext.refl,Names.refl,xo]
theorem rk (h:aC Q T F G w a s) {ns ms:List Nat} {base:Nat} (EB:dU ns=true) (hms:dU ms=true) {R0 R1 R2 R3:List (Nat×En)} (jL:sub s.rg (toPos s.rg ns) true 0 ns=some R0)
  {F2:Nat->Prop} {G2:Nat->Value} {w':World} (PD:fG Q ⟨fun i=>G (ns.getD i 0),T.w0,0,false⟩ F2 G2 w' R1) (mG:Ext (Own (fun i=>G (ns.getD i 0)) R0) (Own G2 R1) F F2 w w')
  (qhK: ∀m∈ms,∃e,lk R1 m=some e/\e.tag=none)
  (jV:gk R1 (fa R1 s.rg ns ms base) 0 ns s.rg=some R2) (fZ:kI R1 (fa R1 s.rg ns ms base) base ms R2=some R3):
  ∃G3,aC Q T F2 G3 w' a {s with rg:=R3}/\Ext (Own G s.rg) (Own G3 R3) F F2 w w'/\EK G2 G3 R1 R3 (fa R1 s.rg ns ms base):=by
 have V6:=dD ns EB
 have qe5:=dD ms hms
 obtain⟨s1,s2,s3⟩:=h.heap.sub jL EB
 simp only[zba] at s1
 let σ:=fa R1 s.rg ns ms base
 have HW: ∀m,(∃n,base<=m/\ms[m-base]?=some n)\/(m<base\/base+ms.length<=m):=fun m=>by
  by_cases h1:base<=m/\m-base<ms.length
  ·exact .inl ⟨_,h1.1,zae h1.2⟩
  ·exact .inr (by omega)
 let G3:Nat->Value:=fun m=>if base<=m/\m-base<ms.length then G2 (ms.getD (m-base) 0) else G m
 have PE: ∀m n,base<=m->ms[m-base]?=some n->G3 m=G2 n:=fun m n h1 h2=>by
  have:=(zad.1 h2).1
  simp only[G3,zao (show base<=m/\m-base<ms.length from⟨h1,this⟩)]
  simp[zac,h2]
 have HX: ∀m,(m<base\/base+ms.length<=m)->G3 m=G m:=fun m h1=>by
  simp only[G3,zam (show ¬(base<=m/\m-base<ms.length) by omega)]
 have hb:=fun m=>xn R1 σ ns 0 s.rg R2 jV V6 m
 have hn:=fun m=>tN R1 σ ms base R2 R3 fZ m
 have Kk: ∀m,fj R2 m=fj s.rg m:=fun m=>by
  cases hp:posOf ns m 0 with
  |none=>simp[fj,(hb m).2 hp]
  |some i=>
   obtain⟨e,h1,h2⟩:=(hb m).1 i hp
   simp[fj,h1,h2]
 have hR3: ∀m e',lk R3 m=some e'->
   (∃n e1,base<=m/\ms[m-base]?=some n/\lk R1 n=some e1/\e'=⟨fj s.rg m,none,fS σ e1.obj⟩/\G3 m=G2 n)\/
   (∃i e,ns[i]?=some m/\lk s.rg m=some e/\e'=⟨e.aX,e.tag,jf R1 σ i⟩/\G3 m=G m)\/
   (m∉ns/\lk s.rg m=some e'/\G3 m=G m):=fun m e' cI=>by
  rcases HW m with⟨n,h1,h2⟩|h1
  ·obtain⟨e1,g1,g2,g3⟩:=(hn m).1 n ⟨h1,h2⟩
   rw[cI] at g2
   cases g2
   exact .inl ⟨n,e1,h1,h2,g1,by rw[Kk],PE m n h1 h2⟩
  ·rw[(hn m).2 h1] at cI
   cases hp:posOf ns m 0 with
   |none=>rw[(hb m).2 hp] at cI;exact .inr (.inr ⟨ri _ _ _ hp,cI,HX m h1⟩)
   |some i=>
    obtain⟨e,g1,g2⟩:=(hb m).1 i hp
    rw[cI] at g2
    cases g2
    obtain⟨_,hi⟩:=gy ns m 0 i hp
    exact .inr (.inl ⟨i,e,by simpa using hi,g1,rfl,HX m h1⟩)
 have AP:EK G2 G3 R1 R3 σ:=by
  intro n v n' v' hσ
  simp only[σ,fa] at hσ
  split at hσ
  ·cases hσ
  ·rename_i e1 DS
   split at hσ
   ·rename_i hv
    have hv:e1.aX=v:=by simpa using hv
    split at hσ
    ·rename_i i VW
     split at hσ
     ·rename_i m n1 ex hm htn
      split at hσ
      ·rename_i Pf
       have Pf:n1=n:=by simpa using Pf
       subst Pf
       split at hσ
       ·rename_i e0 Kf
        simp at hσ
        obtain⟨rfl,rfl⟩:=hσ
        have hp:=fh V6 hm
        obtain⟨e,g1,g2⟩:=(hb m).1 i hp
        rw[Kf] at g1
        cases g1
        obtain⟨qe6,qjd⟩:=rj htn
        rw[DS] at qe6
        cases qe6
        have hbo:jf R1 σ i=fS σ e1.obj:=by simp[jf,htn]
        rcases HW m with⟨nn,h1,h2⟩|h1
        ·obtain⟨e2,k1,k2,k3⟩:=(hn m).1 nn ⟨h1,h2⟩
         refine⟨_,k2,?_,fun hvv _=> ?_⟩
         ·simp[fj,g2]
         ·simp[fj,g2] at hvv
        ·have hl3:=(hn m).2 h1
         rw[g2] at hl3
         refine⟨_,hl3,zaj _,fun _ gX=>⟨⟨e1,DS,hv,?_⟩,?_⟩⟩
         ·rw[hbo,lQ] at gX;exact gX
         ·rw[HX m h1]
          rw[hbo,lQ] at gX
          have:=PD.tag n1 e1 i DS VW gX
          rw[this]
          simp[zac,hm]
       ·cases hσ
      ·cases hσ
     ·cases hσ
    ·rename_i VW
     split at hσ
     ·rename_i j hj
      obtain⟨_,Ki⟩:=gy ms n 0 j hj
      simp at Ki
      have hm:ms[base+j-base]?=some n:=by rw[show base+j-base=j by omega];exact Ki
      obtain⟨e2,k1,k2,k3⟩:=(hn (base+j)).1 n ⟨by omega,hm⟩
      rw[DS] at k1
      cases k1
      have hnv:n'=base+j/\v'=fj s.rg (base+j):=by
       split at hσ
       ·rename_i hl;simp at hσ;obtain⟨rfl,rfl⟩:=hσ;simp[fj,hl]
       ·rename_i e0 hl;simp at hσ;obtain⟨rfl,rfl⟩:=hσ;simp[fj,hl]
      obtain⟨rfl,rfl⟩:=hnv
      refine⟨_,k2,by rw[Kk];exact zaj _,fun _ gX=>⟨⟨e1,DS,hv,by rw[lQ] at gX;exact gX⟩,PE _ n (by omega) hm⟩⟩
     ·cases hσ
   ·cases hσ
 have xp: ∀b,Own (fun i=>G (ns.getD i 0)) R0 b-> ∃n e,n∈ns/\lk s.rg n=some e/\bF (G n) e.obj=some b:=s3
 have hFF: ∀b,F b->w'.heap[b]?=w.heap[b]?:=fun b hb=>mG.keep b (h.jm b hb) (fun ho=>by
  obtain⟨n,e,_,he,dj⟩:=xp b ho
  exact h.mq n e b he dj hb)
 have pd: ∀m e b,m∉ns->lk s.rg m=some e->bF (G m) e.obj=some b-> ¬Own (fun i=>G (ns.getD i 0)) R0 b:=fun m e b hm he hb ho=>by
  obtain⟨n,e2,UW,U2,cm⟩:=xp b ho
  exact hm (by rw[h.own m n e e2 b he U2 hb cm];exact UW)
 have PF:Names G G3 s.rg R3:=by
  constructor
  ·intro m e he
   rcases HW m with⟨n,h1,h2⟩|h1
   ·obtain⟨e1,g1,g2,g3⟩:=(hn m).1 n ⟨h1,h2⟩
    refine⟨_,g2,by rw[Kk];simp[fj,he],fun hv _=> ?_⟩
    rw[Kk] at hv
    simp[fj,he] at hv
   ·cases hp:posOf ns m 0 with
    |none=>
     refine⟨e,by rw[(hn m).2 h1,(hb m).2 hp];exact he,zaj _,fun _ h=>h⟩
    |some i=>
     obtain⟨e0,g1,g2⟩:=(hb m).1 i hp
     rw[he] at g1
     cases g1
     obtain⟨_,hi⟩:=gy ns m 0 i hp
     simp at hi
     obtain⟨e2,k1,k2,_⟩:=wh s.rg _ true ns 0 R0 jL i m hi
     rw[he] at k1
     cases k1
     exact⟨⟨e.aX,e.tag,jf R1 σ i⟩,by rw[(hn m).2 h1];exact g2,zaj _,fun _ _=>k2⟩
  ·intro m e e' he cI hv hl
   rcases hR3 m e' cI with⟨n,e1,h1,h2,h3,rfl,h5⟩| ⟨i,e0,h1,h2,rfl,h4⟩| ⟨h1,h2,h3⟩
   ·simp[fj,he] at hv
   ·exact h4
   ·exact h3
 have PG: ∀i o,jf R1 σ i=o->o.live=true-> ∃m1 e1,wS R1 i=some (m1,e1)/\o=fS σ e1.obj:=fun i o ho hl=>by
  unfold jf at ho
  split at ho
  ·rename_i m1 e1 ht
   exact⟨m1,e1,ht,ho.symm⟩
  ·subst ho;simp[Obj.live] at hl
 have EL: ∀(g:Value) (o:Obj) b,bF g o=some b->o.live=true:=fun g o b hb=>by cases o<;>simp_all [bF,Obj.live]
 have Cr: ∀m e' b,lk R3 m=some e'->bF (G3 m) e'.obj=some b->
   (∃n e1,lk R1 n=some e1/\bF (G2 n) e1.obj=some b/\((e1.tag=none/\base<=m/\ms[m-base]?=some n)\/ ∃i,e1.tag=some i/\ns[i]?=some m))\/
   (m∉ns/\lk s.rg m=some e'/\bF (G m) e'.obj=some b):=fun m e' b cI dj=>by
  rcases hR3 m e' cI with⟨n,e1,h1,h2,h3,rfl,h5⟩| ⟨i,e0,h1,h2,rfl,h4⟩| ⟨h1,h2,h3⟩
  ·simp only[pj] at dj
   rw[h5] at dj
   obtain⟨e2,k1,k2⟩:=qhK n (zaC h2)
   rw[h3] at k1
   cases k1
   exact .inl ⟨n,e1,h3,dj,.inl ⟨k2,h1,h2⟩⟩
  ·obtain⟨m1,e1,k1,k2⟩:=PG i _ rfl (EL _ _ _ dj)
   simp only at dj
   rw[k2,pj,h4] at dj
   obtain⟨k3,k4⟩:=rj k1
   refine .inl ⟨m1,e1,k3,?_,.inr ⟨i,k4,h1⟩⟩
   have:=PD.tag m1 e1 i k3 k4 (EL _ _ _ dj)
   rw[this]
   simpa [zac,h1] using dj
  ·rw[h3] at dj
   exact .inr ⟨h1,h2,dj⟩
 have hx3:Ext (Own G s.rg) (Own G3 R3) F F2 w w':=by
  refine⟨mG.kN,?_,?_,?_,mG.size,mG.os,mG.tape,mG.output⟩
  ·intro b dj
   rcases mG.mD b dj with h1 |h1 |h1
   ·exact .inl h1
   ·obtain⟨n,e,_,he,cm⟩:=xp b h1
    exact .inr (.inl ⟨n,e,he,cm⟩)
   ·exact .inr (.inr h1)
  ·rintro b ⟨m,e',cI,dj⟩
   rcases Cr m e' b cI dj with⟨n1,f1,g1,g2,_⟩| ⟨g1,g2,g3⟩
   ·rcases mG.lD b ⟨n1,f1,g1,g2⟩ with h1 |h1
    ·obtain⟨n,e,_,he,cm⟩:=xp b h1
     exact .inl ⟨n,e,he,cm⟩
    ·exact .inr h1
   ·exact .inl ⟨m,e',g2,g3⟩
  ·intro b dj bZ
   exact mG.keep b dj (fun ho=>by
    obtain⟨n,e,_,he,cm⟩:=xp b ho
    exact bZ ⟨n,e,he,cm⟩)
 refine⟨G3,⟨h.rf.go hx3,h.size,fun t p hp=>(h.tm t p hp).mono mG.kN hFF PF,?_,?_,?_,PD.jm,?_,fun b hb=>⟨mG.kN b (h.z b hb).1,(hFF b (h.z b hb).1).trans (h.z b hb).2⟩,PD.dr,zaI h.sz mG.size⟩,hx3,AP⟩
 ·intro m e' cI
  rcases hR3 m e' cI with⟨n,e1,h1,h2,h3,rfl,h5⟩| ⟨i,e0,h1,h2,rfl,h4⟩| ⟨h1,h2,h3⟩
  ·exact xl AP h5 (PD.rg n e1 h3)
  ·cases hlv:(jf R1 σ i).live with
   |false=>
    have:jf R1 σ i= .gone:=by cases hbo:jf R1 σ i<;>simp_all [Obj.live]
    simp only[this]
    trivial
   |true=>
    obtain⟨m1,e1,k1,k2⟩:=PG i _ rfl hlv
    obtain⟨k3,k4⟩:=rj k1
    simp only[k2]
    refine xl AP ?_ (PD.rg m1 e1 k3)
    rw[k2,lQ] at hlv
    rw[h4,PD.tag m1 e1 i k3 k4 hlv]
    simp[zac,h1]
  ·exact(h.rg m e' h2).mono mG.kN hFF PF h3 (fun b dj=>mG.keep b ((h.rg m e' h2).lt dj) (pd m e' b h1 h2 dj))
 ·intro m1 m2 e1 e2 b DS U2 jJ cm
  rcases Cr m1 e1 b DS jJ with⟨n1,f1,g1,g2,g3⟩| ⟨g1,g2,g3⟩<;>rcases Cr m2 e2 b U2 cm with⟨n2,f2,k1,k2,k3⟩| ⟨k1,k2,k3⟩
  ·have:=PD.own n1 n2 f1 f2 b g1 k1 g2 k2
   subst this
   rw[g1] at k1
   cases k1
   rcases g3 with⟨t1,p1,p2⟩| ⟨i1,t1,p1⟩<;>rcases k3 with⟨t2,q1,q2⟩| ⟨i2,t2,q1⟩
   ·have a1:=fh qe5 p2
    have a2:=fh qe5 q2
    rw[a1] at a2
    have:=zb1 a2
    omega
   ·rw[t1] at t2;cases t2
   ·rw[t1] at t2;cases t2
   ·rw[t1] at t2
    cases t2
    rw[p1] at q1
    exact zb1 q1
  ·exfalso
   rcases mG.lD b ⟨n1,f1,g1,g2⟩ with h1 |h1
   ·exact pd m2 e2 b k1 k2 k3 h1
   ·have:=(h.rg m2 e2 k2).lt k3;omega
  ·exfalso
   rcases mG.lD b ⟨n2,f2,k1,k2⟩ with h1 |h1
   ·exact pd m1 e1 b g1 g2 g3 h1
   ·have:=(h.rg m1 e1 g2).lt g3;omega
  ·exact h.own m1 m2 e1 e2 b g2 k2 g3 k3
 ·intro m e' b cI dj hf
  rcases Cr m e' b cI dj with⟨n1,f1,g1,g2,_⟩| ⟨g1,g2,g3⟩
  ·exact PD.mq n1 f1 b g1 g2 hf
  ·rcases mG.mD b hf with h1 |h1 |h1
   ·exact h.mq m e' b g2 g3 h1
   ·exact pd m e' b g1 g2 g3 h1
   ·have:=(h.rg m e' g2).lt g3;omega
 ·intro m e' i cI hi hl
  rcases hR3 m e' cI with⟨n,e1,h1,h2,h3,rfl,h5⟩| ⟨i',e0,h1,h2,rfl,h4⟩| ⟨h1,h2,h3⟩
  ·simp at hi
  ·rw[h4]
   obtain⟨e2,k1,k2,_⟩:=wh s.rg _ true ns 0 R0 jL i' m h1
   rw[h2] at k1
   cases k1
   exact h.tag m e0 i h2 hi k2
  ·rw[h3];exact h.tag m e' i h2 hi hl
theorem eO (R1:List (Nat×En)): ∀(l:List Nat) (m:Nat),m∈c8 R1 l-> ∃e,lk R1 m=some e/\e.tag=none
 | [],m,h=>by simp[c8] at h
 |n::r,m,h=>by
  simp only[c8] at h
  split at h
  ·rename_i e he
   split at h
   ·rename_i ht
    rcases zav.1 h with rfl |h
    ·exact⟨e,he,ht⟩
    ·exact eO R1 r m h
   ·exact eO R1 r m h
  ·exact eO R1 r m h
theorem j8.mono {f:FuncId} {args:Array Value} {w:World} {R R':Value->World->Prop} (h:j8 Q f args w R) (hr: ∀v w',R v w'->R' v w'):j8 Q f args w R':=by
 rcases h with⟨h1,h2⟩| ⟨v,w',h1,h2⟩
 ·exact .inl ⟨h1,h2.mono fun e w' ⟨v,he,hv⟩=>⟨v,he,hr v w' hv⟩⟩
 ·exact .inr ⟨v,w',h1,hr v w' h2⟩
theorem Me {cf:CF} (jq:dt Q T.w0 cf) (h:aC Q T F G w a s) {dst:Option Nat} {pf:P} {ps:List P} {s':S} (hs:l8 Q cf s dst pf ps=some s') {fv:Value} {vs:List Value} (hf:aF F w G s.rg fv pf) (hl:vs.length=ps.length)
  (hv: ∀(i:Nat) (v:Value) (c:P),vs[i]?=some v->ps[i]?=some c->aF F w G s.rg v c):
  ∃ku cs,fv= .func (.func ku) #[] ⟨cs⟩/\j8 Q ku ⟨vs++cs⟩ w (fun v w'=> ∃F' G',aC Q T F' G' w' (a.put dst v) s'/\Ext (Own G s.rg) (Own G' s'.rg) F F' w w'):=by
 unfold l8 at hs
 split at hs
 ·rename_i ku cG
  cases hf with
  |fn _ cs _ GU jG=>
   refine⟨ku,cs,rfl,?_⟩
   split at hs
   ·cases hs
   ·rename_i s1 qs EE
    simp only at hs
    split at hs
    ·rename_i ky
     split at hs
     ·cases hs
     ·rename_i R0 jL
      split at hs
      ·cases hs
      ·rename_i p R1 lR
       split at hs
       ·rename_i V7
        have V7:=(zab _ _▸V7:_/\_).1
        split at hs
        ·cases hs
        ·rename_i R2 jV
         split at hs
         ·cases hs
         ·rename_i R3 fZ
          have cN: ∀(i:Nat) (v:Value) (c:P),(vs++cs)[i]?=some v->(ps++cG)[i]?=some c->aF F w G s.rg v c:=fun i v c h1 h2=>by
           by_cases hi:i<vs.length
           ·rw[zaM hi] at h1
            rw[zaM (by omega)] at h2
            exact hv i v c h1 h2
           ·rw[zaZ (by omega)] at h1 h2
            rw[<-hl] at h2
            exact jG _ v c h1 h2
          obtain⟨F1,a1,a2,a3,a4,a5,a6⟩:=uL (ps++cG) s F s1 qs (vs++cs) h EE (by simp[hl,GU]) cN
          obtain⟨b1,b2,b3⟩:=a1.heap.sub jL ky
          simp only[zba] at b1
          have hq:=jq ku _ R0 p R1 lR F1 _ w (vs++cs) b1 (by rw[jo];exact a5) (fun i v c h1 h2=>by
           rw[jn] at h2
           simp only[zaw] at h2
           obtain⟨q,hq,rfl⟩:=h2
           exact nB b2 (a6 i v q h1 hq))
          refine hq.mono fun v w' ⟨F2,G2,c1,c2,c3⟩=> ?_
          obtain⟨G3,d1,d2,d3⟩:=rk a1 ky V7 jL c1 c3 (eO R1 _) jV fZ
          obtain⟨e1,e2⟩:=cv d1 hs (ct.of (nB d3 c2))
          refine⟨F2,G3,e1,?_⟩
          rw[e2]
          exact a2.trans d2
       ·cases hs
    ·cases hs
 ·cases hs
end
end Pi
