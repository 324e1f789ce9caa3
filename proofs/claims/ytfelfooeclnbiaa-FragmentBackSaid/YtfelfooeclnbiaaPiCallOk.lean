/- The text PiCallOk. -/
import Derived.Test.YtfelfooeclnbiaaPiRen
namespace Pi
open Go
def gh(Q:Program)(f:FuncId)(args:Array Value)(w:World)(R:Value->World->Prop):Prop:=
 ((callFunc f args).run Q w= .ok (.enter f args) w/\Calls Q f args w (λe w'=> ∃v,e= .returned v/\R v w'))\/ ∃v w',(callFunc f args).run Q w= .ok (.value v) w'/\R v w'
def iR(Q:Program)(w0:World)(cf:CF):Prop:=
 ∀gS ps R p R1,cf gS ps R=some (p,R1)-> ∀(F:Nat->Prop) (G:Nat->Value) (w:World) (vs:List Value),dO Q ⟨G,w0,0,false⟩ F G w R->vs.length=ps.length->
  (∀(i:Nat) (v:Value) (c:P),vs[i]?=some v->ps[i]?=some c->ao F w G R v c)->
  gh Q gS ⟨vs⟩ w (λv w'=> ∃F' G',dO Q ⟨G,w0,0,false⟩ F' G' w' R1/\ao F' w' G' R1 v p/\Ext (Own G R) (Own G' R1) F F' w w')
def dJ(R1:List (Nat×En))(σ:Nat->Nat->Option (Nat×Nat))(i:Nat):Obj:=
 match ma R1 i with |some (_,e1)=>cF σ e1.obj |none=> .gone
theorem mF(R1:List (Nat×En))(σ:Nat->Nat->Option (Nat×Nat)): ∀(ns:List Nat) (i0:Nat) (R R2:List (Nat×En)),dF R1 σ i0 ns R=some R2->ns.Nodup->
  ∀m,(∀i,posOf ns m i0=some i-> ∃e,lk R m=some e/\lk R2 m=some ⟨e.ay,e.tag,dJ R1 σ i⟩)/\(posOf ns m i0=none->lk R2 m=lk R m)
 | [],i0,R,R2,h,_,m=>by grind [dF,posOf]
 |n::ns,i0,R,R2,h,rH,m=>by
  simp only[dF] at h;split at h
  ·cases h
  rename_i e he;obtain⟨hn,rH⟩:=zbn.1 rH;obtain⟨h1,h2⟩:=mF R1 σ ns (i0+1) _ R2 h rH m;simp only[posOf];by_cases hm:n=m
  ·subst hm;have hp:posOf ns n (i0+1)=none:=by
    cases hp:posOf ns n (i0+1) with
    |none=>rfl
    |some j=>exact absurd (zaq (cQ ns n _ j hp).2) hn
   refine⟨λi hi=> ?_,λhi=>by simp at hi⟩;simp at hi;subst hi;refine⟨e,he,?_⟩;rw[h2 hp,aK];rfl
  simp_all [aS]
def cv(R:List (Nat×En))(m:Nat):Nat:=match lk R m with |none=>0 |some e0=>e0.ay+1
theorem kI(R1:List (Nat×En))(σ:Nat->Nat->Option (Nat×Nat)): ∀(ms:List Nat) (m0:Nat) (R R3:List (Nat×En)),fW R1 σ m0 ms R=some R3->
  ∀m,(∀n,(m0<=m/\ms[m-m0]?=some n)-> ∃e1,lk R1 n=some e1/\lk R3 m=some ⟨cv R m,none,cF σ e1.obj⟩/\ ∀e0,lk R m=some e0->e0.obj= .gone)/\
   ((m<m0\/m0+ms.length<=m)->lk R3 m=lk R m)
 | [],m0,R,R3,h,m=>by grind [fW]
 |n::ms,m0,R,R3,h,m=>by
  simp only[fW] at h;split at h
  ·cases h
  rename_i e1 nM;have key: ∃ay,fW R1 σ (m0+1) ms (ins m0 ⟨ay,none,cF σ e1.obj⟩ R)=some R3/\ay=cv R m0/\ ∀e0,lk R m0=some e0->e0.obj= .gone:=by grind [cv]
  obtain⟨ay,h,hS,Gi⟩:=key;obtain⟨h1,h2⟩:=kI R1 σ ms (m0+1) _ R3 h m;grind [aK,cv,aS]
theorem jx{R1:List (Nat×En)}{i m:Nat}{e:En}(h:ma R1 i=some (m,e)):lk R1 m=some e/\e.tag=some i:=by
 unfold ma at h;split at h
 ·split at h
  next e' he=>
   split at h
   ·simp_all
   cases h
  cases h
 cases h
section
variable{Q:Program}{T:Tg}{F:Nat->Prop}{G:Nat->Value}{w:World}{a:Act}{s:S}
theorem oD{t:TypeId}{p q:P}{s':S}{v:Value}(h:ar Q T F G w a s)(h1:eH Q s t p=some (s',q))(CB:ao F w G s.rg v p):
  ∃F',ar Q T F' G w a s'/\Ext (Own G s.rg) (Own G s'.rg) F F' w w/\Names G G s.rg s'.rg/\(∀b,F b->F' b)/\ao F' w G s'.rg v q:=by
 unfold eH at h1;split at h1
 ·split at h1
  ·split at h1
   next s3 x hx=>obtain⟨rfl,rfl⟩:=h1;obtain⟨F',f1,f2,f3,f4,f5⟩:=lY h hx CB;exact⟨F',f1,f2,f3,f4,.d f5⟩
   cases h1
  grind [Ext.refl,Names.refl]
 ·split at h1
  ·rw[D.force_eq] at h1;obtain⟨rfl,rfl⟩:=h1;cases CB with
   |d hd=>exact⟨F,h,Ext.refl _ _ _,Names.refl _ _,λ_ h=>h,.d (wQ hd)⟩
  grind [Ext.refl,Names.refl]
 grind [Ext.refl,Names.refl]
theorem mG: ∀(ps:List P) (ts:List TypeId) (s:S) (F:Nat->Prop) (s':S) (qs:List P) (vs:List Value),ar Q T F G w a s->bY Q s ts ps=some (s',qs)->vs.length=ps.length->
  (∀(i:Nat) (v:Value) (c:P),vs[i]?=some v->ps[i]?=some c->ao F w G s.rg v c)->
  ∃F',ar Q T F' G w a s'/\Ext (Own G s.rg) (Own G s'.rg) F F' w w/\Names G G s.rg s'.rg/\(∀b,F b->F' b)/\vs.length=qs.length/\ ∀(i:Nat) (v:Value) (c:P),vs[i]?=some v->qs[i]?=some c->ao F' w G s'.rg v c
 | [],ts,s,F,s',xs,vs,h,hs,hl,hv=>by grind [bY,Ext.refl,Names.refl]
 |p::ps,ts,s,F,s',xs,vs,h,hs,hl,hv=>by
  cases vs with
  |nil=>simp at hl
  |cons v vs=>
   simp only[bY] at hs;split at hs
   ·cases hs
   rename_i s1 q h1;split at hs
   ·rename_i s2 AO h2;simp at hs;obtain⟨rfl,rfl⟩:=hs;have one: ∃F',ar Q T F' G w a s1/\Ext (Own G s.rg) (Own G s1.rg) F F' w w/\Names G G s.rg s1.rg/\(∀b,F b->F' b)/\ao F' w G s1.rg v q:=by
     have CB:=hv 0 v p (by simp) (by simp);unfold gR at h1;split at h1
     ·split at h1
      next s3 x hx=>obtain⟨rfl,rfl⟩:=h1;obtain⟨F',f1,f2,f3,f4,f5⟩:=lX h hx CB;exact⟨F',f1,f2,f3,f4,.d f5⟩
      cases h1
     ·split at h1
      next s3 x hx=>obtain⟨rfl,rfl⟩:=h1;obtain⟨F',f1,f2,f3,f4,f5⟩:=lX h hx CB;exact⟨F',f1,f2,f3,f4,.d f5⟩
      cases h1
     grind [oD]
    obtain⟨F1,a1,a2,a3,a4,a5⟩:=one;obtain⟨F2,b1,b2,b3,b4,b5,b6⟩:=mG ps ts.tail s1 F1 s2 AO vs a1 h2 (by grind)
     (λi u c hu hc=>(hv (i+1) u c (by grind) (by grind)).mono a4 (λ_ _=>rfl) a3)
    refine⟨F2,b1,a2.trans b2,a3.trans b3,λb hb=>b4 b (a4 b hb),by grind,λi u c hu hc=> ?_⟩;cases i with
    |zero=>simp at hu hc;subst hu;subst hc;exact a5.mono b4 (λ_ _=>rfl) b3
    |succ i=>grind
   cases hs
theorem qJ{f:FuncId}(ps:List P)(s:S)(F:Nat->Prop)(s':S)(qs:List P)(vs:List Value)(h:ar Q T F G w a s)(hs:br Q s f ps=some (s',qs))(hl:vs.length=ps.length)
  (hv: ∀(i:Nat) (v:Value) (c:P),vs[i]?=some v->ps[i]?=some c->ao F w G s.rg v c):
  ∃F',ar Q T F' G w a s'/\Ext (Own G s.rg) (Own G s'.rg) F F' w w/\Names G G s.rg s'.rg/\(∀b,F b->F' b)/\vs.length=qs.length/\ ∀(i:Nat) (v:Value) (c:P),vs[i]?=some v->qs[i]?=some c->ao F' w G s'.rg v c:=by
 grind [br,Ext.refl,Names.refl,mG]
theorem sw(h:ar Q T F G w a s){ns ms:List Nat}{base:Nat}(rG:du ns=true)(Hh:du ms=true){R0 R1 R2 R3:List (Nat×En)}(nR:sub s.rg (toPos s.rg ns) true 0 ns=some R0)
  {F2:Nat->Prop} {G2:Nat->Value} {w':World} (zb:dO Q ⟨λi=>G (ns.getD i 0),T.w0,0,false⟩ F2 G2 w' R1) (fF:Ext (Own (λi=>G (ns.getD i 0)) R0) (Own G2 R1) F F2 w w')
  (EP: ∀m∈ms,∃e,lk R1 m=some e/\e.tag=none)
  (gw:dF R1 (eI R1 s.rg ns ms base) 0 ns s.rg=some R2) (df:fW R1 (eI R1 s.rg ns ms base) base ms R2=some R3):
  ∃G3,ar Q T F2 G3 w' a {s with rg:=R3}/\Ext (Own G s.rg) (Own G3 R3) F F2 w w'/\qG G2 G3 R1 R3 (eI R1 s.rg ns ms base):=by
 have zd:=cU ns rG;have CC:=cU ms Hh;obtain⟨s1,s2,s3⟩:=h.heap.sub nR rG;simp only[za2] at s1
 let σ:=eI R1 s.rg ns ms base
 have sx: ∀m,(∃n,base<=m/\ms[m-base]?=some n)\/(m<base\/base+ms.length<=m):=λm=>by
  by_cases h1:base<=m/\m-base<ms.length
  ·exact .inl ⟨_,h1.1,zad h1.2⟩
  exact .inr (by omega)
 let G3:Nat->Value:=λm=>if base<=m/\m-base<ms.length then G2 (ms.getD (m-base) 0) else G m
 have xc: ∀m n,base<=m->ms[m-base]?=some n->G3 m=G2 n:=λm n h1 h2=>by have:=(zaa.1 h2).1;simp only[G3,zau (show base<=m/\m-base<ms.length from⟨h1,this⟩)];simp[zah,h2]
 have sA: ∀m,(m<base\/base+ms.length<=m)->G3 m=G m:=λm h1=>by simp only[G3,zay (show ¬(base<=m/\m-base<ms.length) by omega)]
 have hb:=λm=>mF R1 σ ns 0 s.rg R2 gw zd m;have hn:=λm=>kI R1 σ ms base R2 R3 df m;have tL: ∀m,cv R2 m=cv s.rg m:=λm=>by
  cases hp:posOf ns m 0 with
  |none=>simp[cv,(hb m).2 hp]
  |some i=>obtain⟨e,h1,h2⟩:=(hb m).1 i hp;simp[cv,h1,h2]
 have DJ: ∀m e',lk R3 m=some e'->
   (∃n e1,base<=m/\ms[m-base]?=some n/\lk R1 n=some e1/\e'=⟨cv s.rg m,none,cF σ e1.obj⟩/\G3 m=G2 n)\/
   (∃i e,ns[i]?=some m/\lk s.rg m=some e/\e'=⟨e.ay,e.tag,dJ R1 σ i⟩/\G3 m=G m)\/
   (m∉ns/\lk s.rg m=some e'/\G3 m=G m):=λm e' bb=>by
  rcases sx m with⟨n,h1,h2⟩|h1
  ·obtain⟨e1,g1,g2,g3⟩:=(hn m).1 n ⟨h1,h2⟩;rw[bb] at g2;cases g2;exact .inl ⟨n,e1,h1,h2,g1,by rw[tL],xc m n h1 h2⟩
  rw[(hn m).2 h1] at bb;cases hp:posOf ns m 0 with
  |none=>rw[(hb m).2 hp] at bb;exact .inr (.inr ⟨jv _ _ _ hp,bb,sA m h1⟩)
  |some i=>obtain⟨e,g1,g2⟩:=(hb m).1 i hp;rw[bb] at g2;cases g2;obtain⟨_,hi⟩:=cQ ns m 0 i hp;exact .inr (.inl ⟨i,e,by simpa using hi,g1,rfl,sA m h1⟩)
 have oC:qG G2 G3 R1 R3 σ:=by
  intro n v n' v' hσ;simp only[σ,eI] at hσ;split at hσ
  ·cases hσ
  rename_i e1 nM;split at hσ
  next hv=>
   have hv:e1.ay=v:=by simpa using hv
   split at hσ
   ·rename_i i yQ;split at hσ
    ·rename_i m n1 ex hm Gj;split at hσ
     ·rename_i yo;have yo:n1=n:=by simpa using yo
      subst yo;split at hσ
      ·rename_i e0 yR;simp at hσ;obtain⟨rfl,rfl⟩:=hσ;have hp:=cu zd hm;obtain⟨e,g1,g2⟩:=(hb m).1 i hp;rw[yR] at g1;cases g1;obtain⟨CD,Hi⟩:=jx Gj;rw[nM] at CD;cases CD;have ER:dJ R1 σ i=cF σ e1.obj:=by simp[dJ,Gj]
       rcases sx m with⟨nn,h1,h2⟩|h1
       ·obtain⟨e2,k1,k2,k3⟩:=(hn m).1 nn ⟨h1,h2⟩;refine⟨_,k2,?_,λHj _=> ?_⟩
        ·simp[cv,g2]
        simp[cv,g2] at Hj
       have DC:=(hn m).2 h1;rw[g2] at DC;refine⟨_,DC,zaf _,λ_ dg=>⟨⟨e1,nM,hv,?_⟩,?_⟩⟩
       ·rw[ER,fb] at dg;exact dg
       rw[sA m h1];rw[ER,fb] at dg;have:=zb.tag n1 e1 i nM yQ dg;rw[this];simp[zah,hm]
      cases hσ
     cases hσ
    cases hσ
   rename_i yQ;split at hσ
   ·rename_i j hj;obtain⟨_,yX⟩:=cQ ms n 0 j hj;simp at yX;have hm:ms[base+j-base]?=some n:=by rw[show base+j-base=j by omega];exact yX
    obtain⟨e2,k1,k2,k3⟩:=(hn (base+j)).1 n ⟨by omega,hm⟩;rw[nM] at k1;cases k1;have Hk:n'=base+j/\v'=cv s.rg (base+j):=by
     split at hσ
     next hl=>simp at hσ;obtain⟨rfl,rfl⟩:=hσ;simp[cv,hl]
     rename_i e0 hl;simp at hσ;obtain⟨rfl,rfl⟩:=hσ;simp[cv,hl]
    obtain⟨rfl,rfl⟩:=Hk;refine⟨_,k2,by rw[tL];exact zaf _,λ_ dg=>⟨⟨e1,nM,hv,by rw[fb] at dg;exact dg⟩,xc _ n (by omega) hm⟩⟩
   cases hσ
  cases hσ
 have mH: ∀b,Own (λi=>G (ns.getD i 0)) R0 b-> ∃n e,n∈ns/\lk s.rg n=some e/\aH (G n) e.obj=some b:=s3;have AJ: ∀b,F b->w'.heap[b]?=w.heap[b]?:=λb hb=>fF.keep b (h.gK b hb) (λho=>by obtain⟨n,e,_,he,bX⟩:=mH b ho;exact h.iO n e b he bX hb);have kD: ∀m e b,m∉ns->lk s.rg m=some e->aH (G m) e.obj=some b-> ¬Own (λi=>G (ns.getD i 0)) R0 b:=λm e b hm he hb ho=>by obtain⟨n,e2,Dz,yp,js⟩:=mH b ho;exact hm (by rw[h.own m n e e2 b he yp hb js];exact Dz)
 have xd:Names G G3 s.rg R3:=by
  constructor
  ·intro m e he;rcases sx m with⟨n,h1,h2⟩|h1
   ·obtain⟨e1,g1,g2,g3⟩:=(hn m).1 n ⟨h1,h2⟩;refine⟨_,g2,by rw[tL];simp[cv,he],λhv _=> ?_⟩;rw[tL] at hv;simp[cv,he] at hv
   cases hp:posOf ns m 0 with
   |none=>refine⟨e,by rw[(hn m).2 h1,(hb m).2 hp];exact he,zaf _,λ_ h=>h⟩
   |some i=>obtain⟨e0,g1,g2⟩:=(hb m).1 i hp;rw[he] at g1;cases g1;obtain⟨_,hi⟩:=cQ ns m 0 i hp;simp at hi;obtain⟨e2,k1,k2,_⟩:=l0 s.rg _ true ns 0 R0 nR i m hi;rw[he] at k1;cases k1;exact⟨⟨e.ay,e.tag,dJ R1 σ i⟩,by rw[(hn m).2 h1];exact g2,zaf _,λ_ _=>k2⟩
  intro m e e' he bb hv hl;rcases DJ m e' bb with⟨n,e1,h1,h2,h3,rfl,h5⟩| ⟨i,e0,h1,h2,rfl,h4⟩| ⟨h1,h2,h3⟩
  ·simp[cv,he] at hv
  ·exact h4
  exact h3
 have xe: ∀i o,dJ R1 σ i=o->o.live=true-> ∃m1 e1,ma R1 i=some (m1,e1)/\o=cF σ e1.obj:=λi o ho hl=>by
  unfold dJ at ho;split at ho
  next m1 e1 ht=>exact⟨m1,e1,ht,ho.symm⟩
  subst ho;simp[Obj.live] at hl
 have qK: ∀(g:Value) (o:Obj) b,aH g o=some b->o.live=true:=λg o b hb=>by cases o<;>simp_all [aH,Obj.live]
 have pA: ∀m e' b,lk R3 m=some e'->aH (G3 m) e'.obj=some b->
   (∃n e1,lk R1 n=some e1/\aH (G2 n) e1.obj=some b/\((e1.tag=none/\base<=m/\ms[m-base]?=some n)\/ ∃i,e1.tag=some i/\ns[i]?=some m))\/
   (m∉ns/\lk s.rg m=some e'/\aH (G m) e'.obj=some b):=λm e' b bb bX=>by
  rcases DJ m e' bb with⟨n,e1,h1,h2,h3,rfl,h5⟩| ⟨i,e0,h1,h2,rfl,h4⟩| ⟨h1,h2,h3⟩
  ·simp only[hY] at bX;rw[h5] at bX;obtain⟨e2,k1,k2⟩:=EP n (zaq h2);rw[h3] at k1;cases k1;exact .inl ⟨n,e1,h3,bX,.inl ⟨k2,h1,h2⟩⟩
  ·obtain⟨m1,e1,k1,k2⟩:=xe i _ rfl (qK _ _ _ bX);simp only at bX;rw[k2,hY,h4] at bX;obtain⟨k3,k4⟩:=jx k1;refine .inl ⟨m1,e1,k3,?_,.inr ⟨i,k4,h1⟩⟩;have:=zb.tag m1 e1 i k3 k4 (qK _ _ _ bX);rw[this];simpa [zah,h1] using bX
  rw[h3] at bX;exact .inr ⟨h1,h2,bX⟩
 have DI:Ext (Own G s.rg) (Own G3 R3) F F2 w w':=by
  refine⟨fF.gZ,?_,?_,?_,fF.size,fF.os,fF.tape,fF.output⟩
  ·intro b bX;rcases fF.mc b bX with h1 |h1 |h1
   ·exact .inl h1
   ·obtain⟨n,e,_,he,js⟩:=mH b h1;exact .inr (.inl ⟨n,e,he,js⟩)
   exact .inr (.inr h1)
  ·rintro b ⟨m,e',bb,bX⟩;rcases pA m e' b bb bX with⟨n1,f1,g1,g2,_⟩| ⟨g1,g2,g3⟩
   ·rcases fF.jU b ⟨n1,f1,g1,g2⟩ with h1 |h1
    ·obtain⟨n,e,_,he,js⟩:=mH b h1;exact .inl ⟨n,e,he,js⟩
    exact .inr h1
   exact .inl ⟨m,e',g2,g3⟩
  intro b bX dY;exact fF.keep b bX (λho=>by obtain⟨n,e,_,he,js⟩:=mH b ho;exact dY ⟨n,e,he,js⟩)
 refine⟨G3,⟨h.r4.go DI,h.size,λt p hp=>(h.tm t p hp).mono fF.gZ AJ xd,?_,?_,?_,zb.gK,?_,λb hb=>⟨fF.gZ b (h.z b hb).1,(AJ b (h.z b hb).1).trans (h.z b hb).2⟩,zb.dr,zaB h.sz fF.size⟩,DI,oC⟩
 ·intro m e' bb;rcases DJ m e' bb with⟨n,e1,h1,h2,h3,rfl,h5⟩| ⟨i,e0,h1,h2,rfl,h4⟩| ⟨h1,h2,h3⟩
  ·exact mD oC h5 (zb.rg n e1 h3)
  ·cases AY:(dJ R1 σ i).live with
   |false=>
    have:dJ R1 σ i= .gone:=by cases ER:dJ R1 σ i<;>simp_all [Obj.live]
    simp only[this];trivial
   |true=>obtain⟨m1,e1,k1,k2⟩:=xe i _ rfl AY;obtain⟨k3,k4⟩:=jx k1;simp only[k2];refine mD oC ?_ (zb.rg m1 e1 k3);rw[k2,fb] at AY;rw[h4,zb.tag m1 e1 i k3 k4 AY];simp[zah,h1]
  exact(h.rg m e' h2).mono fF.gZ AJ xd h3 (λb bX=>fF.keep b ((h.rg m e' h2).lt bX) (kD m e' b h1 h2 bX))
 ·intro m1 m2 e1 e2 b nM yp k7 js;rcases pA m1 e1 b nM k7 with⟨n1,f1,g1,g2,g3⟩| ⟨g1,g2,g3⟩<;>rcases pA m2 e2 b yp js with⟨n2,f2,k1,k2,k3⟩| ⟨k1,k2,k3⟩
  ·have:=zb.own n1 n2 f1 f2 b g1 k1 g2 k2;subst this;rw[g1] at k1;cases k1;rcases g3 with⟨t1,p1,p2⟩| ⟨i1,t1,p1⟩<;>rcases k3 with⟨t2,q1,q2⟩| ⟨i2,t2,q1⟩
   ·have a1:=cu CC p2;have a2:=cu CC q2;rw[a1] at a2;have:=zbb a2;omega
   ·rw[t1] at t2;cases t2
   ·rw[t1] at t2;cases t2
   rw[t1] at t2;cases t2;rw[p1] at q1;exact zbb q1
  ·exfalso;rcases fF.jU b ⟨n1,f1,g1,g2⟩ with h1 |h1
   ·exact kD m2 e2 b k1 k2 k3 h1
   have:=(h.rg m2 e2 k2).lt k3;omega
  ·exfalso;rcases fF.jU b ⟨n2,f2,k1,k2⟩ with h1 |h1
   ·exact kD m1 e1 b g1 g2 g3 h1
   have:=(h.rg m1 e1 g2).lt g3;omega
  exact h.own m1 m2 e1 e2 b g2 k2 g3 k3
 ·intro m e' b bb bX hf;rcases pA m e' b bb bX with⟨n1,f1,g1,g2,_⟩| ⟨g1,g2,g3⟩
  ·exact zb.iO n1 f1 b g1 g2 hf
  rcases fF.mc b hf with h1 |h1 |h1
  ·exact h.iO m e' b g2 g3 h1
  ·exact kD m e' b g1 g2 g3 h1
  have:=(h.rg m e' g2).lt g3;omega
 intro m e' i bb hi hl;rcases DJ m e' bb with⟨n,e1,h1,h2,h3,rfl,h5⟩| ⟨i',e0,h1,h2,rfl,h4⟩| ⟨h1,h2,h3⟩
 ·simp at hi
 ·rw[h4];obtain⟨e2,k1,k2,_⟩:=l0 s.rg _ true ns 0 R0 nR i' m h1;rw[h2] at k1;cases k1;exact h.tag m e0 i h2 hi k2
 rw[h3];exact h.tag m e' i h2 hi hl
theorem dK(R1:List (Nat×En)): ∀(l:List Nat) (m:Nat),m∈c6 R1 l-> ∃e,lk R1 m=some e/\e.tag=none
 | [],m,h=>by simp[c6] at h
 |n::r,m,h=>by
  simp only[c6] at h;split at h
  next e he=>
   split at h
   ·rename_i ht;rcases zav.1 h with rfl |h
    ·exact⟨e,he,ht⟩
    exact dK R1 r m h
   exact dK R1 r m h
  exact dK R1 r m h
theorem gh.mono{f:FuncId}{args:Array Value}{w:World}{R R':Value->World->Prop}(h:gh Q f args w R)(hr: ∀v w',R v w'->R' v w'):gh Q f args w R':=by
 rcases h with⟨h1,h2⟩| ⟨v,w',h1,h2⟩
 ·exact .inl ⟨h1,h2.mono λe w' ⟨v,he,hv⟩=>⟨v,he,hr v w' hv⟩⟩
 exact .inr ⟨v,w',h1,hr v w' h2⟩
theorem uP{cf:CF}(iG:iR Q T.w0 cf)(h:ar Q T F G w a s){dst:Option Nat}{pf:P}{ps:List P}{s':S}(hs:fj Q cf s dst pf ps=some s'){fv:Value}{vs:List Value}(hf:ao F w G s.rg fv pf)(hl:vs.length=ps.length)
  (hv: ∀(i:Nat) (v:Value) (c:P),vs[i]?=some v->ps[i]?=some c->ao F w G s.rg v c):
  ∃gS cs,fv= .func (.func gS) #[] ⟨cs⟩/\gh Q gS ⟨vs++cs⟩ w (λv w'=> ∃F' G',ar Q T F' G' w' (a.put dst v) s'/\Ext (Own G s.rg) (Own G' s'.rg) F F' w w'):=by
 unfold fj at hs;split at hs
 next gS cn=>
  cases hf with
  |fn _ cs _ BT fQ=>
   refine⟨gS,cs,rfl,?_⟩;split at hs
   ·cases hs
   rename_i s1 qs vL;simp only at hs;split at hs
   ·rename_i rH;split at hs
    ·cases hs
    rename_i R0 nR;split at hs
    ·cases hs
    rename_i p R1 mI;split at hs
    ·rename_i CG;have CG:=(zac _ _▸CG:_/\_).1;split at hs
     ·cases hs
     rename_i R2 gw;split at hs
     ·cases hs
     rename_i R3 df;have bt: ∀(i:Nat) (v:Value) (c:P),(vs++cs)[i]?=some v->(ps++cn)[i]?=some c->ao F w G s.rg v c:=λi v c h1 h2=>by
      by_cases hi:i<vs.length
      ·rw[zaH hi] at h1;rw[zaH (by omega)] at h2;exact hv i v c h1 h2
      rw[zaK (by omega)] at h1 h2;rw[<-hl] at h2;exact fQ _ v c h1 h2
     obtain⟨F1,a1,a2,a3,a4,a5,a6⟩:=qJ (ps++cn) s F s1 qs (vs++cs) h vL (by simp[hl,BT]) bt;obtain⟨b1,b2,b3⟩:=a1.heap.sub nR rH;simp only[za2] at b1;have hq:=iG gS _ R0 p R1 mI F1 _ w (vs++cs) b1 (by rw[fH];exact a5) (λi v c h1 h2=>by rw[fG] at h2;simp only[zak] at h2;obtain⟨q,hq,rfl⟩:=h2;exact ju b2 (a6 i v q h1 hq));refine hq.mono λv w' ⟨F2,G2,c1,c2,c3⟩=> ?_;obtain⟨G3,d1,d2,d3⟩:=sw a1 rH CG nR c1 c3 (dK R1 _) gw df;obtain⟨e1,e2⟩:=bh d1 hs (bx.of (ju d3 c2));refine⟨F2,G3,e1,?_⟩;rw[e2];exact a2.trans d2
    cases hs
   cases hs
 cases hs
end
end Pi
