/- The text PiCallOk. -/
import Derived.Test.YtngoddkencoalaaGreatDoorPiRen
namespace Pi
open Go
def j9(Q:Program)(f:FuncId)(args:Array Value)(w:World)(R:Value->World->Prop):Prop:=
 ((callFunc f args).run Q w= .ok (.enter f args) w/\Calls Q f args w (λe w'=> ∃v,e= .returned v/\R v w'))\/ ∃v w',(callFunc f args).run Q w= .ok (.value v) w'/\R v w'
def du(Q:Program)(w0:World)(cf:CF):Prop:=
 ∀ku ps R p R1,cf ku ps R=some (p,R1)-> ∀(F:Nat->Prop) (G:Nat->Value) (w:World) (vs:List Value),fE Q ⟨G,w0,0,false⟩ F G w R->vs.length=ps.length->
  (∀(i:Nat) (v:Value) (c:P),vs[i]?=some v->ps[i]?=some c->aF F w G R v c)->
  j9 Q ku ⟨vs⟩ w (λv w'=> ∃F' G',fE Q ⟨G,w0,0,false⟩ F' G' w' R1/\aF F' w' G' R1 v p/\Ext (Own G R) (Own G' R1) F F' w w')
def je(R1:List (Nat×En))(σ:Nat->Nat->Option (Nat×Nat))(i:Nat):Obj:=
 match w5 R1 i with |some (_,e1)=>fR σ e1.obj |none=> .gone
theorem xw(R1:List (Nat×En))(σ:Nat->Nat->Option (Nat×Nat)): ∀(ns:List Nat) (i0:Nat) (R R2:List (Nat×En)),gl R1 σ i0 ns R=some R2->ns.Nodup->
  ∀m,(∀i,posOf ns m i0=some i-> ∃e,lk R m=some e/\lk R2 m=some ⟨e.aY,e.tag,je R1 σ i⟩)/\(posOf ns m i0=none->lk R2 m=lk R m)
 | [],i0,R,R2,h,_,m=>by grind [gl,posOf]
 |n::ns,i0,R,R2,h,ky,m=>by
  simp only[gl] at h;split at h
  ·cases h
  rename_i e he;obtain⟨hn,ky⟩:=za8.1 ky;obtain⟨h1,h2⟩:=xw R1 σ ns (i0+1) _ R2 h ky m;simp only[posOf];by_cases hm:n=m
  ·subst hm;have hp:posOf ns n (i0+1)=none:=by
    cases hp:posOf ns n (i0+1) with
    |none=>rfl
    |some j=>exact absurd (zaC (gA ns n _ j hp).2) hn
   refine⟨λi hi=> ?_,λhi=>by simp at hi⟩;simp at hi;subst hi;refine⟨e,he,?_⟩;rw[h2 hp,bC];rfl
  simp_all [bU]
def fm(R:List (Nat×En))(m:Nat):Nat:=match lk R m with |none=>0 |some e0=>e0.aY+1
theorem tU(R1:List (Nat×En))(σ:Nat->Nat->Option (Nat×Nat)): ∀(ms:List Nat) (m0:Nat) (R R3:List (Nat×En)),kI R1 σ m0 ms R=some R3->
  ∀m,(∀n,(m0<=m/\ms[m-m0]?=some n)-> ∃e1,lk R1 n=some e1/\lk R3 m=some ⟨fm R m,none,fR σ e1.obj⟩/\ ∀e0,lk R m=some e0->e0.obj= .gone)/\
   ((m<m0\/m0+ms.length<=m)->lk R3 m=lk R m)
 | [],m0,R,R3,h,m=>by grind [kI]
 |n::ms,m0,R,R3,h,m=>by
  simp only[kI] at h;split at h
  ·cases h
  rename_i e1 DY;have key: ∃aY,kI R1 σ (m0+1) ms (ins m0 ⟨aY,none,fR σ e1.obj⟩ R)=some R3/\aY=fm R m0/\ ∀e0,lk R m0=some e0->e0.obj= .gone:=by grind [fm]
  obtain⟨aY,h,PA,qjd⟩:=key;obtain⟨h1,h2⟩:=tU R1 σ ms (m0+1) _ R3 h m;grind [bC,fm,bU]
theorem ru{R1:List (Nat×En)}{i m:Nat}{e:En}(h:w5 R1 i=some (m,e)):lk R1 m=some e/\e.tag=some i:=by
 unfold w5 at h;split at h
 ·split at h
  next e' he=>
   split at h
   ·simp_all
   cases h
  cases h
 cases h
section
variable{Q:Program}{T:Tg}{F:Nat->Prop}{G:Nat->Value}{w:World}{a:Act}{s:S}
theorem AX{t:TypeId}{p q:P}{s':S}{v:Value}(h:aD Q T F G w a s)(h1:kH Q s t p=some (s',q))(hvp:aF F w G s.rg v p):
  ∃F',aD Q T F' G w a s'/\Ext (Own G s.rg) (Own G s'.rg) F F' w w/\Names G G s.rg s'.rg/\(∀b,F b->F' b)/\aF F' w G s'.rg v q:=by
 unfold kH at h1;split at h1
 ·split at h1
  ·split at h1
   next s3 x hx=>obtain⟨rfl,rfl⟩:=h1;obtain⟨F',f1,f2,f3,f4,f5⟩:=wv h hx hvp;exact⟨F',f1,f2,f3,f4,.d f5⟩
   cases h1
  grind [Ext.refl,Names.refl]
 ·split at h1
  ·rw[D.force_eq] at h1;obtain⟨rfl,rfl⟩:=h1;cases hvp with
   |d hd=>exact⟨F,h,Ext.refl _ _ _,Names.refl _ _,λ_ h=>h,.d (Pw hd)⟩
  grind [Ext.refl,Names.refl]
 grind [Ext.refl,Names.refl]
theorem xx: ∀(ps:List P) (ts:List TypeId) (s:S) (F:Nat->Prop) (s':S) (qs:List P) (vs:List Value),aD Q T F G w a s->eC Q s ts ps=some (s',qs)->vs.length=ps.length->
  (∀(i:Nat) (v:Value) (c:P),vs[i]?=some v->ps[i]?=some c->aF F w G s.rg v c)->
  ∃F',aD Q T F' G w a s'/\Ext (Own G s.rg) (Own G s'.rg) F F' w w/\Names G G s.rg s'.rg/\(∀b,F b->F' b)/\vs.length=qs.length/\ ∀(i:Nat) (v:Value) (c:P),vs[i]?=some v->qs[i]?=some c->aF F' w G s'.rg v c
 | [],ts,s,F,s',xs,vs,h,hs,hl,hv=>by grind [eC,Ext.refl,Names.refl]
 |p::ps,ts,s,F,s',xs,vs,h,hs,hl,hv=>by
  cases vs with
  |nil=>simp at hl
  |cons v vs=>
   simp only[eC] at hs;split at hs
   ·cases hs
   rename_i s1 q h1;split at hs
   ·rename_i s2 qs2 h2;simp at hs;obtain⟨rfl,rfl⟩:=hs;have one: ∃F',aD Q T F' G w a s1/\Ext (Own G s.rg) (Own G s1.rg) F F' w w/\Names G G s.rg s1.rg/\(∀b,F b->F' b)/\aF F' w G s1.rg v q:=by
     have hvp:=hv 0 v p (by simp) (by simp);unfold oY at h1;split at h1
     ·split at h1
      next s3 x hx=>obtain⟨rfl,rfl⟩:=h1;obtain⟨F',f1,f2,f3,f4,f5⟩:=wu h hx hvp;exact⟨F',f1,f2,f3,f4,.d f5⟩
      cases h1
     ·split at h1
      next s3 x hx=>obtain⟨rfl,rfl⟩:=h1;obtain⟨F',f1,f2,f3,f4,f5⟩:=wu h hx hvp;exact⟨F',f1,f2,f3,f4,.d f5⟩
      cases h1
     grind [AX]
    obtain⟨F1,a1,a2,a3,a4,a5⟩:=one;obtain⟨F2,b1,b2,b3,b4,b5,b6⟩:=xx ps ts.tail s1 F1 s2 qs2 vs a1 h2 (by grind)
     (λi u c hu hc=>(hv (i+1) u c (by grind) (by grind)).mono a4 (λ_ _=>rfl) a3)
    refine⟨F2,b1,a2.trans b2,a3.trans b3,λb hb=>b4 b (a4 b hb),by grind,λi u c hu hc=> ?_⟩;cases i with
    |zero=>simp at hu hc;subst hu;subst hc;exact a5.mono b4 (λ_ _=>rfl) b3
    |succ i=>grind
   cases hs
theorem uQ{f:FuncId}(ps:List P)(s:S)(F:Nat->Prop)(s':S)(qs:List P)(vs:List Value)(h:aD Q T F G w a s)(hs:cO Q s f ps=some (s',qs))(hl:vs.length=ps.length)
  (hv: ∀(i:Nat) (v:Value) (c:P),vs[i]?=some v->ps[i]?=some c->aF F w G s.rg v c):
  ∃F',aD Q T F' G w a s'/\Ext (Own G s.rg) (Own G s'.rg) F F' w w/\Names G G s.rg s'.rg/\(∀b,F b->F' b)/\vs.length=qs.length/\ ∀(i:Nat) (v:Value) (c:P),vs[i]?=some v->qs[i]?=some c->aF F' w G s'.rg v c:=by
 grind [cO,Ext.refl,Names.refl,xx]
theorem rv(h:aD Q T F G w a s){ns ms:List Nat}{base:Nat}(EG:dW ns=true)(hms:dW ms=true){R0 R1 R2 R3:List (Nat×En)}(jN:sub s.rg (toPos s.rg ns) true 0 ns=some R0)
  {F2:Nat->Prop} {G2:Nat->Value} {w':World} (PL:fE Q ⟨λi=>G (ns.getD i 0),T.w0,0,false⟩ F2 G2 w' R1) (mK:Ext (Own (λi=>G (ns.getD i 0)) R0) (Own G2 R1) F F2 w w')
  (qhP: ∀m∈ms,∃e,lk R1 m=some e/\e.tag=none)
  (jY:gl R1 (fc R1 s.rg ns ms base) 0 ns s.rg=some R2) (fY:kI R1 (fc R1 s.rg ns ms base) base ms R2=some R3):
  ∃G3,aD Q T F2 G3 w' a {s with rg:=R3}/\Ext (Own G s.rg) (Own G3 R3) F F2 w w'/\EP G2 G3 R1 R3 (fc R1 s.rg ns ms base):=by
 have Wk:=dF ns EG;have qfa:=dF ms hms;obtain⟨s1,s2,s3⟩:=h.heap.sub jN EG;simp only[zbb] at s1
 let σ:=fc R1 s.rg ns ms base
 have H6: ∀m,(∃n,base<=m/\ms[m-base]?=some n)\/(m<base\/base+ms.length<=m):=λm=>by
  by_cases h1:base<=m/\m-base<ms.length
  ·exact .inl ⟨_,h1.1,zae h1.2⟩
  exact .inr (by omega)
 let G3:Nat->Value:=λm=>if base<=m/\m-base<ms.length then G2 (ms.getD (m-base) 0) else G m
 have PN: ∀m n,base<=m->ms[m-base]?=some n->G3 m=G2 n:=λm n h1 h2=>by have:=(zad.1 h2).1;simp only[G3,zao (show base<=m/\m-base<ms.length from⟨h1,this⟩)];simp[zac,h2]
 have H7: ∀m,(m<base\/base+ms.length<=m)->G3 m=G m:=λm h1=>by simp only[G3,zam (show ¬(base<=m/\m-base<ms.length) by omega)]
 have hb:=λm=>xw R1 σ ns 0 s.rg R2 jY Wk m;have hn:=λm=>tU R1 σ ms base R2 R3 fY m;have Kp: ∀m,fm R2 m=fm s.rg m:=λm=>by
  cases hp:posOf ns m 0 with
  |none=>simp[fm,(hb m).2 hp]
  |some i=>obtain⟨e,h1,h2⟩:=(hb m).1 i hp;simp[fm,h1,h2]
 have hR3: ∀m e',lk R3 m=some e'->
   (∃n e1,base<=m/\ms[m-base]?=some n/\lk R1 n=some e1/\e'=⟨fm s.rg m,none,fR σ e1.obj⟩/\G3 m=G2 n)\/
   (∃i e,ns[i]?=some m/\lk s.rg m=some e/\e'=⟨e.aY,e.tag,je R1 σ i⟩/\G3 m=G m)\/
   (m∉ns/\lk s.rg m=some e'/\G3 m=G m):=λm e' cK=>by
  rcases H6 m with⟨n,h1,h2⟩|h1
  ·obtain⟨e1,g1,g2,g3⟩:=(hn m).1 n ⟨h1,h2⟩;rw[cK] at g2;cases g2;exact .inl ⟨n,e1,h1,h2,g1,by rw[Kp],PN m n h1 h2⟩
  rw[(hn m).2 h1] at cK;cases hp:posOf ns m 0 with
  |none=>rw[(hb m).2 hp] at cK;exact .inr (.inr ⟨rr _ _ _ hp,cK,H7 m h1⟩)
  |some i=>obtain⟨e,g1,g2⟩:=(hb m).1 i hp;rw[cK] at g2;cases g2;obtain⟨_,hi⟩:=gA ns m 0 i hp;exact .inr (.inl ⟨i,e,by simpa using hi,g1,rfl,H7 m h1⟩)
 have AW:EP G2 G3 R1 R3 σ:=by
  intro n v n' v' hσ;simp only[σ,fc] at hσ;split at hσ
  ·cases hσ
  rename_i e1 DY;split at hσ
  next hv=>
   have hv:e1.aY=v:=by simpa using hv
   split at hσ
   ·rename_i i V9;split at hσ
    ·rename_i m n1 ex hm htn;split at hσ
     ·rename_i Pp;have Pp:n1=n:=by simpa using Pp
      subst Pp;split at hσ
      ·rename_i e0 Kk;simp at hσ;obtain⟨rfl,rfl⟩:=hσ;have hp:=fk Wk hm;obtain⟨e,g1,g2⟩:=(hb m).1 i hp;rw[Kk] at g1;cases g1;obtain⟨qfb,qji⟩:=ru htn;rw[DY] at qfb;cases qfb;have hbo:je R1 σ i=fR σ e1.obj:=by simp[je,htn]
       rcases H6 m with⟨nn,h1,h2⟩|h1
       ·obtain⟨e2,k1,k2,k3⟩:=(hn m).1 nn ⟨h1,h2⟩;refine⟨_,k2,?_,λhvv _=> ?_⟩
        ·simp[fm,g2]
        simp[fm,g2] at hvv
       have hl3:=(hn m).2 h1;rw[g2] at hl3;refine⟨_,hl3,zaj _,λ_ gY=>⟨⟨e1,DY,hv,?_⟩,?_⟩⟩
       ·rw[hbo,lR] at gY;exact gY
       rw[H7 m h1];rw[hbo,lR] at gY;have:=PL.tag n1 e1 i DY V9 gY;rw[this];simp[zac,hm]
      cases hσ
     cases hσ
    cases hσ
   rename_i V9;split at hσ
   ·rename_i j hj;obtain⟨_,Kn⟩:=gA ms n 0 j hj;simp at Kn;have hm:ms[base+j-base]?=some n:=by rw[show base+j-base=j by omega];exact Kn
    obtain⟨e2,k1,k2,k3⟩:=(hn (base+j)).1 n ⟨by omega,hm⟩;rw[DY] at k1;cases k1;have hnv:n'=base+j/\v'=fm s.rg (base+j):=by
     split at hσ
     next hl=>simp at hσ;obtain⟨rfl,rfl⟩:=hσ;simp[fm,hl]
     rename_i e0 hl;simp at hσ;obtain⟨rfl,rfl⟩:=hσ;simp[fm,hl]
    obtain⟨rfl,rfl⟩:=hnv;refine⟨_,k2,by rw[Kp];exact zaj _,λ_ gY=>⟨⟨e1,DY,hv,by rw[lR] at gY;exact gY⟩,PN _ n (by omega) hm⟩⟩
   cases hσ
  cases hσ
 have xy: ∀b,Own (λi=>G (ns.getD i 0)) R0 b-> ∃n e,n∈ns/\lk s.rg n=some e/\bH (G n) e.obj=some b:=s3;have hFF: ∀b,F b->w'.heap[b]?=w.heap[b]?:=λb hb=>mK.keep b (h.ji b hb) (λho=>by obtain⟨n,e,_,he,dj⟩:=xy b ho;exact h.my n e b he dj hb);have pc: ∀m e b,m∉ns->lk s.rg m=some e->bH (G m) e.obj=some b-> ¬Own (λi=>G (ns.getD i 0)) R0 b:=λm e b hm he hb ho=>by obtain⟨n,e2,Va,Vg,cr⟩:=xy b ho;exact hm (by rw[h.own m n e e2 b he Vg hb cr];exact Va)
 have PO:Names G G3 s.rg R3:=by
  constructor
  ·intro m e he;rcases H6 m with⟨n,h1,h2⟩|h1
   ·obtain⟨e1,g1,g2,g3⟩:=(hn m).1 n ⟨h1,h2⟩;refine⟨_,g2,by rw[Kp];simp[fm,he],λhv _=> ?_⟩;rw[Kp] at hv;simp[fm,he] at hv
   cases hp:posOf ns m 0 with
   |none=>refine⟨e,by rw[(hn m).2 h1,(hb m).2 hp];exact he,zaj _,λ_ h=>h⟩
   |some i=>obtain⟨e0,g1,g2⟩:=(hb m).1 i hp;rw[he] at g1;cases g1;obtain⟨_,hi⟩:=gA ns m 0 i hp;simp at hi;obtain⟨e2,k1,k2,_⟩:=wx s.rg _ true ns 0 R0 jN i m hi;rw[he] at k1;cases k1;exact⟨⟨e.aY,e.tag,je R1 σ i⟩,by rw[(hn m).2 h1];exact g2,zaj _,λ_ _=>k2⟩
  intro m e e' he cK hv hl;rcases hR3 m e' cK with⟨n,e1,h1,h2,h3,rfl,h5⟩| ⟨i,e0,h1,h2,rfl,h4⟩| ⟨h1,h2,h3⟩
  ·simp[fm,he] at hv
  ·exact h4
  exact h3
 have PQ: ∀i o,je R1 σ i=o->o.live=true-> ∃m1 e1,w5 R1 i=some (m1,e1)/\o=fR σ e1.obj:=λi o ho hl=>by
  unfold je at ho;split at ho
  next m1 e1 ht=>exact⟨m1,e1,ht,ho.symm⟩
  subst ho;simp[Obj.live] at hl
 have ER: ∀(g:Value) (o:Obj) b,bH g o=some b->o.live=true:=λg o b hb=>by cases o<;>simp_all [bH,Obj.live]
 have Cv: ∀m e' b,lk R3 m=some e'->bH (G3 m) e'.obj=some b->
   (∃n e1,lk R1 n=some e1/\bH (G2 n) e1.obj=some b/\((e1.tag=none/\base<=m/\ms[m-base]?=some n)\/ ∃i,e1.tag=some i/\ns[i]?=some m))\/
   (m∉ns/\lk s.rg m=some e'/\bH (G m) e'.obj=some b):=λm e' b cK dj=>by
  rcases hR3 m e' cK with⟨n,e1,h1,h2,h3,rfl,h5⟩| ⟨i,e0,h1,h2,rfl,h4⟩| ⟨h1,h2,h3⟩
  ·simp only[ph] at dj;rw[h5] at dj;obtain⟨e2,k1,k2⟩:=qhP n (zaC h2);rw[h3] at k1;cases k1;exact .inl ⟨n,e1,h3,dj,.inl ⟨k2,h1,h2⟩⟩
  ·obtain⟨m1,e1,k1,k2⟩:=PQ i _ rfl (ER _ _ _ dj);simp only at dj;rw[k2,ph,h4] at dj;obtain⟨k3,k4⟩:=ru k1;refine .inl ⟨m1,e1,k3,?_,.inr ⟨i,k4,h1⟩⟩;have:=PL.tag m1 e1 i k3 k4 (ER _ _ _ dj);rw[this];simpa [zac,h1] using dj
  rw[h3] at dj;exact .inr ⟨h1,h2,dj⟩
 have hx3:Ext (Own G s.rg) (Own G3 R3) F F2 w w':=by
  refine⟨mK.kN,?_,?_,?_,mK.size,mK.os,mK.tape,mK.output⟩
  ·intro b dj;rcases mK.mH b dj with h1 |h1 |h1
   ·exact .inl h1
   ·obtain⟨n,e,_,he,cr⟩:=xy b h1;exact .inr (.inl ⟨n,e,he,cr⟩)
   exact .inr (.inr h1)
  ·rintro b ⟨m,e',cK,dj⟩;rcases Cv m e' b cK dj with⟨n1,f1,g1,g2,_⟩| ⟨g1,g2,g3⟩
   ·rcases mK.lH b ⟨n1,f1,g1,g2⟩ with h1 |h1
    ·obtain⟨n,e,_,he,cr⟩:=xy b h1;exact .inl ⟨n,e,he,cr⟩
    exact .inr h1
   exact .inl ⟨m,e',g2,g3⟩
  intro b dj b7;exact mK.keep b dj (λho=>by obtain⟨n,e,_,he,cr⟩:=xy b ho;exact b7 ⟨n,e,he,cr⟩)
 refine⟨G3,⟨h.rp.go hx3,h.size,λt p hp=>(h.tm t p hp).mono mK.kN hFF PO,?_,?_,?_,PL.ji,?_,λb hb=>⟨mK.kN b (h.z b hb).1,(hFF b (h.z b hb).1).trans (h.z b hb).2⟩,PL.dr,zaI h.sz mK.size⟩,hx3,AW⟩
 ·intro m e' cK;rcases hR3 m e' cK with⟨n,e1,h1,h2,h3,rfl,h5⟩| ⟨i,e0,h1,h2,rfl,h4⟩| ⟨h1,h2,h3⟩
  ·exact xv AW h5 (PL.rg n e1 h3)
  ·cases hlv:(je R1 σ i).live with
   |false=>
    have:je R1 σ i= .gone:=by cases hbo:je R1 σ i<;>simp_all [Obj.live]
    simp only[this];trivial
   |true=>obtain⟨m1,e1,k1,k2⟩:=PQ i _ rfl hlv;obtain⟨k3,k4⟩:=ru k1;simp only[k2];refine xv AW ?_ (PL.rg m1 e1 k3);rw[k2,lR] at hlv;rw[h4,PL.tag m1 e1 i k3 k4 hlv];simp[zac,h1]
  exact(h.rg m e' h2).mono mK.kN hFF PO h3 (λb dj=>mK.keep b ((h.rg m e' h2).lt dj) (pc m e' b h1 h2 dj))
 ·intro m1 m2 e1 e2 b DY Vg jL cr;rcases Cv m1 e1 b DY jL with⟨n1,f1,g1,g2,g3⟩| ⟨g1,g2,g3⟩<;>rcases Cv m2 e2 b Vg cr with⟨n2,f2,k1,k2,k3⟩| ⟨k1,k2,k3⟩
  ·have:=PL.own n1 n2 f1 f2 b g1 k1 g2 k2;subst this;rw[g1] at k1;cases k1;rcases g3 with⟨t1,p1,p2⟩| ⟨i1,t1,p1⟩<;>rcases k3 with⟨t2,q1,q2⟩| ⟨i2,t2,q1⟩
   ·have a1:=fk qfa p2;have a2:=fk qfa q2;rw[a1] at a2;have:=zb2 a2;omega
   ·rw[t1] at t2;cases t2
   ·rw[t1] at t2;cases t2
   rw[t1] at t2;cases t2;rw[p1] at q1;exact zb2 q1
  ·exfalso;rcases mK.lH b ⟨n1,f1,g1,g2⟩ with h1 |h1
   ·exact pc m2 e2 b k1 k2 k3 h1
   have:=(h.rg m2 e2 k2).lt k3;omega
  ·exfalso;rcases mK.lH b ⟨n2,f2,k1,k2⟩ with h1 |h1
   ·exact pc m1 e1 b g1 g2 g3 h1
   have:=(h.rg m1 e1 g2).lt g3;omega
  exact h.own m1 m2 e1 e2 b g2 k2 g3 k3
 ·intro m e' b cK dj hf;rcases Cv m e' b cK dj with⟨n1,f1,g1,g2,_⟩| ⟨g1,g2,g3⟩
  ·exact PL.my n1 f1 b g1 g2 hf
  rcases mK.mH b hf with h1 |h1 |h1
  ·exact h.my m e' b g2 g3 h1
  ·exact pc m e' b g1 g2 g3 h1
  have:=(h.rg m e' g2).lt g3;omega
 intro m e' i cK hi hl;rcases hR3 m e' cK with⟨n,e1,h1,h2,h3,rfl,h5⟩| ⟨i',e0,h1,h2,rfl,h4⟩| ⟨h1,h2,h3⟩
 ·simp at hi
 ·rw[h4];obtain⟨e2,k1,k2,_⟩:=wx s.rg _ true ns 0 R0 jN i' m h1;rw[h2] at k1;cases k1;exact h.tag m e0 i h2 hi k2
 rw[h3];exact h.tag m e' i h2 hi hl
theorem eP(R1:List (Nat×En)): ∀(l:List Nat) (m:Nat),m∈da R1 l-> ∃e,lk R1 m=some e/\e.tag=none
 | [],m,h=>by simp[da] at h
 |n::r,m,h=>by
  simp only[da] at h;split at h
  next e he=>
   split at h
   ·rename_i ht;rcases zav.1 h with rfl |h
    ·exact⟨e,he,ht⟩
    exact eP R1 r m h
   exact eP R1 r m h
  exact eP R1 r m h
theorem j9.mono{f:FuncId}{args:Array Value}{w:World}{R R':Value->World->Prop}(h:j9 Q f args w R)(hr: ∀v w',R v w'->R' v w'):j9 Q f args w R':=by
 rcases h with⟨h1,h2⟩| ⟨v,w',h1,h2⟩
 ·exact .inl ⟨h1,h2.mono λe w' ⟨v,he,hv⟩=>⟨v,he,hr v w' hv⟩⟩
 exact .inr ⟨v,w',h1,hr v w' h2⟩
theorem Mp{cf:CF}(jl:du Q T.w0 cf)(h:aD Q T F G w a s){dst:Option Nat}{pf:P}{ps:List P}{s':S}(hs:l9 Q cf s dst pf ps=some s'){fv:Value}{vs:List Value}(hf:aF F w G s.rg fv pf)(hl:vs.length=ps.length)
  (hv: ∀(i:Nat) (v:Value) (c:P),vs[i]?=some v->ps[i]?=some c->aF F w G s.rg v c):
  ∃ku cs,fv= .func (.func ku) #[] ⟨cs⟩/\j9 Q ku ⟨vs++cs⟩ w (λv w'=> ∃F' G',aD Q T F' G' w' (a.put dst v) s'/\Ext (Own G s.rg) (Own G' s'.rg) F F' w w'):=by
 unfold l9 at hs;split at hs
 next ku cI=>
  cases hf with
  |fn _ cs _ G7 jI=>
   refine⟨ku,cs,rfl,?_⟩;split at hs
   ·cases hs
   rename_i s1 qs EJ;simp only at hs;split at hs
   ·rename_i ky;split at hs
    ·cases hs
    rename_i R0 jN;split at hs
    ·cases hs
    rename_i p R1 lS;split at hs
    ·rename_i Wl;have Wl:=(zab _ _▸Wl:_/\_).1;split at hs
     ·cases hs
     rename_i R2 jY;split at hs
     ·cases hs
     rename_i R3 fY;have cP: ∀(i:Nat) (v:Value) (c:P),(vs++cs)[i]?=some v->(ps++cI)[i]?=some c->aF F w G s.rg v c:=λi v c h1 h2=>by
      by_cases hi:i<vs.length
      ·rw[zaM hi] at h1;rw[zaM (by omega)] at h2;exact hv i v c h1 h2
      rw[za1 (by omega)] at h1 h2;rw[<-hl] at h2;exact jI _ v c h1 h2
     obtain⟨F1,a1,a2,a3,a4,a5,a6⟩:=uQ (ps++cI) s F s1 qs (vs++cs) h EJ (by simp[hl,G7]) cP;obtain⟨b1,b2,b3⟩:=a1.heap.sub jN ky;simp only[zbb] at b1;have hq:=jl ku _ R0 p R1 lS F1 _ w (vs++cs) b1 (by rw[jk];exact a5) (λi v c h1 h2=>by rw[jj] at h2;simp only[zaw] at h2;obtain⟨q,hq,rfl⟩:=h2;exact nF b2 (a6 i v q h1 hq));refine hq.mono λv w' ⟨F2,G2,c1,c2,c3⟩=> ?_;obtain⟨G3,d1,d2,d3⟩:=rv a1 ky Wl jN c1 c3 (eP R1 _) jY fY;obtain⟨e1,e2⟩:=cz d1 hs (cx.of (nF d3 c2));refine⟨F2,G3,e1,?_⟩;rw[e2];exact a2.trans d2
    cases hs
   cases hs
 cases hs
end
end Pi
