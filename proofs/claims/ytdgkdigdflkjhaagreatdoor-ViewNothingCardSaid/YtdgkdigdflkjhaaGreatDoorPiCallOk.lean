/- The text PiCallOk. -/
import Derived.Test.YtdgkdigdflkjhaaGreatDoorPiRen
namespace Pi
open Go
def kP Q f args w (R:Value->World->Prop):=
 ((callFunc f args).run Q w= .ok (.enter f args) w/\Calls Q f args w (λe w'=> ∃v,e= .returned v/\R v w'))\/ ∃v w',(callFunc f args).run Q w= .ok (.value v) w'/\R v w'
def cz Q w0 (cf:CF):=
 ∀jZ ps R p R1,cf jZ ps R=some (p,R1)-> ∀(F:Nat->Prop) (G:Nat->Value) (w:World) (vs:List Value),fX Q ⟨G,w0,0,false⟩ F G w R->vs.length=ps.length->
  (∀(i:Nat) (v:Value) (c:P),vs[i]?=some v->ps[i]?=some c->aH F w G R v c)->
  kP Q jZ ⟨vs⟩ w (λv w'=> ∃F' G',fX Q ⟨G,w0,0,false⟩ F' G' w' R1/\aH F' w' G' R1 v p/\Ext (Own G R) (Own G' R1) F F' w w')
def jF(R1:List (Nat×En))(σ:Nat->Nat->Option (Nat×Nat))(i:Nat):Obj:=
 match zt R1 i with |some (_,e1)=>gq σ e1.obj |none=> .gone
theorem zV R1 σ: ∀ns i0 R R2,gM R1 σ i0 ns R=some R2->ns.Nodup->
  ∀m,(∀i,posOf ns m i0=some i-> ∃e,lk R m=some e/\lk R2 m=some ⟨e.aV,e.tag,jF R1 σ i⟩)/\(posOf ns m i0=none->lk R2 m=lk R m)
 | [],i0,R,R2,h,_,m=>by grind [gM,posOf]
 |n::ns,i0,R,R2,h,oO,m=>by
  simp only[gM] at h;split at h
  ·cases h
  rename_i e he;obtain⟨hn,oO⟩:=za9.1 oO;obtain⟨h1,h2⟩:=zV R1 σ ns (i0+1) _ R2 h oO m;simp only[posOf];by_cases hm:n=m
  ·subst hm;have hp:posOf ns n (i0+1)=none:=by
    cases hp:posOf ns n (i0+1) with
    |none=>rfl
    |some j=>exact absurd (zaA (gY ns n _ j hp).2) hn
   refine⟨λi hi=> ?_,λhi=>by simp at hi⟩;simp at hi;subst hi;refine⟨e,he,?_⟩;rw[h2 hp,bE];rfl
  simp_all [cc]
def fD(R:List (Nat×En))(m:Nat):Nat:=match lk R m with |none=>0 |some e0=>e0.aV+1
theorem v8 R1 σ: ∀ms m0 R R3,lA R1 σ m0 ms R=some R3->
  ∀m,(∀n,(m0<=m/\ms[m-m0]?=some n)-> ∃e1,lk R1 n=some e1/\lk R3 m=some ⟨fD R m,none,gq σ e1.obj⟩/\ ∀e0,lk R m=some e0->e0.obj= .gone)/\
   ((m<m0\/m0+ms.length<=m)->lk R3 m=lk R m)
 | [],m0,R,R3,h,m=>by grind [lA]
 |n::ms,m0,R,R3,h,m=>by
  simp only[lA] at h;split at h
  ·cases h
  rename_i e1 Hi;have key: ∃aV,lA R1 σ (m0+1) ms (ins m0 ⟨aV,none,gq σ e1.obj⟩ R)=some R3/\aV=fD R m0/\ ∀e0,lk R m0=some e0->e0.obj= .gone:=by grind [fD]
  obtain⟨aV,h,T9,qoQ⟩:=key;obtain⟨h1,h2⟩:=v8 R1 σ ms (m0+1) _ R3 h m;grind [bE,fD,cc]
theorem tf{R1 i m e}(h:zt R1 i=some (m,e)):lk R1 m=some e/\e.tag=some i:=by
 unfold zt at h;split at h
 ·split at h
  next e' he=>
   split at h
   ·simp_all
   cases h
  cases h
 cases h
section
variable{Q:Program}{T:Tg}{F:Nat->Prop}{G:Nat->Value}{w:World}{a:Act}{s:S}
theorem DB{t p q s' v}(h:aC Q T F G w a s)(h1:lz Q s t p=some (s',q))(hvp:aH F w G s.rg v p):
  ∃F',aC Q T F' G w a s'/\Ext (Own G s.rg) (Own G s'.rg) F F' w w/\Names G G s.rg s'.rg/\(∀b,F b->F' b)/\aH F' w G s'.rg v q:=by
 unfold lz at h1;split at h1
 ·split at h1
  ·split at h1
   next s3 x hx=>obtain⟨rfl,rfl⟩:=h1;obtain⟨F',f1,f2,f3,f4,f5⟩:=yF h hx hvp;exact⟨F',f1,f2,f3,f4,.d f5⟩
   cases h1
  grind [Ext.refl,Names.refl]
 ·split at h1
  ·rw[D.force_eq] at h1;obtain⟨rfl,rfl⟩:=h1;cases hvp with
   |d hd=>exact⟨F,h,Ext.refl _ _ _,Names.refl _ _,λ_ h=>h,.d (T5 hd)⟩
  grind [Ext.refl,Names.refl]
 grind [Ext.refl,Names.refl]
theorem zW: ∀(ps:List P) (ts:List TypeId) (s:S) (F:Nat->Prop) (s':S) (qs:List P) (vs:List Value),aC Q T F G w a s->eN Q s ts ps=some (s',qs)->vs.length=ps.length->
  (∀(i:Nat) (v:Value) (c:P),vs[i]?=some v->ps[i]?=some c->aH F w G s.rg v c)->
  ∃F',aC Q T F' G w a s'/\Ext (Own G s.rg) (Own G s'.rg) F F' w w/\Names G G s.rg s'.rg/\(∀b,F b->F' b)/\vs.length=qs.length/\ ∀(i:Nat) (v:Value) (c:P),vs[i]?=some v->qs[i]?=some c->aH F' w G s'.rg v c
 | [],ts,s,F,s',xs,vs,h,hs,hl,hv=>by grind [eN,Ext.refl,Names.refl]
 |p::ps,ts,s,F,s',xs,vs,h,hs,hl,hv=>by
  cases vs with
  |nil=>simp at hl
  |cons v vs=>
   simp only[eN] at hs;split at hs
   ·cases hs
   rename_i s1 q h1;split at hs
   ·rename_i s2 qs2 h2;simp at hs;obtain⟨rfl,rfl⟩:=hs;have one: ∃F',aC Q T F' G w a s1/\Ext (Own G s.rg) (Own G s1.rg) F F' w w/\Names G G s.rg s1.rg/\(∀b,F b->F' b)/\aH F' w G s1.rg v q:=by
     have hvp:=hv 0 v p (by simp) (by simp);unfold qw at h1;split at h1
     ·split at h1
      next s3 x hx=>obtain⟨rfl,rfl⟩:=h1;obtain⟨F',f1,f2,f3,f4,f5⟩:=yE h hx hvp;exact⟨F',f1,f2,f3,f4,.d f5⟩
      cases h1
     ·split at h1
      next s3 x hx=>obtain⟨rfl,rfl⟩:=h1;obtain⟨F',f1,f2,f3,f4,f5⟩:=yE h hx hvp;exact⟨F',f1,f2,f3,f4,.d f5⟩
      cases h1
     grind [DB]
    obtain⟨F1,a1,a2,a3,a4,a5⟩:=one;obtain⟨F2,b1,b2,b3,b4,b5,b6⟩:=zW ps ts.tail s1 F1 s2 qs2 vs a1 h2 (by grind)
     (λi u c hu hc=>(hv (i+1) u c (by grind) (by grind)).mono a4 (λ_ _=>rfl) a3)
    refine⟨F2,b1,a2.trans b2,a3.trans b3,λb hb=>b4 b (a4 b hb),by grind,λi u c hu hc=> ?_⟩;cases i with
    |zero=>simp at hu hc;subst hu;subst hc;exact a5.mono b4 (λ_ _=>rfl) b3
    |succ i=>grind
   cases hs
theorem xb{f} ps s F s' qs (vs:List Value)(h:aC Q T F G w a s)(hs:cZ Q s f ps=some (s',qs))(hl:vs.length=ps.length)
  (hv: ∀(i:Nat) (v:Value) (c:P),vs[i]?=some v->ps[i]?=some c->aH F w G s.rg v c):
  ∃F',aC Q T F' G w a s'/\Ext (Own G s.rg) (Own G s'.rg) F F' w w/\Names G G s.rg s'.rg/\(∀b,F b->F' b)/\vs.length=qs.length/\ ∀(i:Nat) (v:Value) (c:P),vs[i]?=some v->qs[i]?=some c->aH F' w G s'.rg v c:=by
 grind [cZ,Ext.refl,Names.refl,zW]
theorem ti(h:aC Q T F G w a s){ns ms base}(Hh:ez ns=true)(hms:ez ms=true){R0 R1 R2 R3}(iy:sub s.rg (toPos s.rg ns) true 0 ns=some R0)
  {F2 G2 w'} (Ul:fX Q ⟨λi=>G (ns.getD i 0),T.w0,0,false⟩ F2 G2 w' R1) (oe:Ext (Own (λi=>G (ns.getD i 0)) R0) (Own G2 R1) F F2 w w')
  (qnk: ∀m∈ms,∃e,lk R1 m=some e/\e.tag=none)
  (kI:gM R1 (ft R1 s.rg ns ms base) 0 ns s.rg=some R2) (fV:lA R1 (ft R1 s.rg ns ms base) base ms R2=some R3):
  ∃G3,aC Q T F2 G3 w' a {s with rg:=R3}/\Ext (Own G s.rg) (Own G3 R3) F F2 w w'/\Ie G2 G3 R1 R3 (ft R1 s.rg ns ms base):=by
 have qat:=dO ns Hh;have qiA:=dO ms hms;obtain⟨s1,s2,s3⟩:=h.heap.sub iy Hh;simp only[zbo] at s1
 let σ:=ft R1 s.rg ns ms base
 have LO: ∀m,(∃n,base<=m/\ms[m-base]?=some n)\/(m<base\/base+ms.length<=m):=λm=>by
  by_cases h1:base<=m/\m-base<ms.length
  ·exact .inl ⟨_,h1.1,zad h1.2⟩
  exact .inr (by omega)
 let G3:Nat->Value:=λm=>if base<=m/\m-base<ms.length then G2 (ms.getD (m-base) 0) else G m
 have Um: ∀m n,base<=m->ms[m-base]?=some n->G3 m=G2 n:=λm n h1 h2=>by have:=(zae.1 h2).1;simp only[G3,zap (show base<=m/\m-base<ms.length from⟨h1,this⟩)];simp[zab,h2]
 have LP: ∀m,(m<base\/base+ms.length<=m)->G3 m=G m:=λm h1=>by simp only[G3,zan (show ¬(base<=m/\m-base<ms.length) by omega)]
 have hb:=λm=>zV R1 σ ns 0 s.rg R2 kI qat m;have hn:=λm=>v8 R1 σ ms base R2 R3 fV m;have NV: ∀m,fD R2 m=fD s.rg m:=λm=>by
  cases hp:posOf ns m 0 with
  |none=>simp[fD,(hb m).2 hp]
  |some i=>obtain⟨e,h1,h2⟩:=(hb m).1 i hp;simp[fD,h1,h2]
 have hR3: ∀m e',lk R3 m=some e'->
   (∃n e1,base<=m/\ms[m-base]?=some n/\lk R1 n=some e1/\e'=⟨fD s.rg m,none,gq σ e1.obj⟩/\G3 m=G2 n)\/
   (∃i e,ns[i]?=some m/\lk s.rg m=some e/\e'=⟨e.aV,e.tag,jF R1 σ i⟩/\G3 m=G m)\/
   (m∉ns/\lk s.rg m=some e'/\G3 m=G m):=λm e' cR=>by
  rcases LO m with⟨n,h1,h2⟩|h1
  ·obtain⟨e1,g1,g2,g3⟩:=(hn m).1 n ⟨h1,h2⟩;rw[cR] at g2;cases g2;exact .inl ⟨n,e1,h1,h2,g1,by rw[NV],Um m n h1 h2⟩
  rw[(hn m).2 h1] at cR;cases hp:posOf ns m 0 with
  |none=>rw[(hb m).2 hp] at cR;exact .inr (.inr ⟨tc _ _ _ hp,cR,LP m h1⟩)
  |some i=>obtain⟨e,g1,g2⟩:=(hb m).1 i hp;rw[cR] at g2;cases g2;obtain⟨_,hi⟩:=gY ns m 0 i hp;exact .inr (.inl ⟨i,e,by simpa using hi,g1,rfl,LP m h1⟩)
 have DA:Ie G2 G3 R1 R3 σ:=by
  intro n v n' v' hσ;simp only[σ,ft] at hσ;split at hσ
  ·cases hσ
  rename_i e1 Hi;split at hσ
  next hv=>
   have hv:e1.aV=v:=by simpa using hv
   split at hσ
   ·rename_i i qam;split at hσ
    ·rename_i m n1 ex hm htn;split at hσ
     ·rename_i hnn;have hnn:n1=n:=by simpa using hnn
      subst hnn;split at hσ
      ·rename_i e0 NQ;simp at hσ;obtain⟨rfl,rfl⟩:=hσ;have hp:=fC qat hm;obtain⟨e,g1,g2⟩:=(hb m).1 i hp;rw[NQ] at g1;cases g1;obtain⟨qiB,qoV⟩:=tf htn;rw[Hi] at qiB;cases qiB;have hbo:jF R1 σ i=gq σ e1.obj:=by simp[jF,htn]
       rcases LO m with⟨nn,h1,h2⟩|h1
       ·obtain⟨e2,k1,k2,k3⟩:=(hn m).1 nn ⟨h1,h2⟩;refine⟨_,k2,?_,λhvv _=> ?_⟩
        ·simp[fD,g2]
        simp[fD,g2] at hvv
       have hl3:=(hn m).2 h1;rw[g2] at hl3;refine⟨_,hl3,zal _,λ_ iI=>⟨⟨e1,Hi,hv,?_⟩,?_⟩⟩
       ·rw[hbo,mT] at iI;exact iI
       rw[LP m h1];rw[hbo,mT] at iI;have:=Ul.tag n1 e1 i Hi qam iI;rw[this];simp[zab,hm]
      cases hσ
     cases hσ
    cases hσ
   rename_i qam;split at hσ
   ·rename_i j hj;obtain⟨_,NU⟩:=gY ms n 0 j hj;simp at NU;have hm:ms[base+j-base]?=some n:=by rw[show base+j-base=j by omega];exact NU
    obtain⟨e2,k1,k2,k3⟩:=(hn (base+j)).1 n ⟨by omega,hm⟩;rw[Hi] at k1;cases k1;have hnv:n'=base+j/\v'=fD s.rg (base+j):=by
     split at hσ
     next hl=>simp at hσ;obtain⟨rfl,rfl⟩:=hσ;simp[fD,hl]
     rename_i e0 hl;simp at hσ;obtain⟨rfl,rfl⟩:=hσ;simp[fD,hl]
    obtain⟨rfl,rfl⟩:=hnv;refine⟨_,k2,by rw[NV];exact zal _,λ_ iI=>⟨⟨e1,Hi,hv,by rw[mT] at iI;exact iI⟩,Um _ n (by omega) hm⟩⟩
   cases hσ
  cases hσ
 have zX: ∀b,Own (λi=>G (ns.getD i 0)) R0 b-> ∃n e,n∈ns/\lk s.rg n=some e/\bB (G n) e.obj=some b:=s3;have hFF: ∀b,F b->w'.heap[b]?=w.heap[b]?:=λb hb=>oe.keep b (h.jE b hb) (λho=>by obtain⟨n,e,_,he,dq⟩:=zX b ho;exact h.nA n e b he dq hb);have qG: ∀m e b,m∉ns->lk s.rg m=some e->bB (G m) e.obj=some b-> ¬Own (λi=>G (ns.getD i 0)) R0 b:=λm e b hm he hb ho=>by obtain⟨n,e2,hn2,he2,cP⟩:=zX b ho;exact hm (by rw[h.own m n e e2 b he he2 hb cP];exact hn2)
 have zY:Names G G3 s.rg R3:=by
  constructor
  ·intro m e he;rcases LO m with⟨n,h1,h2⟩|h1
   ·obtain⟨e1,g1,g2,g3⟩:=(hn m).1 n ⟨h1,h2⟩;refine⟨_,g2,by rw[NV];simp[fD,he],λhv _=> ?_⟩;rw[NV] at hv;simp[fD,he] at hv
   cases hp:posOf ns m 0 with
   |none=>refine⟨e,by rw[(hn m).2 h1,(hb m).2 hp];exact he,zal _,λ_ h=>h⟩
   |some i=>obtain⟨e0,g1,g2⟩:=(hb m).1 i hp;rw[he] at g1;cases g1;obtain⟨_,hi⟩:=gY ns m 0 i hp;simp at hi;obtain⟨e2,k1,k2,_⟩:=yH s.rg _ true ns 0 R0 iy i m hi;rw[he] at k1;cases k1;exact⟨⟨e.aV,e.tag,jF R1 σ i⟩,by rw[(hn m).2 h1];exact g2,zal _,λ_ _=>k2⟩
  intro m e e' he cR hv hl;rcases hR3 m e' cR with⟨n,e1,h1,h2,h3,rfl,h5⟩| ⟨i,e0,h1,h2,rfl,h4⟩| ⟨h1,h2,h3⟩
  ·simp[fD,he] at hv
  ·exact h4
  exact h3
 have Un: ∀i o,jF R1 σ i=o->o.live=true-> ∃m1 e1,zt R1 i=some (m1,e1)/\o=gq σ e1.obj:=λi o ho hl=>by
  unfold jF at ho;split at ho
  next m1 e1 ht=>exact⟨m1,e1,ht,ho.symm⟩
  subst ho;simp[Obj.live] at hl
 have Ig: ∀(g:Value) (o:Obj) b,bB g o=some b->o.live=true:=λg o b hb=>by cases o<;>simp_all [bB,Obj.live]
 have Fk: ∀m e' b,lk R3 m=some e'->bB (G3 m) e'.obj=some b->
   (∃n e1,lk R1 n=some e1/\bB (G2 n) e1.obj=some b/\((e1.tag=none/\base<=m/\ms[m-base]?=some n)\/ ∃i,e1.tag=some i/\ns[i]?=some m))\/
   (m∉ns/\lk s.rg m=some e'/\bB (G m) e'.obj=some b):=λm e' b cR dq=>by
  rcases hR3 m e' cR with⟨n,e1,h1,h2,h3,rfl,h5⟩| ⟨i,e0,h1,h2,rfl,h4⟩| ⟨h1,h2,h3⟩
  ·simp only[qL] at dq;rw[h5] at dq;obtain⟨e2,k1,k2⟩:=qnk n (zaA h2);rw[h3] at k1;cases k1;exact .inl ⟨n,e1,h3,dq,.inl ⟨k2,h1,h2⟩⟩
  ·obtain⟨m1,e1,k1,k2⟩:=Un i _ rfl (Ig _ _ _ dq);simp only at dq;rw[k2,qL,h4] at dq;obtain⟨k3,k4⟩:=tf k1;refine .inl ⟨m1,e1,k3,?_,.inr ⟨i,k4,h1⟩⟩;have:=Ul.tag m1 e1 i k3 k4 (Ig _ _ _ dq);rw[this];simpa [zab,h1] using dq
  rw[h3] at dq;exact .inr ⟨h1,h2,dq⟩
 have hx3:Ext (Own G s.rg) (Own G3 R3) F F2 w w':=by
  refine⟨oe.lH,?_,?_,?_,oe.size,oe.os,oe.tape,oe.output⟩
  ·intro b dq;rcases oe.n9 b dq with h1 |h1 |h1
   ·exact .inl h1
   ·obtain⟨n,e,_,he,cP⟩:=zX b h1;exact .inr (.inl ⟨n,e,he,cP⟩)
   exact .inr (.inr h1)
  ·rintro b ⟨m,e',cR,dq⟩;rcases Fk m e' b cR dq with⟨n1,f1,g1,g2,_⟩| ⟨g1,g2,g3⟩
   ·rcases oe.mH b ⟨n1,f1,g1,g2⟩ with h1 |h1
    ·obtain⟨n,e,_,he,cP⟩:=zX b h1;exact .inl ⟨n,e,he,cP⟩
    exact .inr h1
   exact .inl ⟨m,e',g2,g3⟩
  intro b dq bI;exact oe.keep b dq (λho=>by obtain⟨n,e,_,he,cP⟩:=zX b ho;exact bI ⟨n,e,he,cP⟩)
 refine⟨G3,⟨h.s7.go hx3,h.size,λt p hp=>(h.tm t p hp).mono oe.lH hFF zY,?_,?_,?_,Ul.jE,?_,λb hb=>⟨oe.lH b (h.z b hb).1,(hFF b (h.z b hb).1).trans (h.z b hb).2⟩,Ul.dr,zaL h.sz oe.size⟩,hx3,DA⟩
 ·intro m e' cR;rcases hR3 m e' cR with⟨n,e1,h1,h2,h3,rfl,h5⟩| ⟨i,e0,h1,h2,rfl,h4⟩| ⟨h1,h2,h3⟩
  ·exact zU DA h5 (Ul.rg n e1 h3)
  ·cases hlv:(jF R1 σ i).live with
   |false=>
    have:jF R1 σ i= .gone:=by cases hbo:jF R1 σ i<;>simp_all [Obj.live]
    simp only[this];trivial
   |true=>obtain⟨m1,e1,k1,k2⟩:=Un i _ rfl hlv;obtain⟨k3,k4⟩:=tf k1;simp only[k2];refine zU DA ?_ (Ul.rg m1 e1 k3);rw[k2,mT] at hlv;rw[h4,Ul.tag m1 e1 i k3 k4 hlv];simp[zab,h1]
  exact(h.rg m e' h2).mono oe.lH hFF zY h3 (λb dq=>oe.keep b ((h.rg m e' h2).lt dq) (qG m e' b h1 h2 dq))
 ·intro m1 m2 e1 e2 b Hi he2 la cP;rcases Fk m1 e1 b Hi la with⟨n1,f1,g1,g2,g3⟩| ⟨g1,g2,g3⟩<;>rcases Fk m2 e2 b he2 cP with⟨n2,f2,k1,k2,k3⟩| ⟨k1,k2,k3⟩
  ·have:=Ul.own n1 n2 f1 f2 b g1 k1 g2 k2;subst this;rw[g1] at k1;cases k1;rcases g3 with⟨t1,p1,p2⟩| ⟨i1,t1,p1⟩<;>rcases k3 with⟨t2,q1,q2⟩| ⟨i2,t2,q1⟩
   ·have a1:=fC qiA p2;have a2:=fC qiA q2;rw[a1] at a2;have:=zbQ a2;omega
   ·rw[t1] at t2;cases t2
   ·rw[t1] at t2;cases t2
   rw[t1] at t2;cases t2;rw[p1] at q1;exact zbQ q1
  ·exfalso;rcases oe.mH b ⟨n1,f1,g1,g2⟩ with h1 |h1
   ·exact qG m2 e2 b k1 k2 k3 h1
   have:=(h.rg m2 e2 k2).lt k3;omega
  ·exfalso;rcases oe.mH b ⟨n2,f2,k1,k2⟩ with h1 |h1
   ·exact qG m1 e1 b g1 g2 g3 h1
   have:=(h.rg m1 e1 g2).lt g3;omega
  exact h.own m1 m2 e1 e2 b g2 k2 g3 k3
 ·intro m e' b cR dq hf;rcases Fk m e' b cR dq with⟨n1,f1,g1,g2,_⟩| ⟨g1,g2,g3⟩
  ·exact Ul.nA n1 f1 b g1 g2 hf
  rcases oe.n9 b hf with h1 |h1 |h1
  ·exact h.nA m e' b g2 g3 h1
  ·exact qG m e' b g1 g2 g3 h1
  have:=(h.rg m e' g2).lt g3;omega
 intro m e' i cR hi hl;rcases hR3 m e' cR with⟨n,e1,h1,h2,h3,rfl,h5⟩| ⟨i',e0,h1,h2,rfl,h4⟩| ⟨h1,h2,h3⟩
 ·simp at hi
 ·rw[h4];obtain⟨e2,k1,k2,_⟩:=yH s.rg _ true ns 0 R0 iy i' m h1;rw[h2] at k1;cases k1;exact h.tag m e0 i h2 hi k2
 rw[h3];exact h.tag m e' i h2 hi hl
theorem eX R1: ∀l m,m∈du R1 l-> ∃e,lk R1 m=some e/\e.tag=none
 | [],m,h=>by simp[du] at h
 |n::r,m,h=>by
  simp only[du] at h;split at h
  next e he=>
   split at h
   ·rename_i ht;rcases zat.1 h with rfl |h
    ·exact⟨e,he,ht⟩
    exact eX R1 r m h
   exact eX R1 r m h
  exact eX R1 r m h
theorem kP.mono{f args w R R'}(h:kP Q f args w R)(hr: ∀v w',R v w'->R' v w'):kP Q f args w R':=by
 rcases h with⟨h1,h2⟩| ⟨v,w',h1,h2⟩
 ·exact .inl ⟨h1,h2.mono λe w' ⟨v,he,hv⟩=>⟨v,he,hr v w' hv⟩⟩
 exact .inr ⟨v,w',h1,hr v w' h2⟩
theorem QC{cf}(jO:cz Q T.w0 cf)(h:aC Q T F G w a s){dst pf ps s'}(hs:nw Q cf s dst pf ps=some s'){fv vs}(hf:aH F w G s.rg fv pf)(hl:vs.length=ps.length)
  (hv: ∀(i:Nat) (v:Value) (c:P),vs[i]?=some v->ps[i]?=some c->aH F w G s.rg v c):
  ∃jZ cs,fv= .func (.func jZ) #[] ⟨cs⟩/\kP Q jZ ⟨vs++cs⟩ w (λv w'=> ∃F' G',aC Q T F' G' w' (a.put dst v) s'/\Ext (Own G s.rg) (Own G' s'.rg) F F' w w'):=by
 unfold nw at hs;split at hs
 next jZ cW=>
  cases hf with
  |fn _ cs _ Hj lF=>
   refine⟨jZ,cs,rfl,?_⟩;split at hs
   ·cases hs
   rename_i s1 qs H8;simp only at hs;split at hs
   ·rename_i oO;split at hs
    ·cases hs
    rename_i R0 iy;split at hs
    ·cases hs
    rename_i p R1 mU;split at hs
    ·rename_i hmd;have hmd:=(zac _ _▸hmd:_/\_).1;split at hs
     ·cases hs
     rename_i R2 kI;split at hs
     ·cases hs
     rename_i R3 fV;have cx: ∀(i:Nat) (v:Value) (c:P),(vs++cs)[i]?=some v->(ps++cW)[i]?=some c->aH F w G s.rg v c:=λi v c h1 h2=>by
      by_cases hi:i<vs.length
      ·rw[zaT hi] at h1;rw[zaT (by omega)] at h2;exact hv i v c h1 h2
      rw[za7 (by omega)] at h1 h2;rw[<-hl] at h2;exact lF _ v c h1 h2
     obtain⟨F1,a1,a2,a3,a4,a5,a6⟩:=xb (ps++cW) s F s1 qs (vs++cs) h H8 (by simp[hl,Hj]) cx;obtain⟨b1,b2,b3⟩:=a1.heap.sub iy oO;simp only[zbo] at b1;have hq:=jO jZ _ R0 p R1 mU F1 _ w (vs++cs) b1 (by rw[jN];exact a5) (λi v c h1 h2=>by rw[jM] at h2;simp only[zay] at h2;obtain⟨q,hq,rfl⟩:=h2;exact pb b2 (a6 i v q h1 hq));refine hq.mono λv w' ⟨F2,G2,c1,c2,c3⟩=> ?_;obtain⟨G3,d1,d2,d3⟩:=ti a1 oO hmd iy c1 c3 (eX R1 _) kI fV;obtain⟨e1,e2⟩:=cy d1 hs (cE.of (pb d3 c2));refine⟨F2,G3,e1,?_⟩;rw[e2];exact a2.trans d2
    cases hs
   cases hs
 cases hs
end
end Pi
