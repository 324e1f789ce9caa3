/- The text PiCallOk. -/
import Derived.Test.YtfelfooeclnbiaaPiRen
namespace Pi
open Go
def fP(Q:Program)(f:FuncId)(args:Array Value)(w:World)(R:Value->World->Prop):Prop:=
 ((callFunc f args).run Q w= .ok (.enter f args) w/\Calls Q f args w (λe w'=> ∃v,e= .returned v/\R v w'))\/ ∃v w',(callFunc f args).run Q w= .ok (.value v) w'/\R v w'
def gl(Q:Program)(w0:World)(cf:CF):Prop:=
 ∀gA ps R p R1,cf gA ps R=some (p,R1)-> ∀(F:Nat->Prop) (G:Nat->Value) (w:World) (vs:List Value),cZ Q ⟨G,w0,0,false⟩ F G w R->vs.length=ps.length->
  (∀(i:Nat) (v:Value) (c:P),vs[i]?=some v->ps[i]?=some c->ao F w G R v c)->
  fP Q gA ⟨vs⟩ w (λv w'=> ∃F' G',cZ Q ⟨G,w0,0,false⟩ F' G' w' R1/\ao F' w' G' R1 v p/\Ext (Own G R) (Own G' R1) F F' w w')
def dC(R1:List (Nat×En))(σ:Nat->Nat->Option (Nat×Nat))(i:Nat):Obj:=
 match lB R1 i with |some (_,e1)=>cq σ e1.obj |none=> .gone
theorem lX(R1:List (Nat×En))(σ:Nat->Nat->Option (Nat×Nat)): ∀(ns:List Nat) (i0:Nat) (R R2:List (Nat×En)),dx R1 σ i0 ns R=some R2->ns.Nodup->
  ∀m,(∀i,posOf ns m i0=some i-> ∃e,lk R m=some e/\lk R2 m=some ⟨e.aw,e.tag,dC R1 σ i⟩)/\(posOf ns m i0=none->lk R2 m=lk R m)
 | [],i0,R,R2,h,_,m=>by grind [dx,posOf]
 |n::ns,i0,R,R2,h,qH,m=>by
  simp only[dx] at h;split at h
  ·cases h
  rename_i e he;obtain⟨hn,qH⟩:=zbe.1 qH;obtain⟨h1,h2⟩:=lX R1 σ ns (i0+1) _ R2 h qH m;simp only[posOf];by_cases hm:n=m
  ·subst hm;have hp:posOf ns n (i0+1)=none:=by
    cases hp:posOf ns n (i0+1) with
    |none=>rfl
    |some j=>exact absurd (zao (cE ns n _ j hp).2) hn
   refine⟨λi hi=> ?_,λhi=>by simp at hi⟩;simp at hi;subst hi;refine⟨e,he,?_⟩;rw[h2 hp,aK];rfl
  simp_all [aQ]
def b8(R:List (Nat×En))(m:Nat):Nat:=match lk R m with |none=>0 |some e0=>e0.aw+1
theorem jW(R1:List (Nat×En))(σ:Nat->Nat->Option (Nat×Nat)): ∀(ms:List Nat) (m0:Nat) (R R3:List (Nat×En)),fG R1 σ m0 ms R=some R3->
  ∀m,(∀n,(m0<=m/\ms[m-m0]?=some n)-> ∃e1,lk R1 n=some e1/\lk R3 m=some ⟨b8 R m,none,cq σ e1.obj⟩/\ ∀e0,lk R m=some e0->e0.obj= .gone)/\
   ((m<m0\/m0+ms.length<=m)->lk R3 m=lk R m)
 | [],m0,R,R3,h,m=>by grind [fG]
 |n::ms,m0,R,R3,h,m=>by
  simp only[fG] at h;split at h
  ·cases h
  rename_i e1 jJ;have key: ∃aw,fG R1 σ (m0+1) ms (ins m0 ⟨aw,none,cq σ e1.obj⟩ R)=some R3/\aw=b8 R m0/\ ∀e0,lk R m0=some e0->e0.obj= .gone:=by grind [b8]
  obtain⟨aw,h,gM,C4⟩:=key;obtain⟨h1,h2⟩:=jW R1 σ ms (m0+1) _ R3 h m;grind [aK,b8,aQ]
theorem iV{R1:List (Nat×En)}{i m:Nat}{e:En}(h:lB R1 i=some (m,e)):lk R1 m=some e/\e.tag=some i:=by
 unfold lB at h;split at h
 ·split at h
  next e' he=>
   split at h
   ·simp_all
   cases h
  cases h
 cases h
section
variable{Q:Program}{T:Tg}{F:Nat->Prop}{G:Nat->Value}{w:World}{a:Act}{s:S}
theorem nJ{t:TypeId}{p q:P}{s':S}{v:Value}(h:ar Q T F G w a s)(h1:ek Q s t p=some (s',q))(Az:ao F w G s.rg v p):
  ∃F',ar Q T F' G w a s'/\Ext (Own G s.rg) (Own G s'.rg) F F' w w/\Names G G s.rg s'.rg/\(∀b,F b->F' b)/\ao F' w G s'.rg v q:=by
 unfold ek at h1;split at h1
 ·split at h1
  ·split at h1
   next s3 x hx=>obtain⟨rfl,rfl⟩:=h1;obtain⟨F',f1,f2,f3,f4,f5⟩:=lp h hx Az;exact⟨F',f1,f2,f3,f4,.d f5⟩
   cases h1
  grind [Ext.refl,Names.refl]
 ·split at h1
  ·rw[D.force_eq] at h1;obtain⟨rfl,rfl⟩:=h1;cases Az with
   |d hd=>exact⟨F,h,Ext.refl _ _ _,Names.refl _ _,λ_ h=>h,.d (vo hd)⟩
  grind [Ext.refl,Names.refl]
 grind [Ext.refl,Names.refl]
theorem lY: ∀(ps:List P) (ts:List TypeId) (s:S) (F:Nat->Prop) (s':S) (qs:List P) (vs:List Value),ar Q T F G w a s->bN Q s ts ps=some (s',qs)->vs.length=ps.length->
  (∀(i:Nat) (v:Value) (c:P),vs[i]?=some v->ps[i]?=some c->ao F w G s.rg v c)->
  ∃F',ar Q T F' G w a s'/\Ext (Own G s.rg) (Own G s'.rg) F F' w w/\Names G G s.rg s'.rg/\(∀b,F b->F' b)/\vs.length=qs.length/\ ∀(i:Nat) (v:Value) (c:P),vs[i]?=some v->qs[i]?=some c->ao F' w G s'.rg v c
 | [],ts,s,F,s',xs,vs,h,hs,hl,hv=>by grind [bN,Ext.refl,Names.refl]
 |p::ps,ts,s,F,s',xs,vs,h,hs,hl,hv=>by
  cases vs with
  |nil=>simp at hl
  |cons v vs=>
   simp only[bN] at hs;split at hs
   ·cases hs
   rename_i s1 q h1;split at hs
   ·rename_i s2 yJ h2;simp at hs;obtain⟨rfl,rfl⟩:=hs;have one: ∃F',ar Q T F' G w a s1/\Ext (Own G s.rg) (Own G s1.rg) F F' w w/\Names G G s.rg s1.rg/\(∀b,F b->F' b)/\ao F' w G s1.rg v q:=by
     have Az:=hv 0 v p (by simp) (by simp);unfold gy at h1;split at h1
     ·split at h1
      next s3 x hx=>obtain⟨rfl,rfl⟩:=h1;obtain⟨F',f1,f2,f3,f4,f5⟩:=ln h hx Az;exact⟨F',f1,f2,f3,f4,.d f5⟩
      cases h1
     ·split at h1
      next s3 x hx=>obtain⟨rfl,rfl⟩:=h1;obtain⟨F',f1,f2,f3,f4,f5⟩:=ln h hx Az;exact⟨F',f1,f2,f3,f4,.d f5⟩
      cases h1
     grind [nJ]
    obtain⟨F1,a1,a2,a3,a4,a5⟩:=one;obtain⟨F2,b1,b2,b3,b4,b5,b6⟩:=lY ps ts.tail s1 F1 s2 yJ vs a1 h2 (by grind)
     (λi u c hu hc=>(hv (i+1) u c (by grind) (by grind)).mono a4 (λ_ _=>rfl) a3)
    refine⟨F2,b1,a2.trans b2,a3.trans b3,λb hb=>b4 b (a4 b hb),by grind,λi u c hu hc=> ?_⟩;cases i with
    |zero=>simp at hu hc;subst hu;subst hc;exact a5.mono b4 (λ_ _=>rfl) b3
    |succ i=>grind
   cases hs
theorem pT{f:FuncId}(ps:List P)(s:S)(F:Nat->Prop)(s':S)(qs:List P)(vs:List Value)(h:ar Q T F G w a s)(hs:bd Q s f ps=some (s',qs))(hl:vs.length=ps.length)
  (hv: ∀(i:Nat) (v:Value) (c:P),vs[i]?=some v->ps[i]?=some c->ao F w G s.rg v c):
  ∃F',ar Q T F' G w a s'/\Ext (Own G s.rg) (Own G s'.rg) F F' w w/\Names G G s.rg s'.rg/\(∀b,F b->F' b)/\vs.length=qs.length/\ ∀(i:Nat) (v:Value) (c:P),vs[i]?=some v->qs[i]?=some c->ao F' w G s'.rg v c:=by
 grind [bd,Ext.refl,Names.refl,lY]
theorem rp(h:ar Q T F G w a s){ns ms:List Nat}{base:Nat}(qG:df ns=true)(D0:df ms=true){R0 R1 R2 R3:List (Nat×En)}(mX:sub s.rg (toPos s.rg ns) true 0 ns=some R0)
  {F2:Nat->Prop} {G2:Nat->Value} {w':World} (xu:cZ Q ⟨λi=>G (ns.getD i 0),T.w0,0,false⟩ F2 G2 w' R1) (fo:Ext (Own (λi=>G (ns.getD i 0)) R0) (Own G2 R1) F F2 w w')
  (Ca: ∀m∈ms,∃e,lk R1 m=some e/\e.tag=none)
  (fZ:dx R1 (eo R1 s.rg ns ms base) 0 ns s.rg=some R2) (cD:fG R1 (eo R1 s.rg ns ms base) base ms R2=some R3):
  ∃G3,ar Q T F2 G3 w' a {s with rg:=R3}/\Ext (Own G s.rg) (Own G3 R3) F F2 w w'/\pQ G2 G3 R1 R3 (eo R1 s.rg ns ms base):=by
 have xv:=cI ns qG;have AA:=cI ms D0;obtain⟨s1,s2,s3⟩:=h.heap.sub mX qG;simp only[zaR] at s1
 let σ:=eo R1 s.rg ns ms base
 have rq: ∀m,(∃n,base<=m/\ms[m-base]?=some n)\/(m<base\/base+ms.length<=m):=λm=>by
  by_cases h1:base<=m/\m-base<ms.length
  ·exact .inl ⟨_,h1.1,zab h1.2⟩
  exact .inr (by omega)
 let G3:Nat->Value:=λm=>if base<=m/\m-base<ms.length then G2 (ms.getD (m-base) 0) else G m
 have vK: ∀m n,base<=m->ms[m-base]?=some n->G3 m=G2 n:=λm n h1 h2=>by have:=(zaa.1 h2).1;simp only[G3,zax (show base<=m/\m-base<ms.length from⟨h1,this⟩)];simp[zah,h2]
 have rr: ∀m,(m<base\/base+ms.length<=m)->G3 m=G m:=λm h1=>by simp only[G3,zaB (show ¬(base<=m/\m-base<ms.length) by omega)]
 have hb:=λm=>lX R1 σ ns 0 s.rg R2 fZ xv m;have hn:=λm=>jW R1 σ ms base R2 R3 cD m;have sx: ∀m,b8 R2 m=b8 s.rg m:=λm=>by
  cases hp:posOf ns m 0 with
  |none=>simp[b8,(hb m).2 hp]
  |some i=>obtain⟨e,h1,h2⟩:=(hb m).1 i hp;simp[b8,h1,h2]
 have Bt: ∀m e',lk R3 m=some e'->
   (∃n e1,base<=m/\ms[m-base]?=some n/\lk R1 n=some e1/\e'=⟨b8 s.rg m,none,cq σ e1.obj⟩/\G3 m=G2 n)\/
   (∃i e,ns[i]?=some m/\lk s.rg m=some e/\e'=⟨e.aw,e.tag,dC R1 σ i⟩/\G3 m=G m)\/
   (m∉ns/\lk s.rg m=some e'/\G3 m=G m):=λm e' aW=>by
  rcases rq m with⟨n,h1,h2⟩|h1
  ·obtain⟨e1,g1,g2,g3⟩:=(hn m).1 n ⟨h1,h2⟩;rw[aW] at g2;cases g2;exact .inl ⟨n,e1,h1,h2,g1,by rw[sx],vK m n h1 h2⟩
  rw[(hn m).2 h1] at aW;cases hp:posOf ns m 0 with
  |none=>rw[(hb m).2 hp] at aW;exact .inr (.inr ⟨iU _ _ _ hp,aW,rr m h1⟩)
  |some i=>obtain⟨e,g1,g2⟩:=(hb m).1 i hp;rw[aW] at g2;cases g2;obtain⟨_,hi⟩:=cE ns m 0 i hp;exact .inr (.inl ⟨i,e,by simpa using hi,g1,rfl,rr m h1⟩)
 have nI:pQ G2 G3 R1 R3 σ:=by
  intro n v n' v' hσ;simp only[σ,eo] at hσ;split at hσ
  ·cases hσ
  rename_i e1 jJ;split at hσ
  next hv=>
   have hv:e1.aw=v:=by simpa using hv
   split at hσ
   ·rename_i i xd;split at hσ
    ·rename_i m n1 ex hm C5;split at hσ
     ·rename_i wP;have wP:n1=n:=by simpa using wP
      subst wP;split at hσ
      ·rename_i e0 s8;simp at hσ;obtain⟨rfl,rfl⟩:=hσ;have hp:=b7 xv hm;obtain⟨e,g1,g2⟩:=(hb m).1 i hp;rw[s8] at g1;cases g1;obtain⟨AB,D1⟩:=iV C5;rw[jJ] at AB;cases AB;have Cb:dC R1 σ i=cq σ e1.obj:=by simp[dC,C5]
       rcases rq m with⟨nn,h1,h2⟩|h1
       ·obtain⟨e2,k1,k2,k3⟩:=(hn m).1 nn ⟨h1,h2⟩;refine⟨_,k2,?_,λD2 _=> ?_⟩
        ·simp[b8,g2]
        simp[b8,g2] at D2
       have Bl:=(hn m).2 h1;rw[g2] at Bl;refine⟨_,Bl,zag _,λ_ cS=>⟨⟨e1,jJ,hv,?_⟩,?_⟩⟩
       ·rw[Cb,eQ] at cS;exact cS
       rw[rr m h1];rw[Cb,eQ] at cS;have:=xu.tag n1 e1 i jJ xd cS;rw[this];simp[zah,hm]
      cases hσ
     cases hσ
    cases hσ
   rename_i xd;split at hσ
   ·rename_i j hj;obtain⟨_,xi⟩:=cE ms n 0 j hj;simp at xi;have hm:ms[base+j-base]?=some n:=by rw[show base+j-base=j by omega];exact xi
    obtain⟨e2,k1,k2,k3⟩:=(hn (base+j)).1 n ⟨by omega,hm⟩;rw[jJ] at k1;cases k1;have D3:n'=base+j/\v'=b8 s.rg (base+j):=by
     split at hσ
     next hl=>simp at hσ;obtain⟨rfl,rfl⟩:=hσ;simp[b8,hl]
     rename_i e0 hl;simp at hσ;obtain⟨rfl,rfl⟩:=hσ;simp[b8,hl]
    obtain⟨rfl,rfl⟩:=D3;refine⟨_,k2,by rw[sx];exact zag _,λ_ cS=>⟨⟨e1,jJ,hv,by rw[eQ] at cS;exact cS⟩,vK _ n (by omega) hm⟩⟩
   cases hσ
  cases hσ
 have lZ: ∀b,Own (λi=>G (ns.getD i 0)) R0 b-> ∃n e,n∈ns/\lk s.rg n=some e/\aD (G n) e.obj=some b:=s3;have yG: ∀b,F b->w'.heap[b]?=w.heap[b]?:=λb hb=>fo.keep b (h.fL b hb) (λho=>by obtain⟨n,e,_,he,bM⟩:=lZ b ho;exact h.hS n e b he bM hb);have jS: ∀m e b,m∉ns->lk s.rg m=some e->aD (G m) e.obj=some b-> ¬Own (λi=>G (ns.getD i 0)) R0 b:=λm e b hm he hb ho=>by obtain⟨n,e2,Bi,wQ,iS⟩:=lZ b ho;exact hm (by rw[h.own m n e e2 b he wQ hb iS];exact Bi)
 have vL:Names G G3 s.rg R3:=by
  constructor
  ·intro m e he;rcases rq m with⟨n,h1,h2⟩|h1
   ·obtain⟨e1,g1,g2,g3⟩:=(hn m).1 n ⟨h1,h2⟩;refine⟨_,g2,by rw[sx];simp[b8,he],λhv _=> ?_⟩;rw[sx] at hv;simp[b8,he] at hv
   cases hp:posOf ns m 0 with
   |none=>refine⟨e,by rw[(hn m).2 h1,(hb m).2 hp];exact he,zag _,λ_ h=>h⟩
   |some i=>obtain⟨e0,g1,g2⟩:=(hb m).1 i hp;rw[he] at g1;cases g1;obtain⟨_,hi⟩:=cE ns m 0 i hp;simp at hi;obtain⟨e2,k1,k2,_⟩:=lr s.rg _ true ns 0 R0 mX i m hi;rw[he] at k1;cases k1;exact⟨⟨e.aw,e.tag,dC R1 σ i⟩,by rw[(hn m).2 h1];exact g2,zag _,λ_ _=>k2⟩
  intro m e e' he aW hv hl;rcases Bt m e' aW with⟨n,e1,h1,h2,h3,rfl,h5⟩| ⟨i,e0,h1,h2,rfl,h4⟩| ⟨h1,h2,h3⟩
  ·simp[b8,he] at hv
  ·exact h4
  exact h3
 have vM: ∀i o,dC R1 σ i=o->o.live=true-> ∃m1 e1,lB R1 i=some (m1,e1)/\o=cq σ e1.obj:=λi o ho hl=>by
  unfold dC at ho;split at ho
  next m1 e1 ht=>exact⟨m1,e1,ht,ho.symm⟩
  subst ho;simp[Obj.live] at hl
 have pU: ∀(g:Value) (o:Obj) b,aD g o=some b->o.live=true:=λg o b hb=>by cases o<;>simp_all [aD,Obj.live]
 have oG: ∀m e' b,lk R3 m=some e'->aD (G3 m) e'.obj=some b->
   (∃n e1,lk R1 n=some e1/\aD (G2 n) e1.obj=some b/\((e1.tag=none/\base<=m/\ms[m-base]?=some n)\/ ∃i,e1.tag=some i/\ns[i]?=some m))\/
   (m∉ns/\lk s.rg m=some e'/\aD (G m) e'.obj=some b):=λm e' b aW bM=>by
  rcases Bt m e' aW with⟨n,e1,h1,h2,h3,rfl,h5⟩| ⟨i,e0,h1,h2,rfl,h4⟩| ⟨h1,h2,h3⟩
  ·simp only[gO] at bM;rw[h5] at bM;obtain⟨e2,k1,k2⟩:=Ca n (zao h2);rw[h3] at k1;cases k1;exact .inl ⟨n,e1,h3,bM,.inl ⟨k2,h1,h2⟩⟩
  ·obtain⟨m1,e1,k1,k2⟩:=vM i _ rfl (pU _ _ _ bM);simp only at bM;rw[k2,gO,h4] at bM;obtain⟨k3,k4⟩:=iV k1;refine .inl ⟨m1,e1,k3,?_,.inr ⟨i,k4,h1⟩⟩;have:=xu.tag m1 e1 i k3 k4 (pU _ _ _ bM);rw[this];simpa [zah,h1] using bM
  rw[h3] at bM;exact .inr ⟨h1,h2,bM⟩
 have Bs:Ext (Own G s.rg) (Own G3 R3) F F2 w w':=by
  refine⟨fo.gG,?_,?_,?_,fo.size,fo.os,fo.tape,fo.output⟩
  ·intro b bM;rcases fo.lD b bM with h1 |h1 |h1
   ·exact .inl h1
   ·obtain⟨n,e,_,he,iS⟩:=lZ b h1;exact .inr (.inl ⟨n,e,he,iS⟩)
   exact .inr (.inr h1)
  ·rintro b ⟨m,e',aW,bM⟩;rcases oG m e' b aW bM with⟨n1,f1,g1,g2,_⟩| ⟨g1,g2,g3⟩
   ·rcases fo.jr b ⟨n1,f1,g1,g2⟩ with h1 |h1
    ·obtain⟨n,e,_,he,iS⟩:=lZ b h1;exact .inl ⟨n,e,he,iS⟩
    exact .inr h1
   exact .inl ⟨m,e',g2,g3⟩
  intro b bM dH;exact fo.keep b bM (λho=>by obtain⟨n,e,_,he,iS⟩:=lZ b ho;exact dH ⟨n,e,he,iS⟩)
 refine⟨G3,⟨h.qX.go Bs,h.size,λt p hp=>(h.tm t p hp).mono fo.gG yG vL,?_,?_,?_,xu.fL,?_,λb hb=>⟨fo.gG b (h.z b hb).1,(yG b (h.z b hb).1).trans (h.z b hb).2⟩,xu.dr,zaA h.sz fo.size⟩,Bs,nI⟩
 ·intro m e' aW;rcases Bt m e' aW with⟨n,e1,h1,h2,h3,rfl,h5⟩| ⟨i,e0,h1,h2,rfl,h4⟩| ⟨h1,h2,h3⟩
  ·exact lV nI h5 (xu.rg n e1 h3)
  ·cases yV:(dC R1 σ i).live with
   |false=>
    have:dC R1 σ i= .gone:=by cases Cb:dC R1 σ i<;>simp_all [Obj.live]
    simp only[this];trivial
   |true=>obtain⟨m1,e1,k1,k2⟩:=vM i _ rfl yV;obtain⟨k3,k4⟩:=iV k1;simp only[k2];refine lV nI ?_ (xu.rg m1 e1 k3);rw[k2,eQ] at yV;rw[h4,xu.tag m1 e1 i k3 k4 yV];simp[zah,h1]
  exact(h.rg m e' h2).mono fo.gG yG vL h3 (λb bM=>fo.keep b ((h.rg m e' h2).lt bM) (jS m e' b h1 h2 bM))
 ·intro m1 m2 e1 e2 b jJ wQ ko iS;rcases oG m1 e1 b jJ ko with⟨n1,f1,g1,g2,g3⟩| ⟨g1,g2,g3⟩<;>rcases oG m2 e2 b wQ iS with⟨n2,f2,k1,k2,k3⟩| ⟨k1,k2,k3⟩
  ·have:=xu.own n1 n2 f1 f2 b g1 k1 g2 k2;subst this;rw[g1] at k1;cases k1;rcases g3 with⟨t1,p1,p2⟩| ⟨i1,t1,p1⟩<;>rcases k3 with⟨t2,q1,q2⟩| ⟨i2,t2,q1⟩
   ·have a1:=b7 AA p2;have a2:=b7 AA q2;rw[a1] at a2;have:=zbc a2;omega
   ·rw[t1] at t2;cases t2
   ·rw[t1] at t2;cases t2
   rw[t1] at t2;cases t2;rw[p1] at q1;exact zbc q1
  ·exfalso;rcases fo.jr b ⟨n1,f1,g1,g2⟩ with h1 |h1
   ·exact jS m2 e2 b k1 k2 k3 h1
   have:=(h.rg m2 e2 k2).lt k3;omega
  ·exfalso;rcases fo.jr b ⟨n2,f2,k1,k2⟩ with h1 |h1
   ·exact jS m1 e1 b g1 g2 g3 h1
   have:=(h.rg m1 e1 g2).lt g3;omega
  exact h.own m1 m2 e1 e2 b g2 k2 g3 k3
 ·intro m e' b aW bM hf;rcases oG m e' b aW bM with⟨n1,f1,g1,g2,_⟩| ⟨g1,g2,g3⟩
  ·exact xu.hS n1 f1 b g1 g2 hf
  rcases fo.lD b hf with h1 |h1 |h1
  ·exact h.hS m e' b g2 g3 h1
  ·exact jS m e' b g1 g2 g3 h1
  have:=(h.rg m e' g2).lt g3;omega
 intro m e' i aW hi hl;rcases Bt m e' aW with⟨n,e1,h1,h2,h3,rfl,h5⟩| ⟨i',e0,h1,h2,rfl,h4⟩| ⟨h1,h2,h3⟩
 ·simp at hi
 ·rw[h4];obtain⟨e2,k1,k2,_⟩:=lr s.rg _ true ns 0 R0 mX i' m h1;rw[h2] at k1;cases k1;exact h.tag m e0 i h2 hi k2
 rw[h3];exact h.tag m e' i h2 hi hl
theorem dD(R1:List (Nat×En)): ∀(l:List Nat) (m:Nat),m∈cO R1 l-> ∃e,lk R1 m=some e/\e.tag=none
 | [],m,h=>by simp[cO] at h
 |n::r,m,h=>by
  simp only[cO] at h;split at h
  next e he=>
   split at h
   ·rename_i ht;rcases zaz.1 h with rfl |h
    ·exact⟨e,he,ht⟩
    exact dD R1 r m h
   exact dD R1 r m h
  exact dD R1 r m h
theorem fP.mono{f:FuncId}{args:Array Value}{w:World}{R R':Value->World->Prop}(h:fP Q f args w R)(hr: ∀v w',R v w'->R' v w'):fP Q f args w R':=by
 rcases h with⟨h1,h2⟩| ⟨v,w',h1,h2⟩
 ·exact .inl ⟨h1,h2.mono λe w' ⟨v,he,hv⟩=>⟨v,he,hr v w' hv⟩⟩
 exact .inr ⟨v,w',h1,hr v w' h2⟩
theorem tA{cf:CF}(hZ:gl Q T.w0 cf)(h:ar Q T F G w a s){dst:Option Nat}{pf:P}{ps:List P}{s':S}(hs:eX Q cf s dst pf ps=some s'){fv:Value}{vs:List Value}(hf:ao F w G s.rg fv pf)(hl:vs.length=ps.length)
  (hv: ∀(i:Nat) (v:Value) (c:P),vs[i]?=some v->ps[i]?=some c->ao F w G s.rg v c):
  ∃gA cs,fv= .func (.func gA) #[] ⟨cs⟩/\fP Q gA ⟨vs++cs⟩ w (λv w'=> ∃F' G',ar Q T F' G' w' (a.put dst v) s'/\Ext (Own G s.rg) (Own G' s'.rg) F F' w w'):=by
 unfold eX at hs;split at hs
 next gA bV=>
  cases hf with
  |fn _ cs _ yO fB=>
   refine⟨gA,cs,rfl,?_⟩;split at hs
   ·cases hs
   rename_i s1 qs um;simp only at hs;split at hs
   ·rename_i qH;split at hs
    ·cases hs
    rename_i R0 mX;split at hs
    ·cases hs
    rename_i p R1 ft;split at hs
    ·rename_i AE;have AE:=(zad _ _▸AE:_/\_).1;split at hs
     ·cases hs
     rename_i R2 fZ;split at hs
     ·cases hs
     rename_i R3 cD;have bf: ∀(i:Nat) (v:Value) (c:P),(vs++cs)[i]?=some v->(ps++bV)[i]?=some c->ao F w G s.rg v c:=λi v c h1 h2=>by
      by_cases hi:i<vs.length
      ·rw[zau hi] at h1;rw[zau (by omega)] at h2;exact hv i v c h1 h2
      rw[zay (by omega)] at h1 h2;rw[<-hl] at h2;exact fB _ v c h1 h2
     obtain⟨F1,a1,a2,a3,a4,a5,a6⟩:=pT (ps++bV) s F s1 qs (vs++cs) h um (by simp[hl,yO]) bf;obtain⟨b1,b2,b3⟩:=a1.heap.sub mX qH;simp only[zaR] at b1;have hq:=hZ gA _ R0 p R1 ft F1 _ w (vs++cs) b1 (by rw[fq];exact a5) (λi v c h1 h2=>by rw[fp] at h2;simp only[zaj] at h2;obtain⟨q,hq,rfl⟩:=h2;exact iT b2 (a6 i v q h1 hq));refine hq.mono λv w' ⟨F2,G2,c1,c2,c3⟩=> ?_;obtain⟨G3,d1,d2,d3⟩:=rp a1 qH AE mX c1 c3 (dD R1 _) fZ cD;obtain⟨e1,e2⟩:=a7 d1 hs (bj.of (iT d3 c2));refine⟨F2,G3,e1,?_⟩;rw[e2];exact a2.trans d2
    cases hs
   cases hs
 cases hs
end
end Pi
