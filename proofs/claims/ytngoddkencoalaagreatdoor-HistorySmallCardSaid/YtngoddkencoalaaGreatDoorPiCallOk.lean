/- The text PiCallOk. -/
import Derived.Test.YtngoddkencoalaaGreatDoorPiRen
namespace Pi
open Go
def kD(Q:Program)(f:FuncId)(args:Array Value)(w:World)(R:Value->World->Prop):Prop:=
 ((callFunc f args).run Q w= .ok (.enter f args) w/\Calls Q f args w (λe w'=> ∃v,e= .returned v/\R v w'))\/ ∃v w',(callFunc f args).run Q w= .ok (.value v) w'/\R v w'
def dC(Q:Program)(w0:World)(cf:CF):Prop:=
 ∀kP ps R p R1,cf kP ps R=some (p,R1)-> ∀(F:Nat->Prop) (G:Nat->Value) (w:World) (vs:List Value),fN Q ⟨G,w0,0,false⟩ F G w R->vs.length=ps.length->
  (∀(i:Nat) (v:Value) (c:P),vs[i]?=some v->ps[i]?=some c->aH F w G R v c)->
  kD Q kP ⟨vs⟩ w (λv w'=> ∃F' G',fN Q ⟨G,w0,0,false⟩ F' G' w' R1/\aH F' w' G' R1 v p/\Ext (Own G R) (Own G' R1) F F' w w')
def js(R1:List (Nat×En))(σ:Nat->Nat->Option (Nat×Nat))(i:Nat):Obj:=
 match xM R1 i with |some (_,e1)=>fZ σ e1.obj |none=> .gone
theorem yg(R1:List (Nat×En))(σ:Nat->Nat->Option (Nat×Nat)): ∀(ns:List Nat) (i0:Nat) (R R2:List (Nat×En)),gy R1 σ i0 ns R=some R2->ns.Nodup->
  ∀m,(∀i,posOf ns m i0=some i-> ∃e,lk R m=some e/\lk R2 m=some ⟨e.aZ,e.tag,js R1 σ i⟩)/\(posOf ns m i0=none->lk R2 m=lk R m)
 | [],i0,R,R2,h,_,m=>by grind [gy,posOf]
 |n::ns,i0,R,R2,h,kS,m=>by
  simp only[gy] at h;split at h
  ·cases h
  rename_i e he;obtain⟨hn,kS⟩:=za7.1 kS;obtain⟨h1,h2⟩:=yg R1 σ ns (i0+1) _ R2 h kS m;simp only[posOf];by_cases hm:n=m
  ·subst hm;have hp:posOf ns n (i0+1)=none:=by
    cases hp:posOf ns n (i0+1) with
    |none=>rfl
    |some j=>exact absurd (zaC (gH ns n _ j hp).2) hn
   refine⟨λi hi=> ?_,λhi=>by simp at hi⟩;simp at hi;subst hi;refine⟨e,he,?_⟩;rw[h2 hp,bF];rfl
  simp_all [b9]
def fw(R:List (Nat×En))(m:Nat):Nat:=match lk R m with |none=>0 |some e0=>e0.aZ+1
theorem uS(R1:List (Nat×En))(σ:Nat->Nat->Option (Nat×Nat)): ∀(ms:List Nat) (m0:Nat) (R R3:List (Nat×En)),la R1 σ m0 ms R=some R3->
  ∀m,(∀n,(m0<=m/\ms[m-m0]?=some n)-> ∃e1,lk R1 n=some e1/\lk R3 m=some ⟨fw R m,none,fZ σ e1.obj⟩/\ ∀e0,lk R m=some e0->e0.obj= .gone)/\
   ((m<m0\/m0+ms.length<=m)->lk R3 m=lk R m)
 | [],m0,R,R3,h,m=>by grind [la]
 |n::ms,m0,R,R3,h,m=>by
  simp only[la] at h;split at h
  ·cases h
  rename_i e1 Bx;have key: ∃aZ,la R1 σ (m0+1) ms (ins m0 ⟨aZ,none,fZ σ e1.obj⟩ R)=some R3/\aZ=fw R m0/\ ∀e0,lk R m0=some e0->e0.obj= .gone:=by grind [fw]
  obtain⟨aZ,h,Qv,qkk⟩:=key;obtain⟨h1,h2⟩:=uS R1 σ ms (m0+1) _ R3 h m;grind [bF,fw,b9]
theorem sc{R1:List (Nat×En)}{i m:Nat}{e:En}(h:xM R1 i=some (m,e)):lk R1 m=some e/\e.tag=some i:=by
 unfold xM at h;split at h
 ·split at h
  next e' he=>
   split at h
   ·simp_all
   cases h
  cases h
 cases h
section
variable{Q:Program}{T:Tg}{F:Nat->Prop}{G:Nat->Value}{w:World}{a:Act}{s:S}
theorem BD{t:TypeId}{p q:P}{s':S}{v:Value}(h:aG Q T F G w a s)(h1:k9 Q s t p=some (s',q))(hvp:aH F w G s.rg v p):
  ∃F',aG Q T F' G w a s'/\Ext (Own G s.rg) (Own G s'.rg) F F' w w/\Names G G s.rg s'.rg/\(∀b,F b->F' b)/\aH F' w G s'.rg v q:=by
 unfold k9 at h1;split at h1
 ·split at h1
  ·split at h1
   next s3 x hx=>obtain⟨rfl,rfl⟩:=h1;obtain⟨F',f1,f2,f3,f4,f5⟩:=xh h hx hvp;exact⟨F',f1,f2,f3,f4,.d f5⟩
   cases h1
  grind [Ext.refl,Names.refl]
 ·split at h1
  ·rw[D.force_eq] at h1;obtain⟨rfl,rfl⟩:=h1;cases hvp with
   |d hd=>exact⟨F,h,Ext.refl _ _ _,Names.refl _ _,λ_ h=>h,.d (Qr hd)⟩
  grind [Ext.refl,Names.refl]
 grind [Ext.refl,Names.refl]
theorem yh: ∀(ps:List P) (ts:List TypeId) (s:S) (F:Nat->Prop) (s':S) (qs:List P) (vs:List Value),aG Q T F G w a s->eI Q s ts ps=some (s',qs)->vs.length=ps.length->
  (∀(i:Nat) (v:Value) (c:P),vs[i]?=some v->ps[i]?=some c->aH F w G s.rg v c)->
  ∃F',aG Q T F' G w a s'/\Ext (Own G s.rg) (Own G s'.rg) F F' w w/\Names G G s.rg s'.rg/\(∀b,F b->F' b)/\vs.length=qs.length/\ ∀(i:Nat) (v:Value) (c:P),vs[i]?=some v->qs[i]?=some c->aH F' w G s'.rg v c
 | [],ts,s,F,s',xs,vs,h,hs,hl,hv=>by grind [eI,Ext.refl,Names.refl]
 |p::ps,ts,s,F,s',xs,vs,h,hs,hl,hv=>by
  cases vs with
  |nil=>simp at hl
  |cons v vs=>
   simp only[eI] at hs;split at hs
   ·cases hs
   rename_i s1 q h1;split at hs
   ·rename_i s2 qs2 h2;simp at hs;obtain⟨rfl,rfl⟩:=hs;have one: ∃F',aG Q T F' G w a s1/\Ext (Own G s.rg) (Own G s1.rg) F F' w w/\Names G G s.rg s1.rg/\(∀b,F b->F' b)/\aH F' w G s1.rg v q:=by
     have hvp:=hv 0 v p (by simp) (by simp);unfold pB at h1;split at h1
     ·split at h1
      next s3 x hx=>obtain⟨rfl,rfl⟩:=h1;obtain⟨F',f1,f2,f3,f4,f5⟩:=xg h hx hvp;exact⟨F',f1,f2,f3,f4,.d f5⟩
      cases h1
     ·split at h1
      next s3 x hx=>obtain⟨rfl,rfl⟩:=h1;obtain⟨F',f1,f2,f3,f4,f5⟩:=xg h hx hvp;exact⟨F',f1,f2,f3,f4,.d f5⟩
      cases h1
     grind [BD]
    obtain⟨F1,a1,a2,a3,a4,a5⟩:=one;obtain⟨F2,b1,b2,b3,b4,b5,b6⟩:=yh ps ts.tail s1 F1 s2 qs2 vs a1 h2 (by grind)
     (λi u c hu hc=>(hv (i+1) u c (by grind) (by grind)).mono a4 (λ_ _=>rfl) a3)
    refine⟨F2,b1,a2.trans b2,a3.trans b3,λb hb=>b4 b (a4 b hb),by grind,λi u c hu hc=> ?_⟩;cases i with
    |zero=>simp at hu hc;subst hu;subst hc;exact a5.mono b4 (λ_ _=>rfl) b3
    |succ i=>grind
   cases hs
theorem vU{f:FuncId}(ps:List P)(s:S)(F:Nat->Prop)(s':S)(qs:List P)(vs:List Value)(h:aG Q T F G w a s)(hs:cV Q s f ps=some (s',qs))(hl:vs.length=ps.length)
  (hv: ∀(i:Nat) (v:Value) (c:P),vs[i]?=some v->ps[i]?=some c->aH F w G s.rg v c):
  ∃F',aG Q T F' G w a s'/\Ext (Own G s.rg) (Own G s'.rg) F F' w w/\Names G G s.rg s'.rg/\(∀b,F b->F' b)/\vs.length=qs.length/\ ∀(i:Nat) (v:Value) (c:P),vs[i]?=some v->qs[i]?=some c->aH F' w G s'.rg v c:=by
 grind [cV,Ext.refl,Names.refl,yh]
theorem sd(h:aG Q T F G w a s){ns ms:List Nat}{base:Nat}(Fk:ep ns=true)(hms:ep ms=true){R0 R1 R2 R3:List (Nat×En)}(jZ:sub s.rg (toPos s.rg ns) true 0 ns=some R0)
  {F2:Nat->Prop} {G2:Nat->Value} {w':World} (QG:fN Q ⟨λi=>G (ns.getD i 0),T.w0,0,false⟩ F2 G2 w' R1) (nr:Ext (Own (λi=>G (ns.getD i 0)) R0) (Own G2 R1) F F2 w w')
  (qiT: ∀m∈ms,∃e,lk R1 m=some e/\e.tag=none)
  (ku:gy R1 (fk R1 s.rg ns ms base) 0 ns s.rg=some R2) (gl:la R1 (fk R1 s.rg ns ms base) base ms R2=some R3):
  ∃G3,aG Q T F2 G3 w' a {s with rg:=R3}/\Ext (Own G s.rg) (Own G3 R3) F F2 w w'/\Fv G2 G3 R1 R3 (fk R1 s.rg ns ms base):=by
 have W4:=dM ns Fk;have qf4:=dM ms hms;obtain⟨s1,s2,s3⟩:=h.heap.sub jZ Fk;simp only[zba] at s1
 let σ:=fk R1 s.rg ns ms base
 have IP: ∀m,(∃n,base<=m/\ms[m-base]?=some n)\/(m<base\/base+ms.length<=m):=λm=>by
  by_cases h1:base<=m/\m-base<ms.length
  ·exact .inl ⟨_,h1.1,zae h1.2⟩
  exact .inr (by omega)
 let G3:Nat->Value:=λm=>if base<=m/\m-base<ms.length then G2 (ms.getD (m-base) 0) else G m
 have QH: ∀m n,base<=m->ms[m-base]?=some n->G3 m=G2 n:=λm n h1 h2=>by have:=(zad.1 h2).1;simp only[G3,zao (show base<=m/\m-base<ms.length from⟨h1,this⟩)];simp[zac,h2]
 have IQ: ∀m,(m<base\/base+ms.length<=m)->G3 m=G m:=λm h1=>by simp only[G3,zal (show ¬(base<=m/\m-base<ms.length) by omega)]
 have hb:=λm=>yg R1 σ ns 0 s.rg R2 ku W4 m;have hn:=λm=>uS R1 σ ms base R2 R3 gl m;have KZ: ∀m,fw R2 m=fw s.rg m:=λm=>by
  cases hp:posOf ns m 0 with
  |none=>simp[fw,(hb m).2 hp]
  |some i=>obtain⟨e,h1,h2⟩:=(hb m).1 i hp;simp[fw,h1,h2]
 have hR3: ∀m e',lk R3 m=some e'->
   (∃n e1,base<=m/\ms[m-base]?=some n/\lk R1 n=some e1/\e'=⟨fw s.rg m,none,fZ σ e1.obj⟩/\G3 m=G2 n)\/
   (∃i e,ns[i]?=some m/\lk s.rg m=some e/\e'=⟨e.aZ,e.tag,js R1 σ i⟩/\G3 m=G m)\/
   (m∉ns/\lk s.rg m=some e'/\G3 m=G m):=λm e' cR=>by
  rcases IP m with⟨n,h1,h2⟩|h1
  ·obtain⟨e1,g1,g2,g3⟩:=(hn m).1 n ⟨h1,h2⟩;rw[cR] at g2;cases g2;exact .inl ⟨n,e1,h1,h2,g1,by rw[KZ],QH m n h1 h2⟩
  rw[(hn m).2 h1] at cR;cases hp:posOf ns m 0 with
  |none=>rw[(hb m).2 hp] at cR;exact .inr (.inr ⟨sb _ _ _ hp,cR,IQ m h1⟩)
  |some i=>obtain⟨e,g1,g2⟩:=(hb m).1 i hp;rw[cR] at g2;cases g2;obtain⟨_,hi⟩:=gH ns m 0 i hp;exact .inr (.inl ⟨i,e,by simpa using hi,g1,rfl,IQ m h1⟩)
 have BB:Fv G2 G3 R1 R3 σ:=by
  intro n v n' v' hσ;simp only[σ,fk] at hσ;split at hσ
  ·cases hσ
  rename_i e1 Bx;split at hσ
  next hv=>
   have hv:e1.aZ=v:=by simpa using hv
   split at hσ
   ·rename_i i WT;split at hσ
    ·rename_i m n1 ex hm htn;split at hσ
     ·rename_i HL;have HL:n1=n:=by simpa using HL
      subst HL;split at hσ
      ·rename_i e0 KT;simp at hσ;obtain⟨rfl,rfl⟩:=hσ;have hp:=fu W4 hm;obtain⟨e,g1,g2⟩:=(hb m).1 i hp;rw[KT] at g1;cases g1;obtain⟨qf5,qkp⟩:=sc htn;rw[Bx] at qf5;cases qf5;have hbo:js R1 σ i=fZ σ e1.obj:=by simp[js,htn]
       rcases IP m with⟨nn,h1,h2⟩|h1
       ·obtain⟨e2,k1,k2,k3⟩:=(hn m).1 nn ⟨h1,h2⟩;refine⟨_,k2,?_,λhvv _=> ?_⟩
        ·simp[fw,g2]
        simp[fw,g2] at hvv
       have hl3:=(hn m).2 h1;rw[g2] at hl3;refine⟨_,hl3,zak _,λ_ h9=>⟨⟨e1,Bx,hv,?_⟩,?_⟩⟩
       ·rw[hbo,mh] at h9;exact h9
       rw[IQ m h1];rw[hbo,mh] at h9;have:=QG.tag n1 e1 i Bx WT h9;rw[this];simp[zac,hm]
      cases hσ
     cases hσ
    cases hσ
   rename_i WT;split at hσ
   ·rename_i j hj;obtain⟨_,KX⟩:=gH ms n 0 j hj;simp at KX;have hm:ms[base+j-base]?=some n:=by rw[show base+j-base=j by omega];exact KX
    obtain⟨e2,k1,k2,k3⟩:=(hn (base+j)).1 n ⟨by omega,hm⟩;rw[Bx] at k1;cases k1;have hnv:n'=base+j/\v'=fw s.rg (base+j):=by
     split at hσ
     next hl=>simp at hσ;obtain⟨rfl,rfl⟩:=hσ;simp[fw,hl]
     rename_i e0 hl;simp at hσ;obtain⟨rfl,rfl⟩:=hσ;simp[fw,hl]
    obtain⟨rfl,rfl⟩:=hnv;refine⟨_,k2,by rw[KZ];exact zak _,λ_ h9=>⟨⟨e1,Bx,hv,by rw[mh] at h9;exact h9⟩,QH _ n (by omega) hm⟩⟩
   cases hσ
  cases hσ
 have yi: ∀b,Own (λi=>G (ns.getD i 0)) R0 b-> ∃n e,n∈ns/\lk s.rg n=some e/\bL (G n) e.obj=some b:=s3;have hFF: ∀b,F b->w'.heap[b]?=w.heap[b]?:=λb hb=>nr.keep b (h.jz b hb) (λho=>by obtain⟨n,e,_,he,du⟩:=yi b ho;exact h.mU n e b he du hb);have pL: ∀m e b,m∉ns->lk s.rg m=some e->bL (G m) e.obj=some b-> ¬Own (λi=>G (ns.getD i 0)) R0 b:=λm e b hm he hb ho=>by obtain⟨n,e2,Mz,VT,cm⟩:=yi b ho;exact hm (by rw[h.own m n e e2 b he VT hb cm];exact Mz)
 have QI:Names G G3 s.rg R3:=by
  constructor
  ·intro m e he;rcases IP m with⟨n,h1,h2⟩|h1
   ·obtain⟨e1,g1,g2,g3⟩:=(hn m).1 n ⟨h1,h2⟩;refine⟨_,g2,by rw[KZ];simp[fw,he],λhv _=> ?_⟩;rw[KZ] at hv;simp[fw,he] at hv
   cases hp:posOf ns m 0 with
   |none=>refine⟨e,by rw[(hn m).2 h1,(hb m).2 hp];exact he,zak _,λ_ h=>h⟩
   |some i=>obtain⟨e0,g1,g2⟩:=(hb m).1 i hp;rw[he] at g1;cases g1;obtain⟨_,hi⟩:=gH ns m 0 i hp;simp at hi;obtain⟨e2,k1,k2,_⟩:=xi s.rg _ true ns 0 R0 jZ i m hi;rw[he] at k1;cases k1;exact⟨⟨e.aZ,e.tag,js R1 σ i⟩,by rw[(hn m).2 h1];exact g2,zak _,λ_ _=>k2⟩
  intro m e e' he cR hv hl;rcases hR3 m e' cR with⟨n,e1,h1,h2,h3,rfl,h5⟩| ⟨i,e0,h1,h2,rfl,h4⟩| ⟨h1,h2,h3⟩
  ·simp[fw,he] at hv
  ·exact h4
  exact h3
 have QJ: ∀i o,js R1 σ i=o->o.live=true-> ∃m1 e1,xM R1 i=some (m1,e1)/\o=fZ σ e1.obj:=λi o ho hl=>by
  unfold js at ho;split at ho
  next m1 e1 ht=>exact⟨m1,e1,ht,ho.symm⟩
  subst ho;simp[Obj.live] at hl
 have Fw: ∀(g:Value) (o:Obj) b,bL g o=some b->o.live=true:=λg o b hb=>by cases o<;>simp_all [bL,Obj.live]
 have C5: ∀m e' b,lk R3 m=some e'->bL (G3 m) e'.obj=some b->
   (∃n e1,lk R1 n=some e1/\bL (G2 n) e1.obj=some b/\((e1.tag=none/\base<=m/\ms[m-base]?=some n)\/ ∃i,e1.tag=some i/\ns[i]?=some m))\/
   (m∉ns/\lk s.rg m=some e'/\bL (G m) e'.obj=some b):=λm e' b cR du=>by
  rcases hR3 m e' cR with⟨n,e1,h1,h2,h3,rfl,h5⟩| ⟨i,e0,h1,h2,rfl,h4⟩| ⟨h1,h2,h3⟩
  ·simp only[pP] at du;rw[h5] at du;obtain⟨e2,k1,k2⟩:=qiT n (zaC h2);rw[h3] at k1;cases k1;exact .inl ⟨n,e1,h3,du,.inl ⟨k2,h1,h2⟩⟩
  ·obtain⟨m1,e1,k1,k2⟩:=QJ i _ rfl (Fw _ _ _ du);simp only at du;rw[k2,pP,h4] at du;obtain⟨k3,k4⟩:=sc k1;refine .inl ⟨m1,e1,k3,?_,.inr ⟨i,k4,h1⟩⟩;have:=QG.tag m1 e1 i k3 k4 (Fw _ _ _ du);rw[this];simpa [zac,h1] using du
  rw[h3] at du;exact .inr ⟨h1,h2,du⟩
 have hx3:Ext (Own G s.rg) (Own G3 R3) F F2 w w':=by
  refine⟨nr.ll,?_,?_,?_,nr.size,nr.os,nr.tape,nr.output⟩
  ·intro b du;rcases nr.nj b du with h1 |h1 |h1
   ·exact .inl h1
   ·obtain⟨n,e,_,he,cm⟩:=yi b h1;exact .inr (.inl ⟨n,e,he,cm⟩)
   exact .inr (.inr h1)
  ·rintro b ⟨m,e',cR,du⟩;rcases C5 m e' b cR du with⟨n1,f1,g1,g2,_⟩| ⟨g1,g2,g3⟩
   ·rcases nr.l4 b ⟨n1,f1,g1,g2⟩ with h1 |h1
    ·obtain⟨n,e,_,he,cm⟩:=yi b h1;exact .inl ⟨n,e,he,cm⟩
    exact .inr h1
   exact .inl ⟨m,e',g2,g3⟩
  intro b du bX;exact nr.keep b du (λho=>by obtain⟨n,e,_,he,cm⟩:=yi b ho;exact bX ⟨n,e,he,cm⟩)
 refine⟨G3,⟨h.r9.go hx3,h.size,λt p hp=>(h.tm t p hp).mono nr.ll hFF QI,?_,?_,?_,QG.jz,?_,λb hb=>⟨nr.ll b (h.z b hb).1,(hFF b (h.z b hb).1).trans (h.z b hb).2⟩,QG.dr,zaG h.sz nr.size⟩,hx3,BB⟩
 ·intro m e' cR;rcases hR3 m e' cR with⟨n,e1,h1,h2,h3,rfl,h5⟩| ⟨i,e0,h1,h2,rfl,h4⟩| ⟨h1,h2,h3⟩
  ·exact yf BB h5 (QG.rg n e1 h3)
  ·cases hlv:(js R1 σ i).live with
   |false=>
    have:js R1 σ i= .gone:=by cases hbo:js R1 σ i<;>simp_all [Obj.live]
    simp only[this];trivial
   |true=>obtain⟨m1,e1,k1,k2⟩:=QJ i _ rfl hlv;obtain⟨k3,k4⟩:=sc k1;simp only[k2];refine yf BB ?_ (QG.rg m1 e1 k3);rw[k2,mh] at hlv;rw[h4,QG.tag m1 e1 i k3 k4 hlv];simp[zac,h1]
  exact(h.rg m e' h2).mono nr.ll hFF QI h3 (λb du=>nr.keep b ((h.rg m e' h2).lt du) (pL m e' b h1 h2 du))
 ·intro m1 m2 e1 e2 b Bx VT jX cm;rcases C5 m1 e1 b Bx jX with⟨n1,f1,g1,g2,g3⟩| ⟨g1,g2,g3⟩<;>rcases C5 m2 e2 b VT cm with⟨n2,f2,k1,k2,k3⟩| ⟨k1,k2,k3⟩
  ·have:=QG.own n1 n2 f1 f2 b g1 k1 g2 k2;subst this;rw[g1] at k1;cases k1;rcases g3 with⟨t1,p1,p2⟩| ⟨i1,t1,p1⟩<;>rcases k3 with⟨t2,q1,q2⟩| ⟨i2,t2,q1⟩
   ·have a1:=fu qf4 p2;have a2:=fu qf4 q2;rw[a1] at a2;have:=zb2 a2;omega
   ·rw[t1] at t2;cases t2
   ·rw[t1] at t2;cases t2
   rw[t1] at t2;cases t2;rw[p1] at q1;exact zb2 q1
  ·exfalso;rcases nr.l4 b ⟨n1,f1,g1,g2⟩ with h1 |h1
   ·exact pL m2 e2 b k1 k2 k3 h1
   have:=(h.rg m2 e2 k2).lt k3;omega
  ·exfalso;rcases nr.l4 b ⟨n2,f2,k1,k2⟩ with h1 |h1
   ·exact pL m1 e1 b g1 g2 g3 h1
   have:=(h.rg m1 e1 g2).lt g3;omega
  exact h.own m1 m2 e1 e2 b g2 k2 g3 k3
 ·intro m e' b cR du hf;rcases C5 m e' b cR du with⟨n1,f1,g1,g2,_⟩| ⟨g1,g2,g3⟩
  ·exact QG.mU n1 f1 b g1 g2 hf
  rcases nr.nj b hf with h1 |h1 |h1
  ·exact h.mU m e' b g2 g3 h1
  ·exact pL m e' b g1 g2 g3 h1
  have:=(h.rg m e' g2).lt g3;omega
 intro m e' i cR hi hl;rcases hR3 m e' cR with⟨n,e1,h1,h2,h3,rfl,h5⟩| ⟨i',e0,h1,h2,rfl,h4⟩| ⟨h1,h2,h3⟩
 ·simp at hi
 ·rw[h4];obtain⟨e2,k1,k2,_⟩:=xi s.rg _ true ns 0 R0 jZ i' m h1;rw[h2] at k1;cases k1;exact h.tag m e0 i h2 hi k2
 rw[h3];exact h.tag m e' i h2 hi hl
theorem eS(R1:List (Nat×En)): ∀(l:List Nat) (m:Nat),m∈dm R1 l-> ∃e,lk R1 m=some e/\e.tag=none
 | [],m,h=>by simp[dm] at h
 |n::r,m,h=>by
  simp only[dm] at h;split at h
  next e he=>
   split at h
   ·rename_i ht;rcases zaw.1 h with rfl |h
    ·exact⟨e,he,ht⟩
    exact eS R1 r m h
   exact eS R1 r m h
  exact eS R1 r m h
theorem kD.mono{f:FuncId}{args:Array Value}{w:World}{R R':Value->World->Prop}(h:kD Q f args w R)(hr: ∀v w',R v w'->R' v w'):kD Q f args w R':=by
 rcases h with⟨h1,h2⟩| ⟨v,w',h1,h2⟩
 ·exact .inl ⟨h1,h2.mono λe w' ⟨v,he,hv⟩=>⟨v,he,hr v w' hv⟩⟩
 exact .inr ⟨v,w',h1,hr v w' h2⟩
theorem MY{cf:CF}(jC:dC Q T.w0 cf)(h:aG Q T F G w a s){dst:Option Nat}{pf:P}{ps:List P}{s':S}(hs:mG Q cf s dst pf ps=some s'){fv:Value}{vs:List Value}(hf:aH F w G s.rg fv pf)(hl:vs.length=ps.length)
  (hv: ∀(i:Nat) (v:Value) (c:P),vs[i]?=some v->ps[i]?=some c->aH F w G s.rg v c):
  ∃kP cs,fv= .func (.func kP) #[] ⟨cs⟩/\kD Q kP ⟨vs++cs⟩ w (λv w'=> ∃F' G',aG Q T F' G' w' (a.put dst v) s'/\Ext (Own G s.rg) (Own G' s'.rg) F F' w w'):=by
 unfold mG at hs;split at hs
 next kP cP=>
  cases hf with
  |fn _ cs _ HM jU=>
   refine⟨kP,cs,rfl,?_⟩;split at hs
   ·cases hs
   rename_i s1 qs Fo;simp only at hs;split at hs
   ·rename_i kS;split at hs
    ·cases hs
    rename_i R0 jZ;split at hs
    ·cases hs
    rename_i p R1 mj;split at hs
    ·rename_i W5;have W5:=(zab _ _▸W5:_/\_).1;split at hs
     ·cases hs
     rename_i R2 ku;split at hs
     ·cases hs
     rename_i R3 gl;have cW: ∀(i:Nat) (v:Value) (c:P),(vs++cs)[i]?=some v->(ps++cP)[i]?=some c->aH F w G s.rg v c:=λi v c h1 h2=>by
      by_cases hi:i<vs.length
      ·rw[zaO hi] at h1;rw[zaO (by omega)] at h2;exact hv i v c h1 h2
      rw[za1 (by omega)] at h1 h2;rw[<-hl] at h2;exact jU _ v c h1 h2
     obtain⟨F1,a1,a2,a3,a4,a5,a6⟩:=vU (ps++cP) s F s1 qs (vs++cs) h Fo (by simp[hl,HM]) cW;obtain⟨b1,b2,b3⟩:=a1.heap.sub jZ kS;simp only[zba] at b1;have hq:=jC kP _ R0 p R1 mj F1 _ w (vs++cs) b1 (by rw[jB];exact a5) (λi v c h1 h2=>by rw[jA] at h2;simp only[zax] at h2;obtain⟨q,hq,rfl⟩:=h2;exact oa b2 (a6 i v q h1 hq));refine hq.mono λv w' ⟨F2,G2,c1,c2,c3⟩=> ?_;obtain⟨G3,d1,d2,d3⟩:=sd a1 kS W5 jZ c1 c3 (eS R1 _) ku gl;obtain⟨e1,e2⟩:=cD d1 hs (cB.of (oa d3 c2));refine⟨F2,G3,e1,?_⟩;rw[e2];exact a2.trans d2
    cases hs
   cases hs
 cases hs
end
end Pi
