/- The text PiCallOk. -/
import Derived.Test.YtpiohccneeblhaaPiRen
namespace Pi
open Go
def bF(Q:Program)(f:FuncId)(args:Array Value)(w:World)(R:Value->World->Prop):Prop:=
 ((callFunc f args).run Q w= .ok (.enter f args) w/\Calls Q f args w (λe w'=> ∃v,e= .returned v/\R v w'))\/ ∃v w',(callFunc f args).run Q w= .ok (.value v) w'/\R v w'
def cL(Q:Program)(w0:World)(cf:CF):Prop:=
 ∀fN ps R p R1,cf fN ps R=some (p,R1)-> ∀(F:Nat->Prop) (G:Nat->Value) (w:World) (vs:List Value),aL Q ⟨G,w0,0,false⟩ F G w R->vs.length=ps.length->
  (∀(i:Nat) (v:Value) (c:P),vs[i]?=some v->ps[i]?=some c->ao F w G R v c)->
  bF Q fN ⟨vs⟩ w (λv w'=> ∃F' G',aL Q ⟨G,w0,0,false⟩ F' G' w' R1/\ao F' w' G' R1 v p/\Ext (Own G R) (Own G' R1) F F' w w')
def gg(R1:List (Nat×En))(σ:Nat->Nat->Option (Nat×Nat))(i:Nat):Obj:=
 match kg R1 i with |some (_,e1)=>dI σ e1.obj |none=> .gone
theorem p8(R1:List (Nat×En))(σ:Nat->Nat->Option (Nat×Nat)): ∀(ns:List Nat) (i0:Nat) (R R2:List (Nat×En)),dO R1 σ i0 ns R=some R2->ns.Nodup->
  ∀m,(∀i,posOf ns m i0=some i-> ∃e,lk R m=some e/\lk R2 m=some ⟨e.az,e.tag,gg R1 σ i⟩)/\(posOf ns m i0=none->lk R2 m=lk R m)
 | [],i0,R,R2,h,_,m=>by grind [dO,posOf]
 |n::ns,i0,R,R2,h,hY,m=>by
  simp only[dO] at h;split at h
  ·cases h
  rename_i e he;obtain⟨hn,hY⟩:=zax.1 hY;obtain⟨h1,h2⟩:=p8 R1 σ ns (i0+1) _ R2 h hY m;simp only[posOf];by_cases hm:n=m
  ·subst hm;have hp:posOf ns n (i0+1)=none:=by
    cases hp:posOf ns n (i0+1) with
    |none=>rfl
    |some j=>exact absurd (zak (dY ns n _ j hp).2) hn
   refine⟨λi hi=> ?_,λhi=>by simp at hi⟩;simp at hi;subst hi;refine⟨e,he,?_⟩;rw[h2 hp,aH];rfl
  simp_all [aV]
def dt(R:List (Nat×En))(m:Nat):Nat:=match lk R m with |none=>0 |some e0=>e0.az+1
theorem nw(R1:List (Nat×En))(σ:Nat->Nat->Option (Nat×Nat)): ∀(ms:List Nat) (m0:Nat) (R R3:List (Nat×En)),gB R1 σ m0 ms R=some R3->
  ∀m,(∀n,(m0<=m/\ms[m-m0]?=some n)-> ∃e1,lk R1 n=some e1/\lk R3 m=some ⟨dt R m,none,dI σ e1.obj⟩/\ ∀e0,lk R m=some e0->e0.obj= .gone)/\
   ((m<m0\/m0+ms.length<=m)->lk R3 m=lk R m)
 | [],m0,R,R3,h,m=>by grind [gB]
 |n::ms,m0,R,R3,h,m=>by
  simp only[gB] at h;split at h
  ·cases h
  rename_i e1 zd;have key: ∃az,gB R1 σ (m0+1) ms (ins m0 ⟨az,none,dI σ e1.obj⟩ R)=some R3/\az=dt R m0/\ ∀e0,lk R m0=some e0->e0.obj= .gone:=by grind [dt]
  obtain⟨az,h,rD,Oy⟩:=key;obtain⟨h1,h2⟩:=nw R1 σ ms (m0+1) _ R3 h m;grind [aH,dt,aV]
theorem js{R1:List (Nat×En)}{i m:Nat}{e:En}(h:kg R1 i=some (m,e)):lk R1 m=some e/\e.tag=some i:=by
 unfold kg at h;split at h
 ·split at h
  next e' he=>
   split at h
   ·simp_all
   cases h
  cases h
 cases h
section
variable{Q:Program}{T:Tg}{F:Nat->Prop}{G:Nat->Value}{w:World}{a:Act}{s:S}
theorem sx{t:TypeId}{p q:P}{s':S}{v:Value}(h:aq Q T F G w a s)(h1:gA Q s t p=some (s',q))(JT:ao F w G s.rg v p):
  ∃F',aq Q T F' G w a s'/\Ext (Own G s.rg) (Own G s'.rg) F F' w w/\Names G G s.rg s'.rg/\(∀b,F b->F' b)/\ao F' w G s'.rg v q:=by
 unfold gA at h1;split at h1
 ·split at h1
  ·split at h1
   next s3 x hx=>obtain⟨rfl,rfl⟩:=h1;obtain⟨F',f1,f2,f3,f4,f5⟩:=oX h hx JT;exact⟨F',f1,f2,f3,f4,.d f5⟩
   cases h1
  grind [Ext.refl,Names.refl]
 ·split at h1
  ·rw[D.force_eq] at h1;obtain⟨rfl,rfl⟩:=h1;cases JT with
   |d hd=>exact⟨F,h,Ext.refl _ _ _,Names.refl _ _,λ_ h=>h,.d (Cu hd)⟩
  grind [Ext.refl,Names.refl]
 grind [Ext.refl,Names.refl]
theorem p9: ∀(ps:List P) (ts:List TypeId) (s:S) (F:Nat->Prop) (s':S) (qs:List P) (vs:List Value),aq Q T F G w a s->cU Q s ts ps=some (s',qs)->vs.length=ps.length->
  (∀(i:Nat) (v:Value) (c:P),vs[i]?=some v->ps[i]?=some c->ao F w G s.rg v c)->
  ∃F',aq Q T F' G w a s'/\Ext (Own G s.rg) (Own G s'.rg) F F' w w/\Names G G s.rg s'.rg/\(∀b,F b->F' b)/\vs.length=qs.length/\ ∀(i:Nat) (v:Value) (c:P),vs[i]?=some v->qs[i]?=some c->ao F' w G s'.rg v c
 | [],ts,s,F,s',xs,vs,h,hs,hl,hv=>by grind [cU,Ext.refl,Names.refl]
 |p::ps,ts,s,F,s',xs,vs,h,hs,hl,hv=>by
  cases vs with
  |nil=>simp at hl
  |cons v vs=>
   simp only[cU] at hs;split at hs
   ·cases hs
   rename_i s1 q h1;split at hs
   ·rename_i s2 Hb h2;simp at hs;obtain⟨rfl,rfl⟩:=hs;have one: ∃F',aq Q T F' G w a s1/\Ext (Own G s.rg) (Own G s1.rg) F F' w w/\Names G G s.rg s1.rg/\(∀b,F b->F' b)/\ao F' w G s1.rg v q:=by
     have JT:=hv 0 v p (by simp) (by simp);unfold ke at h1;split at h1
     ·split at h1
      next s3 x hx=>obtain⟨rfl,rfl⟩:=h1;obtain⟨F',f1,f2,f3,f4,f5⟩:=oW h hx JT;exact⟨F',f1,f2,f3,f4,.d f5⟩
      cases h1
     ·split at h1
      next s3 x hx=>obtain⟨rfl,rfl⟩:=h1;obtain⟨F',f1,f2,f3,f4,f5⟩:=oW h hx JT;exact⟨F',f1,f2,f3,f4,.d f5⟩
      cases h1
     grind [sx]
    obtain⟨F1,a1,a2,a3,a4,a5⟩:=one;obtain⟨F2,b1,b2,b3,b4,b5,b6⟩:=p9 ps ts.tail s1 F1 s2 Hb vs a1 h2 (by grind)
     (λi u c hu hc=>(hv (i+1) u c (by grind) (by grind)).mono a4 (λ_ _=>rfl) a3)
    refine⟨F2,b1,a2.trans b2,a3.trans b3,λb hb=>b4 b (a4 b hb),by grind,λi u c hu hc=> ?_⟩;cases i with
    |zero=>simp at hu hc;subst hu;subst hc;exact a5.mono b4 (λ_ _=>rfl) b3
    |succ i=>grind
   cases hs
theorem nM{f:FuncId}(ps:List P)(s:S)(F:Nat->Prop)(s':S)(qs:List P)(vs:List Value)(h:aq Q T F G w a s)(hs:bL Q s f ps=some (s',qs))(hl:vs.length=ps.length)
  (hv: ∀(i:Nat) (v:Value) (c:P),vs[i]?=some v->ps[i]?=some c->ao F w G s.rg v c):
  ∃F',aq Q T F' G w a s'/\Ext (Own G s.rg) (Own G s'.rg) F F' w w/\Names G G s.rg s'.rg/\(∀b,F b->F' b)/\vs.length=qs.length/\ ∀(i:Nat) (v:Value) (c:P),vs[i]?=some v->qs[i]?=some c->ao F' w G s'.rg v c:=by
 grind [bL,Ext.refl,Names.refl,p9]
theorem Ax{o:Obj}(h:o.live=false):o= .gone:=by cases o<;>first |rfl |cases h
theorem CM{g:Value}{o:Obj}{b:Nat}(h:ay g o b):o.live=true:=by cases o<;>first |rfl |exact h.elim
theorem lU(h:aq Q T F G w a s){ns ms:List Nat}{base:Nat}(vH:cE ns=true)(MC:cE ms=true){R0 R1 R2 R3:List (Nat×En)}(iU:sub s.rg (toPos s.rg ns) true 0 ns=some R0)
  {F2:Nat->Prop} {G2:Nat->Value} {w':World} (E2:aL Q ⟨λi=>G (ns.getD i 0),T.w0,0,false⟩ F2 G2 w' R1) (iS:Ext (Own (λi=>G (ns.getD i 0)) R0) (Own G2 R1) F F2 w w')
  (MD: ∀m∈ms,∃e,lk R1 m=some e/\e.tag=none)
  (fX:dO R1 (dm R1 s.rg ns ms base) 0 ns s.rg=some R2) (bX:gB R1 (dm R1 s.rg ns ms base) base ms R2=some R3):
  ∃G3,aq Q T F2 G3 w' a {s with rg:=R3}/\Ext (Own G s.rg) (Own G3 R3) F F2 w w'/\vQ G2 G3 R1 R3 (dm R1 s.rg ns ms base):=by
 have E3:=cS ns vH;have JU:=cS ms MC;obtain⟨s1,s2,s3⟩:=h.heap.sub iU vH;simp only[zaT] at s1
 let σ:=dm R1 s.rg ns ms base
 have x9: ∀m,(∃n,base<=m/\ms[m-base]?=some n)\/(m<base\/base+ms.length<=m):=λm=>by
  by_cases h1:base<=m/\m-base<ms.length
  ·exact .inl ⟨_,h1.1,zac h1.2⟩
  exact .inr (by omega)
 let GL:Nat->Value:=λm=>match posOf ns m 0 with
  |some i=>(match kg R1 i with |some (m1,e1)=>if e1.obj.live=true then G2 m1 else G m |none=>G m)
  |none=>G m
 let G3:Nat->Value:=λm=>if base<=m/\m-base<ms.length then G2 (ms.getD (m-base) 0) else GL m
 have CN: ∀m n,base<=m->ms[m-base]?=some n->G3 m=G2 n:=λm n h1 h2=>by have:=(zaa.1 h2).1;simp only[G3,zat (show base<=m/\m-base<ms.length from⟨h1,this⟩)];simp[zaq,h2]
 have JV: ∀m,(m<base\/base+ms.length<=m)->G3 m=GL m:=λm h1=>by simp only[G3,zaB (show ¬(base<=m/\m-base<ms.length) by omega)]
 have Hl: ∀m,(m<base\/base+ms.length<=m)->posOf ns m 0=none->G3 m=G m:=λm h1 h2=>by rw[JV m h1];simp only[GL,h2]
 have zl: ∀m i,(m<base\/base+ms.length<=m)->posOf ns m 0=some i->ns[i]?=some m->ew (G3 m) (G m)/\ ∀m1 e1,kg R1 i=some (m1,e1)->e1.obj.live=true->G3 m=G2 m1:=λm i h1 h2 h3=>by
  rw[JV m h1];simp only[GL,h2];cases ht:kg R1 i with
  |none=>exact⟨.inl rfl,λ_ _ h=>by cases h⟩
  |some x=>
   obtain⟨m1,e1⟩:=x;simp only;by_cases hl:e1.obj.live=true
   ·rw[zat hl];obtain⟨k3,k4⟩:=js ht;have:=E2.tag m1 e1 i k3 k4 hl;simp only[zaq,h3,zbM] at this;exact⟨this,λm2 e2 h _=>by cases h;rfl⟩
   rw[zaB hl];exact⟨.inl rfl,λm2 e2 h h4=>by cases h;exact absurd h4 hl⟩
 have hb:=λm=>p8 R1 σ ns 0 s.rg R2 fX E3 m;have hn:=λm=>nw R1 σ ms base R2 R3 bX m;have zm: ∀m,dt R2 m=dt s.rg m:=λm=>by
  cases hp:posOf ns m 0 with
  |none=>simp[dt,(hb m).2 hp]
  |some i=>obtain⟨e,h1,h2⟩:=(hb m).1 i hp;simp[dt,h1,h2]
 have Lt: ∀m e',lk R3 m=some e'->
   (∃n e1,base<=m/\ms[m-base]?=some n/\lk R1 n=some e1/\e'=⟨dt s.rg m,none,dI σ e1.obj⟩/\G3 m=G2 n)\/
   (∃i e,ns[i]?=some m/\lk s.rg m=some e/\e'=⟨e.az,e.tag,gg R1 σ i⟩/\ew (G3 m) (G m)/\ ∀m1 e1,kg R1 i=some (m1,e1)->e1.obj.live=true->G3 m=G2 m1)\/
   (m∉ns/\lk s.rg m=some e'/\G3 m=G m):=λm e' bb=>by
  rcases x9 m with⟨n,h1,h2⟩|h1
  ·obtain⟨e1,g1,g2,g3⟩:=(hn m).1 n ⟨h1,h2⟩;rw[bb] at g2;cases g2;exact .inl ⟨n,e1,h1,h2,g1,by rw[zm],CN m n h1 h2⟩
  rw[(hn m).2 h1] at bb;cases hp:posOf ns m 0 with
  |none=>rw[(hb m).2 hp] at bb;exact .inr (.inr ⟨lT _ _ _ hp,bb,Hl m h1 hp⟩)
  |some i=>obtain⟨e,g1,g2⟩:=(hb m).1 i hp;rw[bb] at g2;cases g2;obtain⟨_,hi⟩:=dY ns m 0 i hp;exact .inr (.inl ⟨i,e,by simpa using hi,g1,rfl,zl m i h1 hp (by simpa using hi)⟩)
 have sw:vQ G2 G3 R1 R3 σ:=by
  intro n v n' v' hσ;simp only[σ,dm] at hσ;split at hσ
  ·cases hσ
  rename_i e1 zd;split at hσ
  next hv=>
   have hv:e1.az=v:=by simpa using hv
   split at hσ
   ·rename_i i Ha;split at hσ
    ·rename_i m n1 ex hm ME;split at hσ
     ·rename_i Ef;have Ef:n1=n:=by simpa using Ef
      subst Ef;split at hσ
      ·rename_i e0 EP;simp at hσ;obtain⟨rfl,rfl⟩:=hσ;have hp:=dq E3 hm;obtain⟨e,g1,g2⟩:=(hb m).1 i hp;rw[EP] at g1;cases g1;obtain⟨JX,Pz⟩:=js ME;rw[zd] at JX;cases JX;have Oz:gg R1 σ i=dI σ e1.obj:=by simp[gg,ME]
       rcases x9 m with⟨nn,h1,h2⟩|h1
       ·obtain⟨e2,k1,k2,k3⟩:=(hn m).1 nn ⟨h1,h2⟩;refine⟨_,k2,?_,λJY _=> ?_⟩
        ·simp[dt,g2]
        simp[dt,g2] at JY
       have Lk:=(hn m).2 h1;rw[g2] at Lk;refine⟨_,Lk,zae _,λ_ c6=>⟨⟨e1,zd,hv,?_⟩,?_⟩⟩
       ·rw[Oz,fF] at c6;exact c6
       rw[Oz,fF] at c6;exact(zl m i h1 hp hm).2 n1 e1 ME c6
      cases hσ
     cases hσ
    cases hσ
   rename_i Ha;split at hσ
   ·rename_i j hj;obtain⟨_,CB⟩:=dY ms n 0 j hj;simp at CB;have hm:ms[base+j-base]?=some n:=by rw[show base+j-base=j by omega];exact CB
    obtain⟨e2,k1,k2,k3⟩:=(hn (base+j)).1 n ⟨by omega,hm⟩;rw[zd] at k1;cases k1;have PA:n'=base+j/\v'=dt s.rg (base+j):=by
     split at hσ
     next hl=>simp at hσ;obtain⟨rfl,rfl⟩:=hσ;simp[dt,hl]
     rename_i e0 hl;simp at hσ;obtain⟨rfl,rfl⟩:=hσ;simp[dt,hl]
    obtain⟨rfl,rfl⟩:=PA;refine⟨_,k2,by rw[zm];exact zae _,λ_ c6=>⟨⟨e1,zd,hv,by rw[fF] at c6;exact c6⟩,CN _ n (by omega) hm⟩⟩
   cases hσ
  cases hσ
 have qa: ∀b,Own (λi=>G (ns.getD i 0)) R0 b-> ∃n e,n∈ns/\lk s.rg n=some e/\ay (G n) e.obj b:=s3;have G6: ∀b,F b->w'.heap[b]?=w.heap[b]?:=λb hb=>iS.keep b (h.fw b hb) (λho=>by obtain⟨n,e,_,he,cb⟩:=qa b ho;exact h.gG n e b he cb hb);have kx: ∀m e b,m∉ns->lk s.rg m=some e->ay (G m) e.obj b-> ¬Own (λi=>G (ns.getD i 0)) R0 b:=λm e b hm he hb ho=>by obtain⟨n,e2,Ir,ze,jT⟩:=qa b ho;exact hm (by rw[h.own m n e e2 b he ze hb jT];exact Ir)
 have CO:Names G G3 s.rg R3:=by
  constructor
  ·intro m e he;rcases x9 m with⟨n,h1,h2⟩|h1
   ·obtain⟨e1,g1,g2,g3⟩:=(hn m).1 n ⟨h1,h2⟩;refine⟨_,g2,by rw[zm];simp[dt,he],λhv _=> ?_⟩;rw[zm] at hv;simp[dt,he] at hv
   cases hp:posOf ns m 0 with
   |none=>refine⟨e,by rw[(hn m).2 h1,(hb m).2 hp];exact he,zae _,λ_ h=>h⟩
   |some i=>obtain⟨e0,g1,g2⟩:=(hb m).1 i hp;rw[he] at g1;cases g1;obtain⟨_,hi⟩:=dY ns m 0 i hp;simp at hi;obtain⟨e2,k1,k2,_⟩:=oY s.rg _ true ns 0 R0 iU i m hi;rw[he] at k1;cases k1;exact⟨⟨e.az,e.tag,gg R1 σ i⟩,by rw[(hn m).2 h1];exact g2,zae _,λ_ _=>k2⟩
  intro m e e' he bb hv hl;rcases Lt m e' bb with⟨n,e1,h1,h2,h3,rfl,h5⟩| ⟨i,e0,h1,h2,rfl,h4⟩| ⟨h1,h2,h3⟩
  ·simp[dt,he] at hv
  ·exact h4.1
  exact .inl h3
 have CP: ∀i o,gg R1 σ i=o->o.live=true-> ∃m1 e1,kg R1 i=some (m1,e1)/\o=dI σ e1.obj:=λi o ho hl=>by
  unfold gg at ho;split at ho
  next m1 e1 ht=>exact⟨m1,e1,ht,ho.symm⟩
  subst ho;simp[Obj.live] at hl
 have vT: ∀(g:Value) (o:Obj) b,ay g o b->o.live=true:=λg o b hb=>CM hb;have tW: ∀m e' b,lk R3 m=some e'->ay (G3 m) e'.obj b->
   (∃n e1,lk R1 n=some e1/\ay (G2 n) e1.obj b/\((e1.tag=none/\base<=m/\ms[m-base]?=some n)\/ ∃i,e1.tag=some i/\ns[i]?=some m))\/
   (m∉ns/\lk s.rg m=some e'/\ay (G m) e'.obj b):=λm e' b bb cb=>by
  rcases Lt m e' bb with⟨n,e1,h1,h2,h3,rfl,h5⟩| ⟨i,e0,h1,h2,rfl,h4⟩| ⟨h1,h2,h3⟩
  ·simp only[kF] at cb;rw[h5] at cb;obtain⟨e2,k1,k2⟩:=MD n (zak h2);rw[h3] at k1;cases k1;exact .inl ⟨n,e1,h3,cb,.inl ⟨k2,h1,h2⟩⟩
  ·obtain⟨m1,e1,k1,k2⟩:=CP i _ rfl (vT _ _ _ cb);have Bw:=vT _ _ _ cb;simp only at cb Bw;rw[k2,fF] at Bw;rw[k2,kF,h4.2 m1 e1 k1 Bw] at cb;obtain⟨k3,k4⟩:=js k1;refine .inl ⟨m1,e1,k3,?_,.inr ⟨i,k4,h1⟩⟩;exact cb
  rw[h3] at cb;exact .inr ⟨h1,h2,cb⟩
 have zk:Ext (Own G s.rg) (Own G3 R3) F F2 w w':=by
  refine⟨iS.fV,?_,?_,?_,iS.size,iS.os,iS.tape,iS.output⟩
  ·intro b cb;rcases iS.iN b cb with h1 |h1 |h1
   ·exact .inl h1
   ·obtain⟨n,e,_,he,jT⟩:=qa b h1;exact .inr (.inl ⟨n,e,he,jT⟩)
   exact .inr (.inr h1)
  ·rintro b ⟨m,e',bb,cb⟩;rcases tW m e' b bb cb with⟨n1,f1,g1,g2,_⟩| ⟨g1,g2,g3⟩
   ·rcases iS.fe b ⟨n1,f1,g1,g2⟩ with h1 |h1
    ·obtain⟨n,e,_,he,jT⟩:=qa b h1;exact .inl ⟨n,e,he,jT⟩
    exact .inr h1
   exact .inl ⟨m,e',g2,g3⟩
  intro b cb bg;exact iS.keep b cb (λho=>by obtain⟨n,e,_,he,jT⟩:=qa b ho;exact bg ⟨n,e,he,jT⟩)
 refine⟨G3,⟨h.mf.go zk,h.size,λt p hp=>(h.tm t p hp).mono iS.fV G6 CO,?_,?_,?_,E2.fw,?_,λb hb=>⟨iS.fV b (h.z b hb).1,(G6 b (h.z b hb).1).trans (h.z b hb).2⟩,E2.dr,zaN h.sz iS.size⟩,zk,sw⟩
 ·intro m e' bb;rcases Lt m e' bb with⟨n,e1,h1,h2,h3,rfl,h5⟩| ⟨i,e0,h1,h2,rfl,h4⟩| ⟨h1,h2,h3⟩
  ·exact p7 sw h5 (E2.rg n e1 h3)
  ·cases Bw:(gg R1 σ i).live with
   |false=>have:gg R1 σ i= .gone:=Ax Bw;simp only[this];trivial
   |true=>obtain⟨m1,e1,k1,k2⟩:=CP i _ rfl Bw;obtain⟨k3,k4⟩:=js k1;simp only[k2];rw[k2,fF] at Bw;exact p7 sw (h4.2 m1 e1 k1 Bw) (E2.rg m1 e1 k3)
  exact(h.rg m e' h2).mono iS.fV G6 CO h3 (λb cb=>iS.keep b ((h.rg m e' h2).lt cb) (kx m e' b h1 h2 cb))
 ·intro m1 m2 e1 e2 b zd ze nf jT;rcases tW m1 e1 b zd nf with⟨n1,f1,g1,g2,g3⟩| ⟨g1,g2,g3⟩<;>rcases tW m2 e2 b ze jT with⟨n2,f2,k1,k2,k3⟩| ⟨k1,k2,k3⟩
  ·have:=E2.own n1 n2 f1 f2 b g1 k1 g2 k2;subst this;rw[g1] at k1;cases k1;rcases g3 with⟨t1,p1,p2⟩| ⟨i1,t1,p1⟩<;>rcases k3 with⟨t2,q1,q2⟩| ⟨i2,t2,q1⟩
   ·have a1:=dq JU p2;have a2:=dq JU q2;rw[a1] at a2;have:=zal a2;omega
   ·rw[t1] at t2;cases t2
   ·rw[t1] at t2;cases t2
   rw[t1] at t2;cases t2;rw[p1] at q1;exact zal q1
  ·exfalso;rcases iS.fe b ⟨n1,f1,g1,g2⟩ with h1 |h1
   ·exact kx m2 e2 b k1 k2 k3 h1
   have:=(h.rg m2 e2 k2).lt k3;omega
  ·exfalso;rcases iS.fe b ⟨n2,f2,k1,k2⟩ with h1 |h1
   ·exact kx m1 e1 b g1 g2 g3 h1
   have:=(h.rg m1 e1 g2).lt g3;omega
  exact h.own m1 m2 e1 e2 b g2 k2 g3 k3
 ·intro m e' b bb cb hf;rcases tW m e' b bb cb with⟨n1,f1,g1,g2,_⟩| ⟨g1,g2,g3⟩
  ·exact E2.gG n1 f1 b g1 g2 hf
  rcases iS.iN b hf with h1 |h1 |h1
  ·exact h.gG m e' b g2 g3 h1
  ·exact kx m e' b g1 g2 g3 h1
  have:=(h.rg m e' g2).lt g3;omega
 intro m e' i bb hi hl;rcases Lt m e' bb with⟨n,e1,h1,h2,h3,rfl,h5⟩| ⟨i',e0,h1,h2,rfl,h4⟩| ⟨h1,h2,h3⟩
 ·simp at hi
 ·obtain⟨e2,k1,k2,_⟩:=oY s.rg _ true ns 0 R0 iU i' m h1;rw[h2] at k1;cases k1;exact h4.1.trans (h.tag m e0 i h2 hi k2)
 rw[h3];exact h.tag m e' i h2 hi hl
theorem c7(R1:List (Nat×En)): ∀(l:List Nat) (m:Nat),m∈bV R1 l-> ∃e,lk R1 m=some e/\e.tag=none
 | [],m,h=>by simp[bV] at h
 |n::r,m,h=>by
  simp only[bV] at h;split at h
  next e he=>
   split at h
   ·rename_i ht;rcases zan.1 h with rfl |h
    ·exact⟨e,he,ht⟩
    exact c7 R1 r m h
   exact c7 R1 r m h
  exact c7 R1 r m h
theorem bF.mono{f:FuncId}{args:Array Value}{w:World}{R R':Value->World->Prop}(h:bF Q f args w R)(hr: ∀v w',R v w'->R' v w'):bF Q f args w R':=by
 rcases h with⟨h1,h2⟩| ⟨v,w',h1,h2⟩
 ·exact .inl ⟨h1,h2.mono λe w' ⟨v,he,hv⟩=>⟨v,he,hr v w' hv⟩⟩
 exact .inr ⟨v,w',h1,hr v w' h2⟩
theorem Ay{cf:CF}(fG:cL Q T.w0 cf)(h:aq Q T F G w a s){dst:Option Nat}{pf:P}{ps:List P}{s':S}(hs:iA Q cf s dst pf ps=some s'){fv:Value}{vs:List Value}(hf:ao F w G s.rg fv pf)(hl:vs.length=ps.length)
  (hv: ∀(i:Nat) (v:Value) (c:P),vs[i]?=some v->ps[i]?=some c->ao F w G s.rg v c):
  ∃fN cs,fv= .func (.func fN) #[] ⟨cs⟩/\bF Q fN ⟨vs++cs⟩ w (λv w'=> ∃F' G',aq Q T F' G' w' (a.put dst v) s'/\Ext (Own G s.rg) (Own G' s'.rg) F F' w w'):=by
 unfold iA at hs;split at hs
 next fN bH=>
  cases hf with
  |fn _ cs _ Ap fO=>
   refine⟨fN,cs,rfl,?_⟩;split at hs
   ·cases hs
   rename_i s1 qs vK;simp only at hs;split at hs
   ·rename_i hY;split at hs
    ·cases hs
    rename_i R0 iU;split at hs
    ·cases hs
    rename_i p R1 nN;split at hs
    ·rename_i E4;have E4:=(zad _ _▸E4:_/\_).1;split at hs
     ·cases hs
     rename_i R2 fX;split at hs
     ·cases hs
     rename_i R3 bX;have bq: ∀(i:Nat) (v:Value) (c:P),(vs++cs)[i]?=some v->(ps++bH)[i]?=some c->ao F w G s.rg v c:=λi v c h1 h2=>by
      by_cases hi:i<vs.length
      ·rw[zaD hi] at h1;rw[zaD (by omega)] at h2;exact hv i v c h1 h2
      rw[zaG (by omega)] at h1 h2;rw[<-hl] at h2;exact fO _ v c h1 h2
     obtain⟨F1,a1,a2,a3,a4,a5,a6⟩:=nM (ps++bH) s F s1 qs (vs++cs) h vK (by simp[hl,Ap]) bq;obtain⟨b1,b2,b3⟩:=a1.heap.sub iU hY;simp only[zaT] at b1;have hq:=fG fN _ R0 p R1 nN F1 _ w (vs++cs) b1 (by rw[fE];exact a5) (λi v c h1 h2=>by rw[fD] at h2;simp only[zaj] at h2;obtain⟨q,hq,rfl⟩:=h2;exact gS b2 (a6 i v q h1 hq));refine hq.mono λv w' ⟨F2,G2,c1,c2,c3⟩=> ?_;obtain⟨G3,d1,d2,d3⟩:=lU a1 hY E4 iU c1 c3 (c7 R1 _) fX bX;obtain⟨e1,e2⟩:=bc d1 hs (bt.of (gS d3 c2));refine⟨F2,G3,e1,?_⟩;rw[e2];exact a2.trans d2
    cases hs
   cases hs
 cases hs
end
end Pi
