/- The text PiCallOk. -/
import Derived.Test.YtfelfooeclnbiaaPiRen
namespace Pi
open Go
def gj(Q:Program)(f:FuncId)(args:Array Value)(w:World)(R:Value->World->Prop):Prop:=
 ((callFunc f args).run Q w= .ok (.enter f args) w/\Calls Q f args w (λe w'=> ∃v,e= .returned v/\R v w'))\/ ∃v w',(callFunc f args).run Q w= .ok (.value v) w'/\R v w'
def jc(Q:Program)(w0:World)(cf:CF):Prop:=
 ∀gZ ps R p R1,cf gZ ps R=some (p,R1)-> ∀(F:Nat->Prop) (G:Nat->Value) (w:World) (vs:List Value),dK Q ⟨G,w0,0,false⟩ F G w R->vs.length=ps.length->
  (∀(i:Nat) (v:Value) (c:P),vs[i]?=some v->ps[i]?=some c->ak F w G R v c)->
  gj Q gZ ⟨vs⟩ w (λv w'=> ∃F' G',dK Q ⟨G,w0,0,false⟩ F' G' w' R1/\ak F' w' G' R1 v p/\Ext (Own G R) (Own G' R1) F F' w w')
def dG(R1:List (Nat×En))(σ:Nat->Nat->Option (Nat×Nat))(i:Nat):Obj:=
 match ml R1 i with |some (_,e1)=>cB σ e1.obj |none=> .gone
theorem mO(R1:List (Nat×En))(σ:Nat->Nat->Option (Nat×Nat)): ∀(ns:List Nat) (i0:Nat) (R R2:List (Nat×En)),dC R1 σ i0 ns R=some R2->ns.Nodup->
  ∀m,(∀i,posOf ns m i0=some i-> ∃e,lk R m=some e/\lk R2 m=some ⟨e.aw,e.tag,dG R1 σ i⟩)/\(posOf ns m i0=none->lk R2 m=lk R m)
 | [],i0,R,R2,h,_,m=>by grind [dC,posOf]
 |n::ns,i0,R,R2,h,rW,m=>by
  simp only[dC] at h;split at h
  ·cases h
  rename_i e he;obtain⟨hn,rW⟩:=zbf.1 rW;obtain⟨h1,h2⟩:=mO R1 σ ns (i0+1) _ R2 h rW m;simp only[posOf];by_cases hm:n=m
  ·subst hm;have hp:posOf ns n (i0+1)=none:=by
    cases hp:posOf ns n (i0+1) with
    |none=>rfl
    |some j=>exact absurd (zan (cM ns n _ j hp).2) hn
   refine⟨λi hi=> ?_,λhi=>by simp at hi⟩;simp at hi;subst hi;refine⟨e,he,?_⟩;rw[h2 hp,aJ];rfl
  simp_all [aR]
def cr(R:List (Nat×En))(m:Nat):Nat:=match lk R m with |none=>0 |some e0=>e0.aw+1
theorem kR(R1:List (Nat×En))(σ:Nat->Nat->Option (Nat×Nat)): ∀(ms:List Nat) (m0:Nat) (R R3:List (Nat×En)),fY R1 σ m0 ms R=some R3->
  ∀m,(∀n,(m0<=m/\ms[m-m0]?=some n)-> ∃e1,lk R1 n=some e1/\lk R3 m=some ⟨cr R m,none,cB σ e1.obj⟩/\ ∀e0,lk R m=some e0->e0.obj= .gone)/\
   ((m<m0\/m0+ms.length<=m)->lk R3 m=lk R m)
 | [],m0,R,R3,h,m=>by grind [fY]
 |n::ms,m0,R,R3,h,m=>by
  simp only[fY] at h;split at h
  ·cases h
  rename_i e1 nT;have key: ∃aw,fY R1 σ (m0+1) ms (ins m0 ⟨aw,none,cB σ e1.obj⟩ R)=some R3/\aw=cr R m0/\ ∀e0,lk R m0=some e0->e0.obj= .gone:=by grind [cr]
  obtain⟨aw,h,ij,GU⟩:=key;obtain⟨h1,h2⟩:=kR R1 σ ms (m0+1) _ R3 h m;grind [aJ,cr,aR]
theorem jG{R1:List (Nat×En)}{i m:Nat}{e:En}(h:ml R1 i=some (m,e)):lk R1 m=some e/\e.tag=some i:=by
 unfold ml at h;split at h
 ·split at h
  next e' he=>
   split at h
   ·simp_all
   cases h
  cases h
 cases h
section
variable{Q:Program}{T:Tg}{F:Nat->Prop}{G:Nat->Value}{w:World}{a:Act}{s:S}
theorem oH{t:TypeId}{p q:P}{s':S}{v:Value}(h:aq Q T F G w a s)(h1:eG Q s t p=some (s',q))(C5:ak F w G s.rg v p):
  ∃F',aq Q T F' G w a s'/\Ext (Own G s.rg) (Own G s'.rg) F F' w w/\Names G G s.rg s'.rg/\(∀b,F b->F' b)/\ak F' w G s'.rg v q:=by
 unfold eG at h1;split at h1
 ·split at h1
  ·split at h1
   next s3 x hx=>obtain⟨rfl,rfl⟩:=h1;obtain⟨F',f1,f2,f3,f4,f5⟩:=l7 h hx C5;exact⟨F',f1,f2,f3,f4,.d f5⟩
   cases h1
  grind [Ext.refl,Names.refl]
 ·split at h1
  ·rw[D.force_eq] at h1;obtain⟨rfl,rfl⟩:=h1;cases C5 with
   |d hd=>exact⟨F,h,Ext.refl _ _ _,Names.refl _ _,λ_ h=>h,.d (wR hd)⟩
  grind [Ext.refl,Names.refl]
 grind [Ext.refl,Names.refl]
theorem mP: ∀(ps:List P) (ts:List TypeId) (s:S) (F:Nat->Prop) (s':S) (qs:List P) (vs:List Value),aq Q T F G w a s->bW Q s ts ps=some (s',qs)->vs.length=ps.length->
  (∀(i:Nat) (v:Value) (c:P),vs[i]?=some v->ps[i]?=some c->ak F w G s.rg v c)->
  ∃F',aq Q T F' G w a s'/\Ext (Own G s.rg) (Own G s'.rg) F F' w w/\Names G G s.rg s'.rg/\(∀b,F b->F' b)/\vs.length=qs.length/\ ∀(i:Nat) (v:Value) (c:P),vs[i]?=some v->qs[i]?=some c->ak F' w G s'.rg v c
 | [],ts,s,F,s',xs,vs,h,hs,hl,hv=>by grind [bW,Ext.refl,Names.refl]
 |p::ps,ts,s,F,s',xs,vs,h,hs,hl,hv=>by
  cases vs with
  |nil=>simp at hl
  |cons v vs=>
   simp only[bW] at hs;split at hs
   ·cases hs
   rename_i s1 q h1;split at hs
   ·rename_i s2 A6 h2;simp at hs;obtain⟨rfl,rfl⟩:=hs;have one: ∃F',aq Q T F' G w a s1/\Ext (Own G s.rg) (Own G s1.rg) F F' w w/\Names G G s.rg s1.rg/\(∀b,F b->F' b)/\ak F' w G s1.rg v q:=by
     have C5:=hv 0 v p (by simp) (by simp);unfold gY at h1;split at h1
     ·split at h1
      next s3 x hx=>obtain⟨rfl,rfl⟩:=h1;obtain⟨F',f1,f2,f3,f4,f5⟩:=l6 h hx C5;exact⟨F',f1,f2,f3,f4,.d f5⟩
      cases h1
     ·split at h1
      next s3 x hx=>obtain⟨rfl,rfl⟩:=h1;obtain⟨F',f1,f2,f3,f4,f5⟩:=l6 h hx C5;exact⟨F',f1,f2,f3,f4,.d f5⟩
      cases h1
     grind [oH]
    obtain⟨F1,a1,a2,a3,a4,a5⟩:=one;obtain⟨F2,b1,b2,b3,b4,b5,b6⟩:=mP ps ts.tail s1 F1 s2 A6 vs a1 h2 (by grind)
     (λi u c hu hc=>(hv (i+1) u c (by grind) (by grind)).mono a4 (λ_ _=>rfl) a3)
    refine⟨F2,b1,a2.trans b2,a3.trans b3,λb hb=>b4 b (a4 b hb),by grind,λi u c hu hc=> ?_⟩;cases i with
    |zero=>simp at hu hc;subst hu;subst hc;exact a5.mono b4 (λ_ _=>rfl) b3
    |succ i=>grind
   cases hs
theorem qZ{f:FuncId}(ps:List P)(s:S)(F:Nat->Prop)(s':S)(qs:List P)(vs:List Value)(h:aq Q T F G w a s)(hs:bn Q s f ps=some (s',qs))(hl:vs.length=ps.length)
  (hv: ∀(i:Nat) (v:Value) (c:P),vs[i]?=some v->ps[i]?=some c->ak F w G s.rg v c):
  ∃F',aq Q T F' G w a s'/\Ext (Own G s.rg) (Own G s'.rg) F F' w w/\Names G G s.rg s'.rg/\(∀b,F b->F' b)/\vs.length=qs.length/\ ∀(i:Nat) (v:Value) (c:P),vs[i]?=some v->qs[i]?=some c->ak F' w G s'.rg v c:=by
 grind [bn,Ext.refl,Names.refl,mP]
theorem sL(h:aq Q T F G w a s){ns ms:List Nat}{base:Nat}(rU:dp ns=true)(HV:dp ms=true){R0 R1 R2 R3:List (Nat×En)}(nY:sub s.rg (toPos s.rg ns) true 0 ns=some R0)
  {F2:Nat->Prop} {G2:Nat->Value} {w':World} (zk:dK Q ⟨λi=>G (ns.getD i 0),T.w0,0,false⟩ F2 G2 w' R1) (fG:Ext (Own (λi=>G (ns.getD i 0)) R0) (Own G2 R1) F F2 w w')
  (Fw: ∀m∈ms,∃e,lk R1 m=some e/\e.tag=none)
  (gy:dC R1 (eH R1 s.rg ns ms base) 0 ns s.rg=some R2) (c6:fY R1 (eH R1 s.rg ns ms base) base ms R2=some R3):
  ∃G3,aq Q T F2 G3 w' a {s with rg:=R3}/\Ext (Own G s.rg) (Own G3 R3) F F2 w w'/\qW G2 G3 R1 R3 (eH R1 s.rg ns ms base):=by
 have zl:=cQ ns rU;have C6:=cQ ms HV;obtain⟨s1,s2,s3⟩:=h.heap.sub nY rU;simp only[zaT] at s1
 let σ:=eH R1 s.rg ns ms base
 have sM: ∀m,(∃n,base<=m/\ms[m-base]?=some n)\/(m<base\/base+ms.length<=m):=λm=>by
  by_cases h1:base<=m/\m-base<ms.length
  ·exact .inl ⟨_,h1.1,zad h1.2⟩
  exact .inr (by omega)
 let G3:Nat->Value:=λm=>if base<=m/\m-base<ms.length then G2 (ms.getD (m-base) 0) else G m
 have xc: ∀m n,base<=m->ms[m-base]?=some n->G3 m=G2 n:=λm n h1 h2=>by have:=(zaa.1 h2).1;simp only[G3,zat (show base<=m/\m-base<ms.length from⟨h1,this⟩)];simp[zai,h2]
 have sN: ∀m,(m<base\/base+ms.length<=m)->G3 m=G m:=λm h1=>by simp only[G3,zav (show ¬(base<=m/\m-base<ms.length) by omega)]
 have hb:=λm=>mO R1 σ ns 0 s.rg R2 gy zl m;have hn:=λm=>kR R1 σ ms base R2 R3 c6 m;have tU: ∀m,cr R2 m=cr s.rg m:=λm=>by
  cases hp:posOf ns m 0 with
  |none=>simp[cr,(hb m).2 hp]
  |some i=>obtain⟨e,h1,h2⟩:=(hb m).1 i hp;simp[cr,h1,h2]
 have Em: ∀m e',lk R3 m=some e'->
   (∃n e1,base<=m/\ms[m-base]?=some n/\lk R1 n=some e1/\e'=⟨cr s.rg m,none,cB σ e1.obj⟩/\G3 m=G2 n)\/
   (∃i e,ns[i]?=some m/\lk s.rg m=some e/\e'=⟨e.aw,e.tag,dG R1 σ i⟩/\G3 m=G m)\/
   (m∉ns/\lk s.rg m=some e'/\G3 m=G m):=λm e' a7=>by
  rcases sM m with⟨n,h1,h2⟩|h1
  ·obtain⟨e1,g1,g2,g3⟩:=(hn m).1 n ⟨h1,h2⟩;rw[a7] at g2;cases g2;exact .inl ⟨n,e1,h1,h2,g1,by rw[tU],xc m n h1 h2⟩
  rw[(hn m).2 h1] at a7;cases hp:posOf ns m 0 with
  |none=>rw[(hb m).2 hp] at a7;exact .inr (.inr ⟨jF _ _ _ hp,a7,sN m h1⟩)
  |some i=>obtain⟨e,g1,g2⟩:=(hb m).1 i hp;rw[a7] at g2;cases g2;obtain⟨_,hi⟩:=cM ns m 0 i hp;exact .inr (.inl ⟨i,e,by simpa using hi,g1,rfl,sN m h1⟩)
 have oG:qW G2 G3 R1 R3 σ:=by
  intro n v n' v' hσ;simp only[σ,eH] at hσ;split at hσ
  ·cases hσ
  rename_i e1 nT;split at hσ
  next hv=>
   have hv:e1.aw=v:=by simpa using hv
   split at hσ
   ·rename_i i yY;split at hσ
    ·rename_i m n1 ex hm GV;split at hσ
     ·rename_i yo;have yo:n1=n:=by simpa using yo
      subst yo;split at hσ
      ·rename_i e0 yZ;simp at hσ;obtain⟨rfl,rfl⟩:=hσ;have hp:=cq zl hm;obtain⟨e,g1,g2⟩:=(hb m).1 i hp;rw[yZ] at g1;cases g1;obtain⟨C7,HW⟩:=jG GV;rw[nT] at C7;cases C7;have Fx:dG R1 σ i=cB σ e1.obj:=by simp[dG,GV]
       rcases sM m with⟨nn,h1,h2⟩|h1
       ·obtain⟨e2,k1,k2,k3⟩:=(hn m).1 nn ⟨h1,h2⟩;refine⟨_,k2,?_,λHX _=> ?_⟩
        ·simp[cr,g2]
        simp[cr,g2] at HX
       have Eg:=(hn m).2 h1;rw[g2] at Eg;refine⟨_,Eg,zaf _,λ_ c7=>⟨⟨e1,nT,hv,?_⟩,?_⟩⟩
       ·rw[Fx,ff] at c7;exact c7
       rw[sN m h1];rw[Fx,ff] at c7;have:=zk.tag n1 e1 i nT yY c7;rw[this];simp[zai,hm]
      cases hσ
     cases hσ
    cases hσ
   rename_i yY;split at hσ
   ·rename_i j hj;obtain⟨_,y9⟩:=cM ms n 0 j hj;simp at y9;have hm:ms[base+j-base]?=some n:=by rw[show base+j-base=j by omega];exact y9
    obtain⟨e2,k1,k2,k3⟩:=(hn (base+j)).1 n ⟨by omega,hm⟩;rw[nT] at k1;cases k1;have HY:n'=base+j/\v'=cr s.rg (base+j):=by
     split at hσ
     next hl=>simp at hσ;obtain⟨rfl,rfl⟩:=hσ;simp[cr,hl]
     rename_i e0 hl;simp at hσ;obtain⟨rfl,rfl⟩:=hσ;simp[cr,hl]
    obtain⟨rfl,rfl⟩:=HY;refine⟨_,k2,by rw[tU];exact zaf _,λ_ c7=>⟨⟨e1,nT,hv,by rw[ff] at c7;exact c7⟩,xc _ n (by omega) hm⟩⟩
   cases hσ
  cases hσ
 have mQ: ∀b,Own (λi=>G (ns.getD i 0)) R0 b-> ∃n e,n∈ns/\lk s.rg n=some e/\aG (G n) e.obj=some b:=s3;have A2: ∀b,F b->w'.heap[b]?=w.heap[b]?:=λb hb=>fG.keep b (h.gQ b hb) (λho=>by obtain⟨n,e,_,he,bU⟩:=mQ b ho;exact h.iY n e b he bU hb);have kN: ∀m e b,m∉ns->lk s.rg m=some e->aG (G m) e.obj=some b-> ¬Own (λi=>G (ns.getD i 0)) R0 b:=λm e b hm he hb ho=>by obtain⟨n,e2,Ed,yp,ja⟩:=mQ b ho;exact hm (by rw[h.own m n e e2 b he yp hb ja];exact Ed)
 have xd:Names G G3 s.rg R3:=by
  constructor
  ·intro m e he;rcases sM m with⟨n,h1,h2⟩|h1
   ·obtain⟨e1,g1,g2,g3⟩:=(hn m).1 n ⟨h1,h2⟩;refine⟨_,g2,by rw[tU];simp[cr,he],λhv _=> ?_⟩;rw[tU] at hv;simp[cr,he] at hv
   cases hp:posOf ns m 0 with
   |none=>refine⟨e,by rw[(hn m).2 h1,(hb m).2 hp];exact he,zaf _,λ_ h=>h⟩
   |some i=>obtain⟨e0,g1,g2⟩:=(hb m).1 i hp;rw[he] at g1;cases g1;obtain⟨_,hi⟩:=cM ns m 0 i hp;simp at hi;obtain⟨e2,k1,k2,_⟩:=l8 s.rg _ true ns 0 R0 nY i m hi;rw[he] at k1;cases k1;exact⟨⟨e.aw,e.tag,dG R1 σ i⟩,by rw[(hn m).2 h1];exact g2,zaf _,λ_ _=>k2⟩
  intro m e e' he a7 hv hl;rcases Em m e' a7 with⟨n,e1,h1,h2,h3,rfl,h5⟩| ⟨i,e0,h1,h2,rfl,h4⟩| ⟨h1,h2,h3⟩
  ·simp[cr,he] at hv
  ·exact h4
  exact h3
 have xe: ∀i o,dG R1 σ i=o->o.live=true-> ∃m1 e1,ml R1 i=some (m1,e1)/\o=cB σ e1.obj:=λi o ho hl=>by
  unfold dG at ho;split at ho
  next m1 e1 ht=>exact⟨m1,e1,ht,ho.symm⟩
  subst ho;simp[Obj.live] at hl
 have q4: ∀(g:Value) (o:Obj) b,aG g o=some b->o.live=true:=λg o b hb=>by cases o<;>simp_all [aG,Obj.live]
 have pG: ∀m e' b,lk R3 m=some e'->aG (G3 m) e'.obj=some b->
   (∃n e1,lk R1 n=some e1/\aG (G2 n) e1.obj=some b/\((e1.tag=none/\base<=m/\ms[m-base]?=some n)\/ ∃i,e1.tag=some i/\ns[i]?=some m))\/
   (m∉ns/\lk s.rg m=some e'/\aG (G m) e'.obj=some b):=λm e' b a7 bU=>by
  rcases Em m e' a7 with⟨n,e1,h1,h2,h3,rfl,h5⟩| ⟨i,e0,h1,h2,rfl,h4⟩| ⟨h1,h2,h3⟩
  ·simp only[il] at bU;rw[h5] at bU;obtain⟨e2,k1,k2⟩:=Fw n (zan h2);rw[h3] at k1;cases k1;exact .inl ⟨n,e1,h3,bU,.inl ⟨k2,h1,h2⟩⟩
  ·obtain⟨m1,e1,k1,k2⟩:=xe i _ rfl (q4 _ _ _ bU);simp only at bU;rw[k2,il,h4] at bU;obtain⟨k3,k4⟩:=jG k1;refine .inl ⟨m1,e1,k3,?_,.inr ⟨i,k4,h1⟩⟩;have:=zk.tag m1 e1 i k3 k4 (q4 _ _ _ bU);rw[this];simpa [zai,h1] using bU
  rw[h3] at bU;exact .inr ⟨h1,h2,bU⟩
 have El:Ext (Own G s.rg) (Own G3 R3) F F2 w w':=by
  refine⟨fG.h9,?_,?_,?_,fG.size,fG.os,fG.tape,fG.output⟩
  ·intro b bU;rcases fG.mr b bU with h1 |h1 |h1
   ·exact .inl h1
   ·obtain⟨n,e,_,he,ja⟩:=mQ b h1;exact .inr (.inl ⟨n,e,he,ja⟩)
   exact .inr (.inr h1)
  ·rintro b ⟨m,e',a7,bU⟩;rcases pG m e' b a7 bU with⟨n1,f1,g1,g2,_⟩| ⟨g1,g2,g3⟩
   ·rcases fG.kb b ⟨n1,f1,g1,g2⟩ with h1 |h1
    ·obtain⟨n,e,_,he,ja⟩:=mQ b h1;exact .inl ⟨n,e,he,ja⟩
    exact .inr h1
   exact .inl ⟨m,e',g2,g3⟩
  intro b bU eb;exact fG.keep b bU (λho=>by obtain⟨n,e,_,he,ja⟩:=mQ b ho;exact eb ⟨n,e,he,ja⟩)
 refine⟨G3,⟨h.si.go El,h.size,λt p hp=>(h.tm t p hp).mono fG.h9 A2 xd,?_,?_,?_,zk.gQ,?_,λb hb=>⟨fG.h9 b (h.z b hb).1,(A2 b (h.z b hb).1).trans (h.z b hb).2⟩,zk.dr,zaB h.sz fG.size⟩,El,oG⟩
 ·intro m e' a7;rcases Em m e' a7 with⟨n,e1,h1,h2,h3,rfl,h5⟩| ⟨i,e0,h1,h2,rfl,h4⟩| ⟨h1,h2,h3⟩
  ·exact mM oG h5 (zk.rg n e1 h3)
  ·cases Bf:(dG R1 σ i).live with
   |false=>
    have:dG R1 σ i= .gone:=by cases Fx:dG R1 σ i<;>simp_all [Obj.live]
    simp only[this];trivial
   |true=>obtain⟨m1,e1,k1,k2⟩:=xe i _ rfl Bf;obtain⟨k3,k4⟩:=jG k1;simp only[k2];refine mM oG ?_ (zk.rg m1 e1 k3);rw[k2,ff] at Bf;rw[h4,zk.tag m1 e1 i k3 k4 Bf];simp[zai,h1]
  exact(h.rg m e' h2).mono fG.h9 A2 xd h3 (λb bU=>fG.keep b ((h.rg m e' h2).lt bU) (kN m e' b h1 h2 bU))
 ·intro m1 m2 e1 e2 b nT yp lh ja;rcases pG m1 e1 b nT lh with⟨n1,f1,g1,g2,g3⟩| ⟨g1,g2,g3⟩<;>rcases pG m2 e2 b yp ja with⟨n2,f2,k1,k2,k3⟩| ⟨k1,k2,k3⟩
  ·have:=zk.own n1 n2 f1 f2 b g1 k1 g2 k2;subst this;rw[g1] at k1;cases k1;rcases g3 with⟨t1,p1,p2⟩| ⟨i1,t1,p1⟩<;>rcases k3 with⟨t2,q1,q2⟩| ⟨i2,t2,q1⟩
   ·have a1:=cq C6 p2;have a2:=cq C6 q2;rw[a1] at a2;have:=za2 a2;omega
   ·rw[t1] at t2;cases t2
   ·rw[t1] at t2;cases t2
   rw[t1] at t2;cases t2;rw[p1] at q1;exact za2 q1
  ·exfalso;rcases fG.kb b ⟨n1,f1,g1,g2⟩ with h1 |h1
   ·exact kN m2 e2 b k1 k2 k3 h1
   have:=(h.rg m2 e2 k2).lt k3;omega
  ·exfalso;rcases fG.kb b ⟨n2,f2,k1,k2⟩ with h1 |h1
   ·exact kN m1 e1 b g1 g2 g3 h1
   have:=(h.rg m1 e1 g2).lt g3;omega
  exact h.own m1 m2 e1 e2 b g2 k2 g3 k3
 ·intro m e' b a7 bU hf;rcases pG m e' b a7 bU with⟨n1,f1,g1,g2,_⟩| ⟨g1,g2,g3⟩
  ·exact zk.iY n1 f1 b g1 g2 hf
  rcases fG.mr b hf with h1 |h1 |h1
  ·exact h.iY m e' b g2 g3 h1
  ·exact kN m e' b g1 g2 g3 h1
  have:=(h.rg m e' g2).lt g3;omega
 intro m e' i a7 hi hl;rcases Em m e' a7 with⟨n,e1,h1,h2,h3,rfl,h5⟩| ⟨i',e0,h1,h2,rfl,h4⟩| ⟨h1,h2,h3⟩
 ·simp at hi
 ·rw[h4];obtain⟨e2,k1,k2,_⟩:=l8 s.rg _ true ns 0 R0 nY i' m h1;rw[h2] at k1;cases k1;exact h.tag m e0 i h2 hi k2
 rw[h3];exact h.tag m e' i h2 hi hl
theorem dH(R1:List (Nat×En)): ∀(l:List Nat) (m:Nat),m∈cV R1 l-> ∃e,lk R1 m=some e/\e.tag=none
 | [],m,h=>by simp[cV] at h
 |n::r,m,h=>by
  simp only[cV] at h;split at h
  next e he=>
   split at h
   ·rename_i ht;rcases zaw.1 h with rfl |h
    ·exact⟨e,he,ht⟩
    exact dH R1 r m h
   exact dH R1 r m h
  exact dH R1 r m h
theorem gj.mono{f:FuncId}{args:Array Value}{w:World}{R R':Value->World->Prop}(h:gj Q f args w R)(hr: ∀v w',R v w'->R' v w'):gj Q f args w R':=by
 rcases h with⟨h1,h2⟩| ⟨v,w',h1,h2⟩
 ·exact .inl ⟨h1,h2.mono λe w' ⟨v,he,hv⟩=>⟨v,he,hr v w' hv⟩⟩
 exact .inr ⟨v,w',h1,hr v w' h2⟩
theorem uR{cf:CF}(iQ:jc Q T.w0 cf)(h:aq Q T F G w a s){dst:Option Nat}{pf:P}{ps:List P}{s':S}(hs:fo Q cf s dst pf ps=some s'){fv:Value}{vs:List Value}(hf:ak F w G s.rg fv pf)(hl:vs.length=ps.length)
  (hv: ∀(i:Nat) (v:Value) (c:P),vs[i]?=some v->ps[i]?=some c->ak F w G s.rg v c):
  ∃gZ cs,fv= .func (.func gZ) #[] ⟨cs⟩/\gj Q gZ ⟨vs++cs⟩ w (λv w'=> ∃F' G',aq Q T F' G' w' (a.put dst v) s'/\Ext (Own G s.rg) (Own G' s'.rg) F F' w w'):=by
 unfold fo at hs;split at hs
 next gZ cl=>
  cases hf with
  |fn _ cs _ Ch fT=>
   refine⟨gZ,cs,rfl,?_⟩;split at hs
   ·cases hs
   rename_i s1 qs vJ;simp only at hs;split at hs
   ·rename_i rW;split at hs
    ·cases hs
    rename_i R0 nY;split at hs
    ·cases hs
    rename_i p R1 mR;split at hs
    ·rename_i C8;have C8:=(zac _ _▸C8:_/\_).1;split at hs
     ·cases hs
     rename_i R2 gy;split at hs
     ·cases hs
     rename_i R3 c6;have bq: ∀(i:Nat) (v:Value) (c:P),(vs++cs)[i]?=some v->(ps++cl)[i]?=some c->ak F w G s.rg v c:=λi v c h1 h2=>by
      by_cases hi:i<vs.length
      ·rw[zaD hi] at h1;rw[zaD (by omega)] at h2;exact hv i v c h1 h2
      rw[zaF (by omega)] at h1 h2;rw[<-hl] at h2;exact fT _ v c h1 h2
     obtain⟨F1,a1,a2,a3,a4,a5,a6⟩:=qZ (ps++cl) s F s1 qs (vs++cs) h vJ (by simp[hl,Ch]) bq;obtain⟨b1,b2,b3⟩:=a1.heap.sub nY rW;simp only[zaT] at b1;have hq:=iQ gZ _ R0 p R1 mR F1 _ w (vs++cs) b1 (by rw[fJ];exact a5) (λi v c h1 h2=>by rw[fI] at h2;simp only[zaj] at h2;obtain⟨q,hq,rfl⟩:=h2;exact jE b2 (a6 i v q h1 hq));refine hq.mono λv w' ⟨F2,G2,c1,c2,c3⟩=> ?_;obtain⟨G3,d1,d2,d3⟩:=sL a1 rW C8 nY c1 c3 (dH R1 _) gy c6;obtain⟨e1,e2⟩:=bg d1 hs (bt.of (jE d3 c2));refine⟨F2,G3,e1,?_⟩;rw[e2];exact a2.trans d2
    cases hs
   cases hs
 cases hs
end
end Pi
