/- The text PiCallOk. -/
import Derived.Test.YtngoddkencoalaaGreatDoorPiRen
namespace Pi
open Go
def kH(Q:Program)(f:FuncId)(args:Array Value)(w:World)(R:Value->World->Prop):Prop:=
 ((callFunc f args).run Q w= .ok (.enter f args) w/\Calls Q f args w (λe w'=> ∃v,e= .returned v/\R v w'))\/ ∃v w',(callFunc f args).run Q w= .ok (.value v) w'/\R v w'
def dw(Q:Program)(w0:World)(cf:CF):Prop:=
 ∀kW ps R p R1,cf kW ps R=some (p,R1)-> ∀(F:Nat->Prop) (G:Nat->Value) (w:World) (vs:List Value),fM Q ⟨G,w0,0,false⟩ F G w R->vs.length=ps.length->
  (∀(i:Nat) (v:Value) (c:P),vs[i]?=some v->ps[i]?=some c->aH F w G R v c)->
  kH Q kW ⟨vs⟩ w (λv w'=> ∃F' G',fM Q ⟨G,w0,0,false⟩ F' G' w' R1/\aH F' w' G' R1 v p/\Ext (Own G R) (Own G' R1) F F' w w')
def jx(R1:List (Nat×En))(σ:Nat->Nat->Option (Nat×Nat))(i:Nat):Obj:=
 match yx R1 i with |some (_,e1)=>fZ σ e1.obj |none=> .gone
theorem yX(R1:List (Nat×En))(σ:Nat->Nat->Option (Nat×Nat)): ∀(ns:List Nat) (i0:Nat) (R R2:List (Nat×En)),gw R1 σ i0 ns R=some R2->ns.Nodup->
  ∀m,(∀i,posOf ns m i0=some i-> ∃e,lk R m=some e/\lk R2 m=some ⟨e.aV,e.tag,jx R1 σ i⟩)/\(posOf ns m i0=none->lk R2 m=lk R m)
 | [],i0,R,R2,h,_,m=>by grind [gw,posOf]
 |n::ns,i0,R,R2,h,kY,m=>by
  simp only[gw] at h;split at h
  ·cases h
  rename_i e he;obtain⟨hn,kY⟩:=zbd.1 kY;obtain⟨h1,h2⟩:=yX R1 σ ns (i0+1) _ R2 h kY m;simp only[posOf];by_cases hm:n=m
  ·subst hm;have hp:posOf ns n (i0+1)=none:=by
    cases hp:posOf ns n (i0+1) with
    |none=>rfl
    |some j=>exact absurd (zaC (gD ns n _ j hp).2) hn
   refine⟨λi hi=> ?_,λhi=>by simp at hi⟩;simp at hi;subst hi;refine⟨e,he,?_⟩;rw[h2 hp,bC];rfl
  simp_all [b8]
def fy(R:List (Nat×En))(m:Nat):Nat:=match lk R m with |none=>0 |some e0=>e0.aV+1
theorem vv(R1:List (Nat×En))(σ:Nat->Nat->Option (Nat×Nat)): ∀(ms:List Nat) (m0:Nat) (R R3:List (Nat×En)),ln R1 σ m0 ms R=some R3->
  ∀m,(∀n,(m0<=m/\ms[m-m0]?=some n)-> ∃e1,lk R1 n=some e1/\lk R3 m=some ⟨fy R m,none,fZ σ e1.obj⟩/\ ∀e0,lk R m=some e0->e0.obj= .gone)/\
   ((m<m0\/m0+ms.length<=m)->lk R3 m=lk R m)
 | [],m0,R,R3,h,m=>by grind [ln]
 |n::ms,m0,R,R3,h,m=>by
  simp only[ln] at h;split at h
  ·cases h
  rename_i e1 FQ;have key: ∃aV,ln R1 σ (m0+1) ms (ins m0 ⟨aV,none,fZ σ e1.obj⟩ R)=some R3/\aV=fy R m0/\ ∀e0,lk R m0=some e0->e0.obj= .gone:=by grind [fy]
  obtain⟨aV,h,Si,qmo⟩:=key;obtain⟨h1,h2⟩:=vv R1 σ ms (m0+1) _ R3 h m;grind [bC,fy,b8]
theorem sr{R1:List (Nat×En)}{i m:Nat}{e:En}(h:yx R1 i=some (m,e)):lk R1 m=some e/\e.tag=some i:=by
 unfold yx at h;split at h
 ·split at h
  next e' he=>
   split at h
   ·simp_all
   cases h
  cases h
 cases h
section
variable{Q:Program}{T:Tg}{F:Nat->Prop}{G:Nat->Value}{w:World}{a:Act}{s:S}
theorem Cz{t:TypeId}{p q:P}{s':S}{v:Value}(h:aG Q T F G w a s)(h1:ll Q s t p=some (s',q))(hvp:aH F w G s.rg v p):
  ∃F',aG Q T F' G w a s'/\Ext (Own G s.rg) (Own G s'.rg) F F' w w/\Names G G s.rg s'.rg/\(∀b,F b->F' b)/\aH F' w G s'.rg v q:=by
 unfold ll at h1;split at h1
 ·split at h1
  ·split at h1
   next s3 x hx=>obtain⟨rfl,rfl⟩:=h1;obtain⟨F',f1,f2,f3,f4,f5⟩:=xO h hx hvp;exact⟨F',f1,f2,f3,f4,.d f5⟩
   cases h1
  grind [Ext.refl,Names.refl]
 ·split at h1
  ·rw[D.force_eq] at h1;obtain⟨rfl,rfl⟩:=h1;cases hvp with
   |d hd=>exact⟨F,h,Ext.refl _ _ _,Names.refl _ _,λ_ h=>h,.d (Se hd)⟩
  grind [Ext.refl,Names.refl]
 grind [Ext.refl,Names.refl]
theorem yY: ∀(ps:List P) (ts:List TypeId) (s:S) (F:Nat->Prop) (s':S) (qs:List P) (vs:List Value),aG Q T F G w a s->eF Q s ts ps=some (s',qs)->vs.length=ps.length->
  (∀(i:Nat) (v:Value) (c:P),vs[i]?=some v->ps[i]?=some c->aH F w G s.rg v c)->
  ∃F',aG Q T F' G w a s'/\Ext (Own G s.rg) (Own G s'.rg) F F' w w/\Names G G s.rg s'.rg/\(∀b,F b->F' b)/\vs.length=qs.length/\ ∀(i:Nat) (v:Value) (c:P),vs[i]?=some v->qs[i]?=some c->aH F' w G s'.rg v c
 | [],ts,s,F,s',xs,vs,h,hs,hl,hv=>by grind [eF,Ext.refl,Names.refl]
 |p::ps,ts,s,F,s',xs,vs,h,hs,hl,hv=>by
  cases vs with
  |nil=>simp at hl
  |cons v vs=>
   simp only[eF] at hs;split at hs
   ·cases hs
   rename_i s1 q h1;split at hs
   ·rename_i s2 qs2 h2;simp at hs;obtain⟨rfl,rfl⟩:=hs;have one: ∃F',aG Q T F' G w a s1/\Ext (Own G s.rg) (Own G s1.rg) F F' w w/\Names G G s.rg s1.rg/\(∀b,F b->F' b)/\aH F' w G s1.rg v q:=by
     have hvp:=hv 0 v p (by simp) (by simp);unfold qe at h1;split at h1
     ·split at h1
      next s3 x hx=>obtain⟨rfl,rfl⟩:=h1;obtain⟨F',f1,f2,f3,f4,f5⟩:=xN h hx hvp;exact⟨F',f1,f2,f3,f4,.d f5⟩
      cases h1
     ·split at h1
      next s3 x hx=>obtain⟨rfl,rfl⟩:=h1;obtain⟨F',f1,f2,f3,f4,f5⟩:=xN h hx hvp;exact⟨F',f1,f2,f3,f4,.d f5⟩
      cases h1
     grind [Cz]
    obtain⟨F1,a1,a2,a3,a4,a5⟩:=one;obtain⟨F2,b1,b2,b3,b4,b5,b6⟩:=yY ps ts.tail s1 F1 s2 qs2 vs a1 h2 (by grind)
     (λi u c hu hc=>(hv (i+1) u c (by grind) (by grind)).mono a4 (λ_ _=>rfl) a3)
    refine⟨F2,b1,a2.trans b2,a3.trans b3,λb hb=>b4 b (a4 b hb),by grind,λi u c hu hc=> ?_⟩;cases i with
    |zero=>simp at hu hc;subst hu;subst hc;exact a5.mono b4 (λ_ _=>rfl) b3
    |succ i=>grind
   cases hs
theorem wx{f:FuncId}(ps:List P)(s:S)(F:Nat->Prop)(s':S)(qs:List P)(vs:List Value)(h:aG Q T F G w a s)(hs:cV Q s f ps=some (s',qs))(hl:vs.length=ps.length)
  (hv: ∀(i:Nat) (v:Value) (c:P),vs[i]?=some v->ps[i]?=some c->aH F w G s.rg v c):
  ∃F',aG Q T F' G w a s'/\Ext (Own G s.rg) (Own G s'.rg) F F' w w/\Names G G s.rg s'.rg/\(∀b,F b->F' b)/\vs.length=qs.length/\ ∀(i:Nat) (v:Value) (c:P),vs[i]?=some v->qs[i]?=some c->aH F' w G s'.rg v c:=by
 grind [cV,Ext.refl,Names.refl,yY]
theorem su(h:aG Q T F G w a s){ns ms:List Nat}{base:Nat}(GL:dZ ns=true)(hms:dZ ms=true){R0 R1 R2 R3:List (Nat×En)}(gV:sub s.rg (toPos s.rg ns) true 0 ns=some R0)
  {F2:Nat->Prop} {G2:Nat->Value} {w':World} (Sv:fM Q ⟨λi=>G (ns.getD i 0),T.w0,0,false⟩ F2 G2 w' R1) (nF:Ext (Own (λi=>G (ns.getD i 0)) R0) (Own G2 R1) F F2 w w')
  (qkU: ∀m∈ms,∃e,lk R1 m=some e/\e.tag=none)
  (ko:gw R1 (fo R1 s.rg ns ms base) 0 ns s.rg=some R2) (gl:ln R1 (fo R1 s.rg ns ms base) base ms R2=some R3):
  ∃G3,aG Q T F2 G3 w' a {s with rg:=R3}/\Ext (Own G s.rg) (Own G3 R3) F F2 w w'/\GV G2 G3 R1 R3 (fo R1 s.rg ns ms base):=by
 have qab:=dJ ns GL;have qic:=dJ ms hms;obtain⟨s1,s2,s3⟩:=h.heap.sub gV GL;simp only[zbr] at s1
 let σ:=fo R1 s.rg ns ms base
 have Kj: ∀m,(∃n,base<=m/\ms[m-base]?=some n)\/(m<base\/base+ms.length<=m):=λm=>by
  by_cases h1:base<=m/\m-base<ms.length
  ·exact .inl ⟨_,h1.1,zac h1.2⟩
  exact .inr (by omega)
 let G3:Nat->Value:=λm=>if base<=m/\m-base<ms.length then G2 (ms.getD (m-base) 0) else G m
 have Sw: ∀m n,base<=m->ms[m-base]?=some n->G3 m=G2 n:=λm n h1 h2=>by have:=(zaf.1 h2).1;simp only[G3,zap (show base<=m/\m-base<ms.length from⟨h1,this⟩)];simp[zad,h2]
 have Kk: ∀m,(m<base\/base+ms.length<=m)->G3 m=G m:=λm h1=>by simp only[G3,zan (show ¬(base<=m/\m-base<ms.length) by omega)]
 have hb:=λm=>yX R1 σ ns 0 s.rg R2 ko qab m;have hn:=λm=>vv R1 σ ms base R2 R3 gl m;have MA: ∀m,fy R2 m=fy s.rg m:=λm=>by
  cases hp:posOf ns m 0 with
  |none=>simp[fy,(hb m).2 hp]
  |some i=>obtain⟨e,h1,h2⟩:=(hb m).1 i hp;simp[fy,h1,h2]
 have hR3: ∀m e',lk R3 m=some e'->
   (∃n e1,base<=m/\ms[m-base]?=some n/\lk R1 n=some e1/\e'=⟨fy s.rg m,none,fZ σ e1.obj⟩/\G3 m=G2 n)\/
   (∃i e,ns[i]?=some m/\lk s.rg m=some e/\e'=⟨e.aV,e.tag,jx R1 σ i⟩/\G3 m=G m)\/
   (m∉ns/\lk s.rg m=some e'/\G3 m=G m):=λm e' cS=>by
  rcases Kj m with⟨n,h1,h2⟩|h1
  ·obtain⟨e1,g1,g2,g3⟩:=(hn m).1 n ⟨h1,h2⟩;rw[cS] at g2;cases g2;exact .inl ⟨n,e1,h1,h2,g1,by rw[MA],Sw m n h1 h2⟩
  rw[(hn m).2 h1] at cS;cases hp:posOf ns m 0 with
  |none=>rw[(hb m).2 hp] at cS;exact .inr (.inr ⟨sq _ _ _ hp,cS,Kk m h1⟩)
  |some i=>obtain⟨e,g1,g2⟩:=(hb m).1 i hp;rw[cS] at g2;cases g2;obtain⟨_,hi⟩:=gD ns m 0 i hp;exact .inr (.inl ⟨i,e,by simpa using hi,g1,rfl,Kk m h1⟩)
 have Cy:GV G2 G3 R1 R3 σ:=by
  intro n v n' v' hσ;simp only[σ,fo] at hσ;split at hσ
  ·cases hσ
  rename_i e1 FQ;split at hσ
  next hv=>
   have hv:e1.aV=v:=by simpa using hv
   split at hσ
   ·rename_i i Y3;split at hσ
    ·rename_i m n1 ex hm htn;split at hσ
     ·rename_i R6;have R6:n1=n:=by simpa using R6
      subst R6;split at hσ
      ·rename_i e0 Mv;simp at hσ;obtain⟨rfl,rfl⟩:=hσ;have hp:=fw qab hm;obtain⟨e,g1,g2⟩:=(hb m).1 i hp;rw[Mv] at g1;cases g1;obtain⟨qid,qmu⟩:=sr htn;rw[FQ] at qid;cases qid;have hbo:jx R1 σ i=fZ σ e1.obj:=by simp[jx,htn]
       rcases Kj m with⟨nn,h1,h2⟩|h1
       ·obtain⟨e2,k1,k2,k3⟩:=(hn m).1 nn ⟨h1,h2⟩;refine⟨_,k2,?_,λhvv _=> ?_⟩
        ·simp[fy,g2]
        simp[fy,g2] at hvv
       have hl3:=(hn m).2 h1;rw[g2] at hl3;refine⟨_,hl3,zak _,λ_ h9=>⟨⟨e1,FQ,hv,?_⟩,?_⟩⟩
       ·rw[hbo,mA] at h9;exact h9
       rw[Kk m h1];rw[hbo,mA] at h9;have:=Sv.tag n1 e1 i FQ Y3 h9;rw[this];simp[zad,hm]
      cases hσ
     cases hσ
    cases hσ
   rename_i Y3;split at hσ
   ·rename_i j hj;obtain⟨_,My⟩:=gD ms n 0 j hj;simp at My;have hm:ms[base+j-base]?=some n:=by rw[show base+j-base=j by omega];exact My
    obtain⟨e2,k1,k2,k3⟩:=(hn (base+j)).1 n ⟨by omega,hm⟩;rw[FQ] at k1;cases k1;have hnv:n'=base+j/\v'=fy s.rg (base+j):=by
     split at hσ
     next hl=>simp at hσ;obtain⟨rfl,rfl⟩:=hσ;simp[fy,hl]
     rename_i e0 hl;simp at hσ;obtain⟨rfl,rfl⟩:=hσ;simp[fy,hl]
    obtain⟨rfl,rfl⟩:=hnv;refine⟨_,k2,by rw[MA];exact zak _,λ_ h9=>⟨⟨e1,FQ,hv,by rw[mA] at h9;exact h9⟩,Sw _ n (by omega) hm⟩⟩
   cases hσ
  cases hσ
 have yZ: ∀b,Own (λi=>G (ns.getD i 0)) R0 b-> ∃n e,n∈ns/\lk s.rg n=some e/\bF (G n) e.obj=some b:=s3;have hFF: ∀b,F b->w'.heap[b]?=w.heap[b]?:=λb hb=>nF.keep b (h.jE b hb) (λho=>by obtain⟨n,e,_,he,dm⟩:=yZ b ho;exact h.nf n e b he dm hb);have qm: ∀m e b,m∉ns->lk s.rg m=some e->bF (G m) e.obj=some b-> ¬Own (λi=>G (ns.getD i 0)) R0 b:=λm e b hm he hb ho=>by obtain⟨n,e2,X8,Ye,cu⟩:=yZ b ho;exact hm (by rw[h.own m n e e2 b he Ye hb cu];exact X8)
 have Sx:Names G G3 s.rg R3:=by
  constructor
  ·intro m e he;rcases Kj m with⟨n,h1,h2⟩|h1
   ·obtain⟨e1,g1,g2,g3⟩:=(hn m).1 n ⟨h1,h2⟩;refine⟨_,g2,by rw[MA];simp[fy,he],λhv _=> ?_⟩;rw[MA] at hv;simp[fy,he] at hv
   cases hp:posOf ns m 0 with
   |none=>refine⟨e,by rw[(hn m).2 h1,(hb m).2 hp];exact he,zak _,λ_ h=>h⟩
   |some i=>obtain⟨e0,g1,g2⟩:=(hb m).1 i hp;rw[he] at g1;cases g1;obtain⟨_,hi⟩:=gD ns m 0 i hp;simp at hi;obtain⟨e2,k1,k2,_⟩:=xP s.rg _ true ns 0 R0 gV i m hi;rw[he] at k1;cases k1;exact⟨⟨e.aV,e.tag,jx R1 σ i⟩,by rw[(hn m).2 h1];exact g2,zak _,λ_ _=>k2⟩
  intro m e e' he cS hv hl;rcases hR3 m e' cS with⟨n,e1,h1,h2,h3,rfl,h5⟩| ⟨i,e0,h1,h2,rfl,h4⟩| ⟨h1,h2,h3⟩
  ·simp[fy,he] at hv
  ·exact h4
  exact h3
 have Sy: ∀i o,jx R1 σ i=o->o.live=true-> ∃m1 e1,yx R1 i=some (m1,e1)/\o=fZ σ e1.obj:=λi o ho hl=>by
  unfold jx at ho;split at ho
  next m1 e1 ht=>exact⟨m1,e1,ht,ho.symm⟩
  subst ho;simp[Obj.live] at hl
 have GW: ∀(g:Value) (o:Obj) b,bF g o=some b->o.live=true:=λg o b hb=>by cases o<;>simp_all [bF,Obj.live]
 have Ea: ∀m e' b,lk R3 m=some e'->bF (G3 m) e'.obj=some b->
   (∃n e1,lk R1 n=some e1/\bF (G2 n) e1.obj=some b/\((e1.tag=none/\base<=m/\ms[m-base]?=some n)\/ ∃i,e1.tag=some i/\ns[i]?=some m))\/
   (m∉ns/\lk s.rg m=some e'/\bF (G m) e'.obj=some b):=λm e' b cS dm=>by
  rcases hR3 m e' cS with⟨n,e1,h1,h2,h3,rfl,h5⟩| ⟨i,e0,h1,h2,rfl,h4⟩| ⟨h1,h2,h3⟩
  ·simp only[qq] at dm;rw[h5] at dm;obtain⟨e2,k1,k2⟩:=qkU n (zaC h2);rw[h3] at k1;cases k1;exact .inl ⟨n,e1,h3,dm,.inl ⟨k2,h1,h2⟩⟩
  ·obtain⟨m1,e1,k1,k2⟩:=Sy i _ rfl (GW _ _ _ dm);simp only at dm;rw[k2,qq,h4] at dm;obtain⟨k3,k4⟩:=sr k1;refine .inl ⟨m1,e1,k3,?_,.inr ⟨i,k4,h1⟩⟩;have:=Sv.tag m1 e1 i k3 k4 (GW _ _ _ dm);rw[this];simpa [zad,h1] using dm
  rw[h3] at dm;exact .inr ⟨h1,h2,dm⟩
 have hx3:Ext (Own G s.rg) (Own G3 R3) F F2 w w':=by
  refine⟨nF.lx,?_,?_,?_,nF.size,nF.os,nF.tape,nF.output⟩
  ·intro b dm;rcases nF.nC b dm with h1 |h1 |h1
   ·exact .inl h1
   ·obtain⟨n,e,_,he,cu⟩:=yZ b h1;exact .inr (.inl ⟨n,e,he,cu⟩)
   exact .inr (.inr h1)
  ·rintro b ⟨m,e',cS,dm⟩;rcases Ea m e' b cS dm with⟨n1,f1,g1,g2,_⟩| ⟨g1,g2,g3⟩
   ·rcases nF.mc b ⟨n1,f1,g1,g2⟩ with h1 |h1
    ·obtain⟨n,e,_,he,cu⟩:=yZ b h1;exact .inl ⟨n,e,he,cu⟩
    exact .inr h1
   exact .inl ⟨m,e',g2,g3⟩
  intro b dm bS;exact nF.keep b dm (λho=>by obtain⟨n,e,_,he,cu⟩:=yZ b ho;exact bS ⟨n,e,he,cu⟩)
 refine⟨G3,⟨h.sg.go hx3,h.size,λt p hp=>(h.tm t p hp).mono nF.lx hFF Sx,?_,?_,?_,Sv.jE,?_,λb hb=>⟨nF.lx b (h.z b hb).1,(hFF b (h.z b hb).1).trans (h.z b hb).2⟩,Sv.dr,zaE h.sz nF.size⟩,hx3,Cy⟩
 ·intro m e' cS;rcases hR3 m e' cS with⟨n,e1,h1,h2,h3,rfl,h5⟩| ⟨i,e0,h1,h2,rfl,h4⟩| ⟨h1,h2,h3⟩
  ·exact yW Cy h5 (Sv.rg n e1 h3)
  ·cases hlv:(jx R1 σ i).live with
   |false=>
    have:jx R1 σ i= .gone:=by cases hbo:jx R1 σ i<;>simp_all [Obj.live]
    simp only[this];trivial
   |true=>obtain⟨m1,e1,k1,k2⟩:=Sy i _ rfl hlv;obtain⟨k3,k4⟩:=sr k1;simp only[k2];refine yW Cy ?_ (Sv.rg m1 e1 k3);rw[k2,mA] at hlv;rw[h4,Sv.tag m1 e1 i k3 k4 hlv];simp[zad,h1]
  exact(h.rg m e' h2).mono nF.lx hFF Sx h3 (λb dm=>nF.keep b ((h.rg m e' h2).lt dm) (qm m e' b h1 h2 dm))
 ·intro m1 m2 e1 e2 b FQ Ye j7 cu;rcases Ea m1 e1 b FQ j7 with⟨n1,f1,g1,g2,g3⟩| ⟨g1,g2,g3⟩<;>rcases Ea m2 e2 b Ye cu with⟨n2,f2,k1,k2,k3⟩| ⟨k1,k2,k3⟩
  ·have:=Sv.own n1 n2 f1 f2 b g1 k1 g2 k2;subst this;rw[g1] at k1;cases k1;rcases g3 with⟨t1,p1,p2⟩| ⟨i1,t1,p1⟩<;>rcases k3 with⟨t2,q1,q2⟩| ⟨i2,t2,q1⟩
   ·have a1:=fw qic p2;have a2:=fw qic q2;rw[a1] at a2;have:=zce a2;omega
   ·rw[t1] at t2;cases t2
   ·rw[t1] at t2;cases t2
   rw[t1] at t2;cases t2;rw[p1] at q1;exact zce q1
  ·exfalso;rcases nF.mc b ⟨n1,f1,g1,g2⟩ with h1 |h1
   ·exact qm m2 e2 b k1 k2 k3 h1
   have:=(h.rg m2 e2 k2).lt k3;omega
  ·exfalso;rcases nF.mc b ⟨n2,f2,k1,k2⟩ with h1 |h1
   ·exact qm m1 e1 b g1 g2 g3 h1
   have:=(h.rg m1 e1 g2).lt g3;omega
  exact h.own m1 m2 e1 e2 b g2 k2 g3 k3
 ·intro m e' b cS dm hf;rcases Ea m e' b cS dm with⟨n1,f1,g1,g2,_⟩| ⟨g1,g2,g3⟩
  ·exact Sv.nf n1 f1 b g1 g2 hf
  rcases nF.nC b hf with h1 |h1 |h1
  ·exact h.nf m e' b g2 g3 h1
  ·exact qm m e' b g1 g2 g3 h1
  have:=(h.rg m e' g2).lt g3;omega
 intro m e' i cS hi hl;rcases hR3 m e' cS with⟨n,e1,h1,h2,h3,rfl,h5⟩| ⟨i',e0,h1,h2,rfl,h4⟩| ⟨h1,h2,h3⟩
 ·simp at hi
 ·rw[h4];obtain⟨e2,k1,k2,_⟩:=xP s.rg _ true ns 0 R0 gV i' m h1;rw[h2] at k1;cases k1;exact h.tag m e0 i h2 hi k2
 rw[h3];exact h.tag m e' i h2 hi hl
theorem eT(R1:List (Nat×En)): ∀(l:List Nat) (m:Nat),m∈dh R1 l-> ∃e,lk R1 m=some e/\e.tag=none
 | [],m,h=>by simp[dh] at h
 |n::r,m,h=>by
  simp only[dh] at h;split at h
  next e he=>
   split at h
   ·rename_i ht;rcases zav.1 h with rfl |h
    ·exact⟨e,he,ht⟩
    exact eT R1 r m h
   exact eT R1 r m h
  exact eT R1 r m h
theorem kH.mono{f:FuncId}{args:Array Value}{w:World}{R R':Value->World->Prop}(h:kH Q f args w R)(hr: ∀v w',R v w'->R' v w'):kH Q f args w R':=by
 rcases h with⟨h1,h2⟩| ⟨v,w',h1,h2⟩
 ·exact .inl ⟨h1,h2.mono λe w' ⟨v,he,hv⟩=>⟨v,he,hr v w' hv⟩⟩
 exact .inr ⟨v,w',h1,hr v w' h2⟩
theorem OT{cf:CF}(jH:dw Q T.w0 cf)(h:aG Q T F G w a s){dst:Option Nat}{pf:P}{ps:List P}{s':S}(hs:mS Q cf s dst pf ps=some s'){fv:Value}{vs:List Value}(hf:aH F w G s.rg fv pf)(hl:vs.length=ps.length)
  (hv: ∀(i:Nat) (v:Value) (c:P),vs[i]?=some v->ps[i]?=some c->aH F w G s.rg v c):
  ∃kW cs,fv= .func (.func kW) #[] ⟨cs⟩/\kH Q kW ⟨vs++cs⟩ w (λv w'=> ∃F' G',aG Q T F' G' w' (a.put dst v) s'/\Ext (Own G s.rg) (Own G' s'.rg) F F' w w'):=by
 unfold mS at hs;split at hs
 next kW cQ=>
  cases hf with
  |fn _ cs _ GQ l7=>
   refine⟨kW,cs,rfl,?_⟩;split at hs
   ·cases hs
   rename_i s1 qs GN;simp only at hs;split at hs
   ·rename_i kY;split at hs
    ·cases hs
    rename_i R0 gV;split at hs
    ·cases hs
    rename_i p R1 mB;split at hs
    ·rename_i hmd;have hmd:=(zab _ _▸hmd:_/\_).1;split at hs
     ·cases hs
     rename_i R2 ko;split at hs
     ·cases hs
     rename_i R3 gl;have cW: ∀(i:Nat) (v:Value) (c:P),(vs++cs)[i]?=some v->(ps++cQ)[i]?=some c->aH F w G s.rg v c:=λi v c h1 h2=>by
      by_cases hi:i<vs.length
      ·rw[zaR hi] at h1;rw[zaR (by omega)] at h2;exact hv i v c h1 h2
      rw[za2 (by omega)] at h1 h2;rw[<-hl] at h2;exact l7 _ v c h1 h2
     obtain⟨F1,a1,a2,a3,a4,a5,a6⟩:=wx (ps++cQ) s F s1 qs (vs++cs) h GN (by simp[hl,GQ]) cW;obtain⟨b1,b2,b3⟩:=a1.heap.sub gV kY;simp only[zbr] at b1;have hq:=jH kW _ R0 p R1 mB F1 _ w (vs++cs) b1 (by rw[jG];exact a5) (λi v c h1 h2=>by rw[jF] at h2;simp only[zax] at h2;obtain⟨q,hq,rfl⟩:=h2;exact oJ b2 (a6 i v q h1 hq));refine hq.mono λv w' ⟨F2,G2,c1,c2,c3⟩=> ?_;obtain⟨G3,d1,d2,d3⟩:=su a1 kY hmd gV c1 c3 (eT R1 _) ko gl;obtain⟨e1,e2⟩:=cC d1 hs (cA.of (oJ d3 c2));refine⟨F2,G3,e1,?_⟩;rw[e2];exact a2.trans d2
    cases hs
   cases hs
 cases hs
end
end Pi
