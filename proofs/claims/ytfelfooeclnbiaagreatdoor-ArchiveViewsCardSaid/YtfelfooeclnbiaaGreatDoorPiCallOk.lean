/- The text PiCallOk. -/
import Derived.Test.YtfelfooeclnbiaaGreatDoorPiRen
namespace Pi
open Go
def jb(Q:Program)(f:FuncId)(args:Array Value)(w:World)(R:Value->World->Prop):Prop:=
 ((callFunc f args).run Q w= .ok (.enter f args) w/\Calls Q f args w (λe w'=> ∃v,e= .returned v/\R v w'))\/ ∃v w',(callFunc f args).run Q w= .ok (.value v) w'/\R v w'
def eG(Q:Program)(w0:World)(cf:CF):Prop:=
 ∀kF ps R p R1,cf kF ps R=some (p,R1)-> ∀(F:Nat->Prop) (G:Nat->Value) (w:World) (vs:List Value),eZ Q ⟨G,w0,0,false⟩ F G w R->vs.length=ps.length->
  (∀(i:Nat) (v:Value) (c:P),vs[i]?=some v->ps[i]?=some c->aF F w G R v c)->
  jb Q kF ⟨vs⟩ w (λv w'=> ∃F' G',eZ Q ⟨G,w0,0,false⟩ F' G' w' R1/\aF F' w' G' R1 v p/\Ext (Own G R) (Own G' R1) F F' w w')
def jc(R1:List (Nat×En))(σ:Nat->Nat->Option (Nat×Nat))(i:Nat):Obj:=
 match w6 R1 i with |some (_,e1)=>fT σ e1.obj |none=> .gone
theorem xw(R1:List (Nat×En))(σ:Nat->Nat->Option (Nat×Nat)): ∀(ns:List Nat) (i0:Nat) (R R2:List (Nat×En)),gm R1 σ i0 ns R=some R2->ns.Nodup->
  ∀m,(∀i,posOf ns m i0=some i-> ∃e,lk R m=some e/\lk R2 m=some ⟨e.aR,e.tag,jc R1 σ i⟩)/\(posOf ns m i0=none->lk R2 m=lk R m)
 | [],i0,R,R2,h,_,m=>by grind [gm,posOf]
 |n::ns,i0,R,R2,h,ov,m=>by
  simp only[gm] at h;split at h
  ·cases h
  rename_i e he;obtain⟨hn,ov⟩:=za8.1 ov;obtain⟨h1,h2⟩:=xw R1 σ ns (i0+1) _ R2 h ov m;simp only[posOf];by_cases hm:n=m
  ·subst hm;have hp:posOf ns n (i0+1)=none:=by
    cases hp:posOf ns n (i0+1) with
    |none=>rfl
    |some j=>exact absurd (zaz (gA ns n _ j hp).2) hn
   refine⟨λi hi=> ?_,λhi=>by simp at hi⟩;simp at hi;subst hi;refine⟨e,he,?_⟩;rw[h2 hp,bp];rfl
  simp_all [bT]
def fj(R:List (Nat×En))(m:Nat):Nat:=match lk R m with |none=>0 |some e0=>e0.aR+1
theorem uk(R1:List (Nat×En))(σ:Nat->Nat->Option (Nat×Nat)): ∀(ms:List Nat) (m0:Nat) (R R3:List (Nat×En)),kD R1 σ m0 ms R=some R3->
  ∀m,(∀n,(m0<=m/\ms[m-m0]?=some n)-> ∃e1,lk R1 n=some e1/\lk R3 m=some ⟨fj R m,none,fT σ e1.obj⟩/\ ∀e0,lk R m=some e0->e0.obj= .gone)/\
   ((m<m0\/m0+ms.length<=m)->lk R3 m=lk R m)
 | [],m0,R,R3,h,m=>by grind [kD]
 |n::ms,m0,R,R3,h,m=>by
  simp only[kD] at h;split at h
  ·cases h
  rename_i e1 qK;have key: ∃aR,kD R1 σ (m0+1) ms (ins m0 ⟨aR,none,fT σ e1.obj⟩ R)=some R3/\aR=fj R m0/\ ∀e0,lk R m0=some e0->e0.obj= .gone:=by grind [fj]
  obtain⟨aR,h,pr,qiP⟩:=key;obtain⟨h1,h2⟩:=uk R1 σ ms (m0+1) _ R3 h m;grind [bp,fj,bT]
theorem rk{R1:List (Nat×En)}{i m:Nat}{e:En}(h:w6 R1 i=some (m,e)):lk R1 m=some e/\e.tag=some i:=by
 unfold w6 at h;split at h
 ·split at h
  next e' he=>
   split at h
   ·simp_all
   cases h
  cases h
 cases h
section
variable{Q:Program}{T:Tg}{F:Nat->Prop}{G:Nat->Value}{w:World}{a:Act}{s:S}
theorem AU{t:TypeId}{p q:P}{s':S}{v:Value}(h:aB Q T F G w a s)(h1:kC Q s t p=some (s',q))(hvp:aF F w G s.rg v p):
  ∃F',aB Q T F' G w a s'/\Ext (Own G s.rg) (Own G s'.rg) F F' w w/\Names G G s.rg s'.rg/\(∀b,F b->F' b)/\aF F' w G s'.rg v q:=by
 unfold kC at h1;split at h1
 ·split at h1
  ·split at h1
   next s3 x hx=>obtain⟨rfl,rfl⟩:=h1;obtain⟨F',f1,f2,f3,f4,f5⟩:=wF h hx hvp;exact⟨F',f1,f2,f3,f4,.d f5⟩
   cases h1
  grind [Ext.refl,Names.refl]
 ·split at h1
  ·rw[D.force_eq] at h1;obtain⟨rfl,rfl⟩:=h1;cases hvp with
   |d hd=>exact⟨F,h,Ext.refl _ _ _,Names.refl _ _,λ_ h=>h,.d (PB hd)⟩
  grind [Ext.refl,Names.refl]
 grind [Ext.refl,Names.refl]
theorem xx: ∀(ps:List P) (ts:List TypeId) (s:S) (F:Nat->Prop) (s':S) (qs:List P) (vs:List Value),aB Q T F G w a s->ep Q s ts ps=some (s',qs)->vs.length=ps.length->
  (∀(i:Nat) (v:Value) (c:P),vs[i]?=some v->ps[i]?=some c->aF F w G s.rg v c)->
  ∃F',aB Q T F' G w a s'/\Ext (Own G s.rg) (Own G s'.rg) F F' w w/\Names G G s.rg s'.rg/\(∀b,F b->F' b)/\vs.length=qs.length/\ ∀(i:Nat) (v:Value) (c:P),vs[i]?=some v->qs[i]?=some c->aF F' w G s'.rg v c
 | [],ts,s,F,s',xs,vs,h,hs,hl,hv=>by grind [ep,Ext.refl,Names.refl]
 |p::ps,ts,s,F,s',xs,vs,h,hs,hl,hv=>by
  cases vs with
  |nil=>simp at hl
  |cons v vs=>
   simp only[ep] at hs;split at hs
   ·cases hs
   rename_i s1 q h1;split at hs
   ·rename_i s2 qs2 h2;simp at hs;obtain⟨rfl,rfl⟩:=hs;have one: ∃F',aB Q T F' G w a s1/\Ext (Own G s.rg) (Own G s1.rg) F F' w w/\Names G G s.rg s1.rg/\(∀b,F b->F' b)/\aF F' w G s1.rg v q:=by
     have hvp:=hv 0 v p (by simp) (by simp);unfold o8 at h1;split at h1
     ·split at h1
      next s3 x hx=>obtain⟨rfl,rfl⟩:=h1;obtain⟨F',f1,f2,f3,f4,f5⟩:=wE h hx hvp;exact⟨F',f1,f2,f3,f4,.d f5⟩
      cases h1
     ·split at h1
      next s3 x hx=>obtain⟨rfl,rfl⟩:=h1;obtain⟨F',f1,f2,f3,f4,f5⟩:=wE h hx hvp;exact⟨F',f1,f2,f3,f4,.d f5⟩
      cases h1
     grind [AU]
    obtain⟨F1,a1,a2,a3,a4,a5⟩:=one;obtain⟨F2,b1,b2,b3,b4,b5,b6⟩:=xx ps ts.tail s1 F1 s2 qs2 vs a1 h2 (by grind)
     (λi u c hu hc=>(hv (i+1) u c (by grind) (by grind)).mono a4 (λ_ _=>rfl) a3)
    refine⟨F2,b1,a2.trans b2,a3.trans b3,λb hb=>b4 b (a4 b hb),by grind,λi u c hu hc=> ?_⟩;cases i with
    |zero=>simp at hu hc;subst hu;subst hc;exact a5.mono b4 (λ_ _=>rfl) b3
    |succ i=>grind
   cases hs
theorem vq{f:FuncId}(ps:List P)(s:S)(F:Nat->Prop)(s':S)(qs:List P)(vs:List Value)(h:aB Q T F G w a s)(hs:cL Q s f ps=some (s',qs))(hl:vs.length=ps.length)
  (hv: ∀(i:Nat) (v:Value) (c:P),vs[i]?=some v->ps[i]?=some c->aF F w G s.rg v c):
  ∃F',aB Q T F' G w a s'/\Ext (Own G s.rg) (Own G s'.rg) F F' w w/\Names G G s.rg s'.rg/\(∀b,F b->F' b)/\vs.length=qs.length/\ ∀(i:Nat) (v:Value) (c:P),vs[i]?=some v->qs[i]?=some c->aF F' w G s'.rg v c:=by
 grind [cL,Ext.refl,Names.refl,xx]
theorem rl(h:aB Q T F G w a s){ns ms:List Nat}{base:Nat}(ED:dJ ns=true)(hms:dJ ms=true){R0 R1 R2 R3:List (Nat×En)}(jJ:sub s.rg (toPos s.rg ns) true 0 ns=some R0)
  {F2:Nat->Prop} {G2:Nat->Value} {w':World} (PQ:eZ Q ⟨λi=>G (ns.getD i 0),T.w0,0,false⟩ F2 G2 w' R1) (mD:Ext (Own (λi=>G (ns.getD i 0)) R0) (Own G2 R1) F F2 w w')
  (qhL: ∀m∈ms,∃e,lk R1 m=some e/\e.tag=none)
  (jT:gm R1 (fc R1 s.rg ns ms base) 0 ns s.rg=some R2) (eS:kD R1 (fc R1 s.rg ns ms base) base ms R2=some R3):
  ∃G3,aB Q T F2 G3 w' a {s with rg:=R3}/\Ext (Own G s.rg) (Own G3 R3) F F2 w w'/\EJ G2 G3 R1 R3 (fc R1 s.rg ns ms base):=by
 have Wl:=dq ns ED;have qfo:=dq ms hms;obtain⟨s1,s2,s3⟩:=h.heap.sub jJ ED;simp only[zbg] at s1
 let σ:=fc R1 s.rg ns ms base
 have Ig: ∀m,(∃n,base<=m/\ms[m-base]?=some n)\/(m<base\/base+ms.length<=m):=λm=>by
  by_cases h1:base<=m/\m-base<ms.length
  ·exact .inl ⟨_,h1.1,zac h1.2⟩
  exact .inr (by omega)
 let G3:Nat->Value:=λm=>if base<=m/\m-base<ms.length then G2 (ms.getD (m-base) 0) else G m
 have PS: ∀m n,base<=m->ms[m-base]?=some n->G3 m=G2 n:=λm n h1 h2=>by have:=(zae.1 h2).1;simp only[G3,zaq (show base<=m/\m-base<ms.length from⟨h1,this⟩)];simp[zab,h2]
 have Ih: ∀m,(m<base\/base+ms.length<=m)->G3 m=G m:=λm h1=>by simp only[G3,zap (show ¬(base<=m/\m-base<ms.length) by omega)]
 have hb:=λm=>xw R1 σ ns 0 s.rg R2 jT Wl m;have hn:=λm=>uk R1 σ ms base R2 R3 eS m;have Kq: ∀m,fj R2 m=fj s.rg m:=λm=>by
  cases hp:posOf ns m 0 with
  |none=>simp[fj,(hb m).2 hp]
  |some i=>obtain⟨e,h1,h2⟩:=(hb m).1 i hp;simp[fj,h1,h2]
 have hR3: ∀m e',lk R3 m=some e'->
   (∃n e1,base<=m/\ms[m-base]?=some n/\lk R1 n=some e1/\e'=⟨fj s.rg m,none,fT σ e1.obj⟩/\G3 m=G2 n)\/
   (∃i e,ns[i]?=some m/\lk s.rg m=some e/\e'=⟨e.aR,e.tag,jc R1 σ i⟩/\G3 m=G m)\/
   (m∉ns/\lk s.rg m=some e'/\G3 m=G m):=λm e' cx=>by
  rcases Ig m with⟨n,h1,h2⟩|h1
  ·obtain⟨e1,g1,g2,g3⟩:=(hn m).1 n ⟨h1,h2⟩;rw[cx] at g2;cases g2;exact .inl ⟨n,e1,h1,h2,g1,by rw[Kq],PS m n h1 h2⟩
  rw[(hn m).2 h1] at cx;cases hp:posOf ns m 0 with
  |none=>rw[(hb m).2 hp] at cx;exact .inr (.inr ⟨rj _ _ _ hp,cx,Ih m h1⟩)
  |some i=>obtain⟨e,g1,g2⟩:=(hb m).1 i hp;rw[cx] at g2;cases g2;obtain⟨_,hi⟩:=gA ns m 0 i hp;exact .inr (.inl ⟨i,e,by simpa using hi,g1,rfl,Ih m h1⟩)
 have AT:EJ G2 G3 R1 R3 σ:=by
  intro n v n' v' hσ;simp only[σ,fc] at hσ;split at hσ
  ·cases hσ
  rename_i e1 qK;split at hσ
  next hv=>
   have hv:e1.aR=v:=by simpa using hv
   split at hσ
   ·rename_i i V9;split at hσ
    ·rename_i m n1 ex hm htn;split at hσ
     ·rename_i Vs;have Vs:n1=n:=by simpa using Vs
      subst Vs;split at hσ
      ·rename_i e0 Kn;simp at hσ;obtain⟨rfl,rfl⟩:=hσ;have hp:=fh Wl hm;obtain⟨e,g1,g2⟩:=(hb m).1 i hp;rw[Kn] at g1;cases g1;obtain⟨qfp,qiV⟩:=rk htn;rw[qK] at qfp;cases qfp;have hbo:jc R1 σ i=fT σ e1.obj:=by simp[jc,htn]
       rcases Ig m with⟨nn,h1,h2⟩|h1
       ·obtain⟨e2,k1,k2,k3⟩:=(hn m).1 nn ⟨h1,h2⟩;refine⟨_,k2,?_,λhvv _=> ?_⟩
        ·simp[fj,g2]
        simp[fj,g2] at hvv
       have hl3:=(hn m).2 h1;rw[g2] at hl3;refine⟨_,hl3,zai _,λ_ gX=>⟨⟨e1,qK,hv,?_⟩,?_⟩⟩
       ·rw[hbo,lI] at gX;exact gX
       rw[Ih m h1];rw[hbo,lI] at gX;have:=PQ.tag n1 e1 i qK V9 gX;rw[this];simp[zab,hm]
      cases hσ
     cases hσ
    cases hσ
   rename_i V9;split at hσ
   ·rename_i j hj;obtain⟨_,AQ⟩:=gA ms n 0 j hj;simp at AQ;have hm:ms[base+j-base]?=some n:=by rw[show base+j-base=j by omega];exact AQ
    obtain⟨e2,k1,k2,k3⟩:=(hn (base+j)).1 n ⟨by omega,hm⟩;rw[qK] at k1;cases k1;have hnv:n'=base+j/\v'=fj s.rg (base+j):=by
     split at hσ
     next hl=>simp at hσ;obtain⟨rfl,rfl⟩:=hσ;simp[fj,hl]
     rename_i e0 hl;simp at hσ;obtain⟨rfl,rfl⟩:=hσ;simp[fj,hl]
    obtain⟨rfl,rfl⟩:=hnv;refine⟨_,k2,by rw[Kq];exact zai _,λ_ gX=>⟨⟨e1,qK,hv,by rw[lI] at gX;exact gX⟩,PS _ n (by omega) hm⟩⟩
   cases hσ
  cases hσ
 have xy: ∀b,Own (λi=>G (ns.getD i 0)) R0 b-> ∃n e,n∈ns/\lk s.rg n=some e/\bm (G n) e.obj=some b:=s3;have hFF: ∀b,F b->w'.heap[b]?=w.heap[b]?:=λb hb=>mD.keep b (h.ja b hb) (λho=>by obtain⟨n,e,_,he,cV⟩:=xy b ho;exact h.mg n e b he cV hb);have pn: ∀m e b,m∉ns->lk s.rg m=some e->bm (G m) e.obj=some b-> ¬Own (λi=>G (ns.getD i 0)) R0 b:=λm e b hm he hb ho=>by obtain⟨n,e2,hn2,Vt,dM⟩:=xy b ho;exact hm (by rw[h.own m n e e2 b he Vt hb dM];exact hn2)
 have PT:Names G G3 s.rg R3:=by
  constructor
  ·intro m e he;rcases Ig m with⟨n,h1,h2⟩|h1
   ·obtain⟨e1,g1,g2,g3⟩:=(hn m).1 n ⟨h1,h2⟩;refine⟨_,g2,by rw[Kq];simp[fj,he],λhv _=> ?_⟩;rw[Kq] at hv;simp[fj,he] at hv
   cases hp:posOf ns m 0 with
   |none=>refine⟨e,by rw[(hn m).2 h1,(hb m).2 hp];exact he,zai _,λ_ h=>h⟩
   |some i=>obtain⟨e0,g1,g2⟩:=(hb m).1 i hp;rw[he] at g1;cases g1;obtain⟨_,hi⟩:=gA ns m 0 i hp;simp at hi;obtain⟨e2,k1,k2,_⟩:=wG s.rg _ true ns 0 R0 jJ i m hi;rw[he] at k1;cases k1;exact⟨⟨e.aR,e.tag,jc R1 σ i⟩,by rw[(hn m).2 h1];exact g2,zai _,λ_ _=>k2⟩
  intro m e e' he cx hv hl;rcases hR3 m e' cx with⟨n,e1,h1,h2,h3,rfl,h5⟩| ⟨i,e0,h1,h2,rfl,h4⟩| ⟨h1,h2,h3⟩
  ·simp[fj,he] at hv
  ·exact h4
  exact h3
 have PU: ∀i o,jc R1 σ i=o->o.live=true-> ∃m1 e1,w6 R1 i=some (m1,e1)/\o=fT σ e1.obj:=λi o ho hl=>by
  unfold jc at ho;split at ho
  next m1 e1 ht=>exact⟨m1,e1,ht,ho.symm⟩
  subst ho;simp[Obj.live] at hl
 have EK: ∀(g:Value) (o:Obj) b,bm g o=some b->o.live=true:=λg o b hb=>by cases o<;>simp_all [bm,Obj.live]
 have Co: ∀m e' b,lk R3 m=some e'->bm (G3 m) e'.obj=some b->
   (∃n e1,lk R1 n=some e1/\bm (G2 n) e1.obj=some b/\((e1.tag=none/\base<=m/\ms[m-base]?=some n)\/ ∃i,e1.tag=some i/\ns[i]?=some m))\/
   (m∉ns/\lk s.rg m=some e'/\bm (G m) e'.obj=some b):=λm e' b cx cV=>by
  rcases hR3 m e' cx with⟨n,e1,h1,h2,h3,rfl,h5⟩| ⟨i,e0,h1,h2,rfl,h4⟩| ⟨h1,h2,h3⟩
  ·simp only[py] at cV;rw[h5] at cV;obtain⟨e2,k1,k2⟩:=qhL n (zaz h2);rw[h3] at k1;cases k1;exact .inl ⟨n,e1,h3,cV,.inl ⟨k2,h1,h2⟩⟩
  ·obtain⟨m1,e1,k1,k2⟩:=PU i _ rfl (EK _ _ _ cV);simp only at cV;rw[k2,py,h4] at cV;obtain⟨k3,k4⟩:=rk k1;refine .inl ⟨m1,e1,k3,?_,.inr ⟨i,k4,h1⟩⟩;have:=PQ.tag m1 e1 i k3 k4 (EK _ _ _ cV);rw[this];simpa [zab,h1] using cV
  rw[h3] at cV;exact .inr ⟨h1,h2,cV⟩
 have hx3:Ext (Own G s.rg) (Own G3 R3) F F2 w w':=by
  refine⟨mD.kK,?_,?_,?_,mD.size,mD.os,mD.tape,mD.output⟩
  ·intro b cV;rcases mD.mz b cV with h1 |h1 |h1
   ·exact .inl h1
   ·obtain⟨n,e,_,he,dM⟩:=xy b h1;exact .inr (.inl ⟨n,e,he,dM⟩)
   exact .inr (.inr h1)
  ·rintro b ⟨m,e',cx,cV⟩;rcases Co m e' b cx cV with⟨n1,f1,g1,g2,_⟩| ⟨g1,g2,g3⟩
   ·rcases mD.lv b ⟨n1,f1,g1,g2⟩ with h1 |h1
    ·obtain⟨n,e,_,he,dM⟩:=xy b h1;exact .inl ⟨n,e,he,dM⟩
    exact .inr h1
   exact .inl ⟨m,e',g2,g3⟩
  intro b cV bk;exact mD.keep b cV (λho=>by obtain⟨n,e,_,he,dM⟩:=xy b ho;exact bk ⟨n,e,he,dM⟩)
 refine⟨G3,⟨h.r0.go hx3,h.size,λt p hp=>(h.tm t p hp).mono mD.kK hFF PT,?_,?_,?_,PQ.ja,?_,λb hb=>⟨mD.kK b (h.z b hb).1,(hFF b (h.z b hb).1).trans (h.z b hb).2⟩,PQ.dr,zaE h.sz mD.size⟩,hx3,AT⟩
 ·intro m e' cx;rcases hR3 m e' cx with⟨n,e1,h1,h2,h3,rfl,h5⟩| ⟨i,e0,h1,h2,rfl,h4⟩| ⟨h1,h2,h3⟩
  ·exact xv AT h5 (PQ.rg n e1 h3)
  ·cases Wm:(jc R1 σ i).live with
   |false=>
    have:jc R1 σ i= .gone:=by cases hbo:jc R1 σ i<;>simp_all [Obj.live]
    simp only[this];trivial
   |true=>obtain⟨m1,e1,k1,k2⟩:=PU i _ rfl Wm;obtain⟨k3,k4⟩:=rk k1;simp only[k2];refine xv AT ?_ (PQ.rg m1 e1 k3);rw[k2,lI] at Wm;rw[h4,PQ.tag m1 e1 i k3 k4 Wm];simp[zab,h1]
  exact(h.rg m e' h2).mono mD.kK hFF PT h3 (λb cV=>mD.keep b ((h.rg m e' h2).lt cV) (pn m e' b h1 h2 cV))
 ·intro m1 m2 e1 e2 b qK Vt ji dM;rcases Co m1 e1 b qK ji with⟨n1,f1,g1,g2,g3⟩| ⟨g1,g2,g3⟩<;>rcases Co m2 e2 b Vt dM with⟨n2,f2,k1,k2,k3⟩| ⟨k1,k2,k3⟩
  ·have:=PQ.own n1 n2 f1 f2 b g1 k1 g2 k2;subst this;rw[g1] at k1;cases k1;rcases g3 with⟨t1,p1,p2⟩| ⟨i1,t1,p1⟩<;>rcases k3 with⟨t2,q1,q2⟩| ⟨i2,t2,q1⟩
   ·have a1:=fh qfo p2;have a2:=fh qfo q2;rw[a1] at a2;have:=zb9 a2;omega
   ·rw[t1] at t2;cases t2
   ·rw[t1] at t2;cases t2
   rw[t1] at t2;cases t2;rw[p1] at q1;exact zb9 q1
  ·exfalso;rcases mD.lv b ⟨n1,f1,g1,g2⟩ with h1 |h1
   ·exact pn m2 e2 b k1 k2 k3 h1
   have:=(h.rg m2 e2 k2).lt k3;omega
  ·exfalso;rcases mD.lv b ⟨n2,f2,k1,k2⟩ with h1 |h1
   ·exact pn m1 e1 b g1 g2 g3 h1
   have:=(h.rg m1 e1 g2).lt g3;omega
  exact h.own m1 m2 e1 e2 b g2 k2 g3 k3
 ·intro m e' b cx cV hf;rcases Co m e' b cx cV with⟨n1,f1,g1,g2,_⟩| ⟨g1,g2,g3⟩
  ·exact PQ.mg n1 f1 b g1 g2 hf
  rcases mD.mz b hf with h1 |h1 |h1
  ·exact h.mg m e' b g2 g3 h1
  ·exact pn m e' b g1 g2 g3 h1
  have:=(h.rg m e' g2).lt g3;omega
 intro m e' i cx hi hl;rcases hR3 m e' cx with⟨n,e1,h1,h2,h3,rfl,h5⟩| ⟨i',e0,h1,h2,rfl,h4⟩| ⟨h1,h2,h3⟩
 ·simp at hi
 ·rw[h4];obtain⟨e2,k1,k2,_⟩:=wG s.rg _ true ns 0 R0 jJ i' m h1;rw[h2] at k1;cases k1;exact h.tag m e0 i h2 hi k2
 rw[h3];exact h.tag m e' i h2 hi hl
theorem eK(R1:List (Nat×En)): ∀(l:List Nat) (m:Nat),m∈cX R1 l-> ∃e,lk R1 m=some e/\e.tag=none
 | [],m,h=>by simp[cX] at h
 |n::r,m,h=>by
  simp only[cX] at h;split at h
  next e he=>
   split at h
   ·rename_i ht;rcases zas.1 h with rfl |h
    ·exact⟨e,he,ht⟩
    exact eK R1 r m h
   exact eK R1 r m h
  exact eK R1 r m h
theorem jb.mono{f:FuncId}{args:Array Value}{w:World}{R R':Value->World->Prop}(h:jb Q f args w R)(hr: ∀v w',R v w'->R' v w'):jb Q f args w R':=by
 rcases h with⟨h1,h2⟩| ⟨v,w',h1,h2⟩
 ·exact .inl ⟨h1,h2.mono λe w' ⟨v,he,hv⟩=>⟨v,he,hr v w' hv⟩⟩
 exact .inr ⟨v,w',h1,hr v w' h2⟩
theorem Ms{cf:CF}(jl:eG Q T.w0 cf)(h:aB Q T F G w a s){dst:Option Nat}{pf:P}{ps:List P}{s':S}(hs:lX Q cf s dst pf ps=some s'){fv:Value}{vs:List Value}(hf:aF F w G s.rg fv pf)(hl:vs.length=ps.length)
  (hv: ∀(i:Nat) (v:Value) (c:P),vs[i]?=some v->ps[i]?=some c->aF F w G s.rg v c):
  ∃kF cs,fv= .func (.func kF) #[] ⟨cs⟩/\jb Q kF ⟨vs++cs⟩ w (λv w'=> ∃F' G',aB Q T F' G' w' (a.put dst v) s'/\Ext (Own G s.rg) (Own G' s'.rg) F F' w w'):=by
 unfold lX at hs;split at hs
 next kF cF=>
  cases hf with
  |fn _ cs _ H9 ln=>
   refine⟨kF,cs,rfl,?_⟩;split at hs
   ·cases hs
   rename_i s1 qs DP;simp only at hs;split at hs
   ·rename_i ov;split at hs
    ·cases hs
    rename_i R0 jJ;split at hs
    ·cases hs
    rename_i p R1 iq;split at hs
    ·rename_i Wn;have Wn:=(zad _ _▸Wn:_/\_).1;split at hs
     ·cases hs
     rename_i R2 jT;split at hs
     ·cases hs
     rename_i R3 eS;have cN: ∀(i:Nat) (v:Value) (c:P),(vs++cs)[i]?=some v->(ps++cF)[i]?=some c->aF F w G s.rg v c:=λi v c h1 h2=>by
      by_cases hi:i<vs.length
      ·rw[zaQ hi] at h1;rw[zaQ (by omega)] at h2;exact hv i v c h1 h2
      rw[zaS (by omega)] at h1 h2;rw[<-hl] at h2;exact ln _ v c h1 h2
     obtain⟨F1,a1,a2,a3,a4,a5,a6⟩:=vq (ps++cF) s F s1 qs (vs++cs) h DP (by simp[hl,H9]) cN;obtain⟨b1,b2,b3⟩:=a1.heap.sub jJ ov;simp only[zbg] at b1;have hq:=jl kF _ R0 p R1 iq F1 _ w (vs++cs) b1 (by rw[jk];exact a5) (λi v c h1 h2=>by rw[jj] at h2;simp only[zav] at h2;obtain⟨q,hq,rfl⟩:=h2;exact nD b2 (a6 i v q h1 hq));refine hq.mono λv w' ⟨F2,G2,c1,c2,c3⟩=> ?_;obtain⟨G3,d1,d2,d3⟩:=rl a1 ov Wn jJ c1 c3 (eK R1 _) jT eS;obtain⟨e1,e2⟩:=cr d1 hs (cy.of (nD d3 c2));refine⟨F2,G3,e1,?_⟩;rw[e2];exact a2.trans d2
    cases hs
   cases hs
 cases hs
end
end Pi
