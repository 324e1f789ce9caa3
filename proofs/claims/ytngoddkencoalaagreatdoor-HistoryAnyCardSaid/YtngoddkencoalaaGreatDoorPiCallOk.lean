/- The text PiCallOk. -/
import Derived.Test.YtngoddkencoalaaGreatDoorPiRen
namespace Pi
open Go
def jD (Q:Program) (f:FuncId) (args:Array Value) (w:World) (R:Value->World->Prop):Prop:=
 ((callFunc f args).run Q w= .ok (.enter f args) w/\Calls Q f args w (fun e w'=> ∃v,e= .returned v/\R v w'))\/ ∃v w',(callFunc f args).run Q w= .ok (.value v) w'/\R v w'
def db (Q:Program) (w0:World) (cf:CF):Prop:=
 ∀ju ps R p R1,cf ju ps R=some (p,R1)-> ∀(F:Nat->Prop) (G:Nat->Value) (w:World) (vs:List Value),fo Q ⟨G,w0,0,false⟩ F G w R->vs.length=ps.length->
  (∀(i:Nat) (v:Value) (c:P),vs[i]?=some v->ps[i]?=some c->aD F w G R v c)->
  jD Q ju ⟨vs⟩ w (fun v w'=> ∃F' G',fo Q ⟨G,w0,0,false⟩ F' G' w' R1/\aD F' w' G' R1 v p/\Ext (Own G R) (Own G' R1) F F' w w')
def iK (R1:List (Nat×En)) (σ:Nat->Nat->Option (Nat×Nat)) (i:Nat):Obj:=
 match vT R1 i with |some (_,e1)=>fC σ e1.obj |none=> .gone
theorem wC (R1:List (Nat×En)) (σ:Nat->Nat->Option (Nat×Nat)): ∀(ns:List Nat) (i0:Nat) (R R2:List (Nat×En)),fT R1 σ i0 ns R=some R2->ns.Nodup->
  ∀m,(∀i,posOf ns m i0=some i-> ∃e,lk R m=some e/\lk R2 m=some ⟨e.aU,e.tag,iK R1 σ i⟩)/\(posOf ns m i0=none->lk R2 m=lk R m)
 | [],i0,R,R2,h,_,m=>by
  simp[fT] at h
  subst h
  exact⟨fun i hi=>by simp[posOf] at hi,fun _=>rfl⟩
 |n::ns,i0,R,R2,h,lx,m=>by
  simp only[fT] at h
  split at h
  ·cases h
  ·rename_i e he
   obtain⟨hn,lx⟩:=List.nodup_cons.1 lx
   obtain⟨h1,h2⟩:=wC R1 σ ns (i0+1) _ R2 h lx m
   simp only[posOf]
   by_cases hm:n=m
   ·subst hm
    have hp:posOf ns n (i0+1)=none:=by
     cases hp:posOf ns n (i0+1) with
     |none=>rfl
     |some j=>exact absurd (List.mem_of_getElem? (fZ ns n _ j hp).2) hn
    refine⟨fun i hi=> ?_,fun hi=>by simp at hi⟩
    simp at hi
    subst hi
    refine⟨e,he,?_⟩
    rw[h2 hp,bA]
    rfl
   ·have hb:Nat.beq n m=false:=by
     cases hb:Nat.beq n m with
     |false=>rfl
     |true=>exact absurd (Nat.eq_of_beq_eq_true hb) hm
    simp only[hb,Bool.false_eq_true,if_false]
    rw[bG _ _ hm] at h1 h2
    exact⟨h1,h2⟩
def eK (R:List (Nat×En)) (m:Nat):Nat:=match lk R m with |none=>0 |some e0=>e0.aU+1
theorem sZ (R1:List (Nat×En)) (σ:Nat->Nat->Option (Nat×Nat)): ∀(ms:List Nat) (m0:Nat) (R R3:List (Nat×En)),jV R1 σ m0 ms R=some R3->
  ∀m,(∀n,(m0<=m/\ms[m-m0]?=some n)-> ∃e1,lk R1 n=some e1/\lk R3 m=some ⟨eK R m,none,fC σ e1.obj⟩/\ ∀e0,lk R m=some e0->e0.obj= .gone)/\
   ((m<m0\/m0+ms.length<=m)->lk R3 m=lk R m)
 | [],m0,R,R3,h,m=>by
  simp[jV] at h
  subst h
  exact⟨fun n hn=>by simp at hn,fun _=>rfl⟩
 |n::ms,m0,R,R3,h,m=>by
  simp only[jV] at h
  split at h
  ·cases h
  ·rename_i e1 yL
   have key: ∃aU,jV R1 σ (m0+1) ms (ins m0 ⟨aU,none,fC σ e1.obj⟩ R)=some R3/\aU=eK R m0/\ ∀e0,lk R m0=some e0->e0.obj= .gone:=by
    split at h
    ·rename_i hl
     exact⟨0,h,by simp[eK,hl],fun e0 Bo=>by rw[hl] at Bo;cases Bo⟩
    ·rename_i e0 hl
     split at h
     ·rename_i hg
      exact⟨e0.aU+1,h,by simp[eK,hl],fun e0' Bo=>by rw[hl] at Bo;cases Bo;exact hg⟩
     ·cases h
   obtain⟨aU,h,Kk,qdh⟩:=key
   obtain⟨h1,h2⟩:=sZ R1 σ ms (m0+1) _ R3 h m
   constructor
   ·intro k ⟨hle,hk⟩
    by_cases hm:m0=m
    ·subst hm
     simp at hk
     subst hk
     refine⟨e1,yL,?_,qdh⟩
     rw[h2 (.inl (by omega)),bA,Kk]
    ·have e:m-m0=(m-(m0+1))+1:=by omega
     rw[e] at hk
     obtain⟨e2,g1,g2,g3⟩:=h1 k ⟨by omega,by simpa using hk⟩
     rw[eK,bG _ _ hm] at g2
     rw[bG _ _ hm] at g3
     exact⟨e2,g1,g2,g3⟩
   ·intro hm
    rw[h2 (by rcases hm with hm |hm;exact .inl (by omega);exact .inr (by simp at hm;omega)),bG]
    intro e
    subst e
    rcases hm with hm |hm
    ·omega
    ·simp at hm;omega
theorem qZ {R1:List (Nat×En)} {i m:Nat} {e:En} (h:vT R1 i=some (m,e)):lk R1 m=some e/\e.tag=some i:=by
 unfold vT at h
 split at h
 ·split at h
  ·rename_i e' he
   split at h
   ·rename_i j hj
    split at h
    ·rename_i gn
     have gn:i=j:=by simpa using gn
     simp at h
     obtain⟨rfl,rfl⟩:=h
     exact⟨he,by rw[hj,gn]⟩
    ·cases h
   ·cases h
  ·cases h
 ·cases h
section
variable {Q:Program} {T:Tg} {F:Nat->Prop} {G:Nat->Value} {w:World} {a:Act} {s:S}
theorem zR {t:TypeId} {p q:P} {s':S} {v:Value} (h:aB Q T F G w a s) (h1:jU Q s t p=some (s',q)) (Tw:aD F w G s.rg v p):
  ∃F',aB Q T F' G w a s'/\Ext (Own G s.rg) (Own G s'.rg) F F' w w/\Names G G s.rg s'.rg/\(∀b,F b->F' b)/\aD F' w G s'.rg v q:=by
 unfold jU at h1
 split at h1
 ·split at h1
  ·split at h1
   ·rename_i s3 x hx
    simp at h1
    obtain⟨rfl,rfl⟩:=h1
    obtain⟨F',f1,f2,f3,f4,f5⟩:=vo h hx Tw
    exact⟨F',f1,f2,f3,f4,.d f5⟩
   ·cases h1
  ·simp at h1
   obtain⟨rfl,rfl⟩:=h1
   exact⟨F,h,Ext.refl _ _ _,Names.refl _ _,fun _ h=>h,Tw⟩
 ·split at h1
  ·rw[D.force_eq] at h1
   simp at h1
   obtain⟨rfl,rfl⟩:=h1
   cases Tw with
   |d hd=>exact⟨F,h,Ext.refl _ _ _,Names.refl _ _,fun _ h=>h,.d (NA hd)⟩
  ·simp at h1
   obtain⟨rfl,rfl⟩:=h1
   exact⟨F,h,Ext.refl _ _ _,Names.refl _ _,fun _ h=>h,Tw⟩
 ·simp at h1
  obtain⟨rfl,rfl⟩:=h1
  exact⟨F,h,Ext.refl _ _ _,Names.refl _ _,fun _ h=>h,Tw⟩
theorem wD: ∀(ps:List P) (ts:List TypeId) (s:S) (F:Nat->Prop) (s':S) (qs:List P) (vs:List Value),aB Q T F G w a s->eo Q s ts ps=some (s',qs)->vs.length=ps.length->
  (∀(i:Nat) (v:Value) (c:P),vs[i]?=some v->ps[i]?=some c->aD F w G s.rg v c)->
  ∃F',aB Q T F' G w a s'/\Ext (Own G s.rg) (Own G s'.rg) F F' w w/\Names G G s.rg s'.rg/\(∀b,F b->F' b)/\vs.length=qs.length/\ ∀(i:Nat) (v:Value) (c:P),vs[i]?=some v->qs[i]?=some c->aD F' w G s'.rg v c
 | [],ts,s,F,s',xs,vs,h,hs,hl,hv=>by
  simp[eo] at hs
  obtain⟨rfl,rfl⟩:=hs
  exact⟨F,h,Ext.refl _ _ _,Names.refl _ _,fun _ h=>h,hl,fun i v c _ hc=>by simp at hc⟩
 |p::ps,ts,s,F,s',xs,vs,h,hs,hl,hv=>by
  cases vs with
  |nil=>simp at hl
  |cons v vs=>
   simp only[eo] at hs
   split at hs
   ·cases hs
   ·rename_i s1 q h1
    split at hs
    ·rename_i s2 YT h2
     simp at hs
     obtain⟨rfl,rfl⟩:=hs
     have one: ∃F',aB Q T F' G w a s1/\Ext (Own G s.rg) (Own G s1.rg) F F' w w/\Names G G s.rg s1.rg/\(∀b,F b->F' b)/\aD F' w G s1.rg v q:=by
      have Tw:=hv 0 v p (by simp) (by simp)
      unfold oi at h1
      split at h1
      ·split at h1
       ·rename_i s3 x hx
        simp at h1
        obtain⟨rfl,rfl⟩:=h1
        obtain⟨F',f1,f2,f3,f4,f5⟩:=vn h hx Tw
        exact⟨F',f1,f2,f3,f4,.d f5⟩
       ·cases h1
      ·split at h1
       ·rename_i s3 x hx
        simp at h1
        obtain⟨rfl,rfl⟩:=h1
        obtain⟨F',f1,f2,f3,f4,f5⟩:=vn h hx Tw
        exact⟨F',f1,f2,f3,f4,.d f5⟩
       ·cases h1
      ·exact zR h h1 Tw
     obtain⟨F1,a1,a2,a3,a4,a5⟩:=one
     obtain⟨F2,b1,b2,b3,b4,b5,b6⟩:=wD ps ts.tail s1 F1 s2 YT vs a1 h2 (by simpa using hl)
      (fun i u c hu hc=>(hv (i+1) u c (by simpa using hu) (by simpa using hc)).mono a4 (fun _ _=>rfl) a3)
     refine⟨F2,b1,a2.trans b2,a3.trans b3,fun b hb=>b4 b (a4 b hb),by simpa using b5,fun i u c hu hc=> ?_⟩
     cases i with
     |zero=>simp at hu hc;subst hu;subst hc;exact a5.mono b4 (fun _ _=>rfl) b3
     |succ i=>exact b6 i u c (by simpa using hu) (by simpa using hc)
    ·cases hs
theorem tW {f:FuncId} (ps:List P) (s:S) (F:Nat->Prop) (s':S) (qs:List P) (vs:List Value) (h:aB Q T F G w a s) (hs:cG Q s f ps=some (s',qs)) (hl:vs.length=ps.length)
  (hv: ∀(i:Nat) (v:Value) (c:P),vs[i]?=some v->ps[i]?=some c->aD F w G s.rg v c):
  ∃F',aB Q T F' G w a s'/\Ext (Own G s.rg) (Own G s'.rg) F F' w w/\Names G G s.rg s'.rg/\(∀b,F b->F' b)/\vs.length=qs.length/\ ∀(i:Nat) (v:Value) (c:P),vs[i]?=some v->qs[i]?=some c->aD F' w G s'.rg v c:=by
 unfold cG at hs
 split at hs
 ·simp only[Option.some.injEq,Prod.mk.injEq] at hs
  obtain⟨rfl,rfl⟩:=hs
  exact⟨F,h,Ext.refl _ _ _,Names.refl _ _,fun _ h=>h,hl,hv⟩
 ·exact wD ps _ s F s' qs vs h hs hl hv
theorem q4 (h:aB Q T F G w a s) {ns ms:List Nat} {base:Nat} (Bn:dN ns=true) (hms:dN ms=true) {R0 R1 R2 R3:List (Nat×En)} (lV:sub s.rg (toPos s.rg ns) true 0 ns=some R0)
  {F2:Nat->Prop} {G2:Nat->Value} {w':World} (NS:fo Q ⟨fun i=>G (ns.getD i 0),T.w0,0,false⟩ F2 G2 w' R1) (lU:Ext (Own (fun i=>G (ns.getD i 0)) R0) (Own G2 R1) F F2 w w')
  (qfZ: ∀m∈ms,∃e,lk R1 m=some e/\e.tag=none)
  (jx:fT R1 (eX R1 s.rg ns ms base) 0 ns s.rg=some R2) (gF:jV R1 (eX R1 s.rg ns ms base) base ms R2=some R3):
  ∃G3,aB Q T F2 G3 w' a {s with rg:=R3}/\Ext (Own G s.rg) (Own G3 R3) F F2 w w'/\DH G2 G3 R1 R3 (eX R1 s.rg ns ms base):=by
 have Tx:=dw ns Bn
 have qdi:=dw ms hms
 obtain⟨s1,s2,s3⟩:=h.heap.sub lV Bn
 simp only[if_true] at s1
 let σ:=eX R1 s.rg ns ms base
 have Gr: ∀m,(∃n,base<=m/\ms[m-base]?=some n)\/(m<base\/base+ms.length<=m):=fun m=>by
  by_cases h1:base<=m/\m-base<ms.length
  ·exact .inl ⟨_,h1.1,List.getElem?_eq_getElem h1.2⟩
  ·exact .inr (by omega)
 let G3:Nat->Value:=fun m=>if base<=m/\m-base<ms.length then G2 (ms.getD (m-base) 0) else G m
 have NT: ∀m n,base<=m->ms[m-base]?=some n->G3 m=G2 n:=fun m n h1 h2=>by
  have:=(List.getElem?_eq_some_iff.1 h2).1
  simp only[G3,if_pos (show base<=m/\m-base<ms.length from⟨h1,this⟩)]
  simp[List.getD_eq_getElem?_getD,h2]
 have Gs: ∀m,(m<base\/base+ms.length<=m)->G3 m=G m:=fun m h1=>by
  simp only[G3,if_neg (show ¬(base<=m/\m-base<ms.length) by omega)]
 have hb:=fun m=>wC R1 σ ns 0 s.rg R2 jx Tx m
 have hn:=fun m=>sZ R1 σ ms base R2 R3 gF m
 have Iu: ∀m,eK R2 m=eK s.rg m:=fun m=>by
  cases hp:posOf ns m 0 with
  |none=>simp[eK,(hb m).2 hp]
  |some i=>
   obtain⟨e,h1,h2⟩:=(hb m).1 i hp
   simp[eK,h1,h2]
 have hR3: ∀m e',lk R3 m=some e'->
   (∃n e1,base<=m/\ms[m-base]?=some n/\lk R1 n=some e1/\e'=⟨eK s.rg m,none,fC σ e1.obj⟩/\G3 m=G2 n)\/
   (∃i e,ns[i]?=some m/\lk s.rg m=some e/\e'=⟨e.aU,e.tag,iK R1 σ i⟩/\G3 m=G m)\/
   (m∉ns/\lk s.rg m=some e'/\G3 m=G m):=fun m e' cF=>by
  rcases Gr m with⟨n,h1,h2⟩|h1
  ·obtain⟨e1,g1,g2,g3⟩:=(hn m).1 n ⟨h1,h2⟩
   rw[cF] at g2
   cases g2
   exact .inl ⟨n,e1,h1,h2,g1,by rw[Iu],NT m n h1 h2⟩
  ·rw[(hn m).2 h1] at cF
   cases hp:posOf ns m 0 with
   |none=>rw[(hb m).2 hp] at cF;exact .inr (.inr ⟨qY _ _ _ hp,cF,Gs m h1⟩)
   |some i=>
    obtain⟨e,g1,g2⟩:=(hb m).1 i hp
    rw[cF] at g2
    cases g2
    obtain⟨_,hi⟩:=fZ ns m 0 i hp
    exact .inr (.inl ⟨i,e,by simpa using hi,g1,rfl,Gs m h1⟩)
 have zQ:DH G2 G3 R1 R3 σ:=by
  intro n v n' v' hσ
  simp only[σ,eX] at hσ
  split at hσ
  ·cases hσ
  ·rename_i e1 yL
   split at hσ
   ·rename_i hv
    have hv:e1.aU=v:=by simpa using hv
    split at hσ
    ·rename_i i Tj
     split at hσ
     ·rename_i m n1 ex hm htn
      split at hσ
      ·rename_i Fw
       have Fw:n1=n:=by simpa using Fw
       subst Fw
       split at hσ
       ·rename_i e0 Bo
        simp at hσ
        obtain⟨rfl,rfl⟩:=hσ
        have hp:=fa Tx hm
        obtain⟨e,g1,g2⟩:=(hb m).1 i hp
        rw[Bo] at g1
        cases g1
        obtain⟨qdj,qhg⟩:=qZ htn
        rw[yL] at qdj
        cases qdj
        have hbo:iK R1 σ i=fC σ e1.obj:=by simp[iK,htn]
        rcases Gr m with⟨nn,h1,h2⟩|h1
        ·obtain⟨e2,k1,k2,k3⟩:=(hn m).1 nn ⟨h1,h2⟩
         refine⟨_,k2,?_,fun hvv _=> ?_⟩
         ·simp[eK,g2]
         ·simp[eK,g2] at hvv
        ·have hl3:=(hn m).2 h1
         rw[g2] at hl3
         refine⟨_,hl3,Nat.le_refl _,fun _ gG=>⟨⟨e1,yL,hv,?_⟩,?_⟩⟩
         ·rw[hbo,k8] at gG;exact gG
         ·rw[Gs m h1]
          rw[hbo,k8] at gG
          have:=NS.tag n1 e1 i yL Tj gG
          rw[this]
          simp[List.getD_eq_getElem?_getD,hm]
       ·cases hσ
      ·cases hσ
     ·cases hσ
    ·rename_i Tj
     split at hσ
     ·rename_i j hj
      obtain⟨_,C2⟩:=fZ ms n 0 j hj
      simp at C2
      have hm:ms[base+j-base]?=some n:=by rw[show base+j-base=j by omega];exact C2
      obtain⟨e2,k1,k2,k3⟩:=(hn (base+j)).1 n ⟨by omega,hm⟩
      rw[yL] at k1
      cases k1
      have hnv:n'=base+j/\v'=eK s.rg (base+j):=by
       split at hσ
       ·rename_i hl;simp at hσ;obtain⟨rfl,rfl⟩:=hσ;simp[eK,hl]
       ·rename_i e0 hl;simp at hσ;obtain⟨rfl,rfl⟩:=hσ;simp[eK,hl]
      obtain⟨rfl,rfl⟩:=hnv
      refine⟨_,k2,by rw[Iu];exact Nat.le_refl _,fun _ gG=>⟨⟨e1,yL,hv,by rw[k8] at gG;exact gG⟩,NT _ n (by omega) hm⟩⟩
     ·cases hσ
   ·cases hσ
 have wE: ∀b,Own (fun i=>G (ns.getD i 0)) R0 b-> ∃n e,n∈ns/\lk s.rg n=some e/\bu (G n) e.obj=some b:=s3
 have YQ: ∀b,F b->w'.heap[b]?=w.heap[b]?:=fun b hb=>lU.keep b (h.iR b hb) (fun ho=>by
  obtain⟨n,e,_,he,cU⟩:=wE b ho
  exact h.lr n e b he cU hb)
 have oB: ∀m e b,m∉ns->lk s.rg m=some e->bu (G m) e.obj=some b-> ¬Own (fun i=>G (ns.getD i 0)) R0 b:=fun m e b hm he hb ho=>by
  obtain⟨n,e2,J5,Sj,cu⟩:=wE b ho
  exact hm (by rw[h.own m n e e2 b he Sj hb cu];exact J5)
 have NU:Names G G3 s.rg R3:=by
  constructor
  ·intro m e he
   rcases Gr m with⟨n,h1,h2⟩|h1
   ·obtain⟨e1,g1,g2,g3⟩:=(hn m).1 n ⟨h1,h2⟩
    refine⟨_,g2,by rw[Iu];simp[eK,he],fun hv _=> ?_⟩
    rw[Iu] at hv
    simp[eK,he] at hv
   ·cases hp:posOf ns m 0 with
    |none=>
     refine⟨e,by rw[(hn m).2 h1,(hb m).2 hp];exact he,Nat.le_refl _,fun _ h=>h⟩
    |some i=>
     obtain⟨e0,g1,g2⟩:=(hb m).1 i hp
     rw[he] at g1
     cases g1
     obtain⟨_,hi⟩:=fZ ns m 0 i hp
     simp at hi
     obtain⟨e2,k1,k2,_⟩:=vp s.rg _ true ns 0 R0 lV i m hi
     rw[he] at k1
     cases k1
     exact⟨⟨e.aU,e.tag,iK R1 σ i⟩,by rw[(hn m).2 h1];exact g2,Nat.le_refl _,fun _ _=>k2⟩
  ·intro m e e' he cF hv hl
   rcases hR3 m e' cF with⟨n,e1,h1,h2,h3,rfl,h5⟩| ⟨i,e0,h1,h2,rfl,h4⟩| ⟨h1,h2,h3⟩
   ·simp[eK,he] at hv
   ·exact h4
   ·exact h3
 have NV: ∀i o,iK R1 σ i=o->o.live=true-> ∃m1 e1,vT R1 i=some (m1,e1)/\o=fC σ e1.obj:=fun i o ho hl=>by
  unfold iK at ho
  split at ho
  ·rename_i m1 e1 ht
   exact⟨m1,e1,ht,ho.symm⟩
  ·subst ho;simp[Obj.live] at hl
 have DI: ∀(g:Value) (o:Obj) b,bu g o=some b->o.live=true:=fun g o b hb=>by cases o<;>simp_all [bu,Obj.live]
 have Bv: ∀m e' b,lk R3 m=some e'->bu (G3 m) e'.obj=some b->
   (∃n e1,lk R1 n=some e1/\bu (G2 n) e1.obj=some b/\((e1.tag=none/\base<=m/\ms[m-base]?=some n)\/ ∃i,e1.tag=some i/\ns[i]?=some m))\/
   (m∉ns/\lk s.rg m=some e'/\bu (G m) e'.obj=some b):=fun m e' b cF cU=>by
  rcases hR3 m e' cF with⟨n,e1,h1,h2,h3,rfl,h5⟩| ⟨i,e0,h1,h2,rfl,h4⟩| ⟨h1,h2,h3⟩
  ·simp only[oG] at cU
   rw[h5] at cU
   obtain⟨e2,k1,k2⟩:=qfZ n (List.mem_of_getElem? h2)
   rw[h3] at k1
   cases k1
   exact .inl ⟨n,e1,h3,cU,.inl ⟨k2,h1,h2⟩⟩
  ·obtain⟨m1,e1,k1,k2⟩:=NV i _ rfl (DI _ _ _ cU)
   simp only at cU
   rw[k2,oG,h4] at cU
   obtain⟨k3,k4⟩:=qZ k1
   refine .inl ⟨m1,e1,k3,?_,.inr ⟨i,k4,h1⟩⟩
   have:=NS.tag m1 e1 i k3 k4 (DI _ _ _ cU)
   rw[this]
   simpa [List.getD_eq_getElem?_getD,h1] using cU
  ·rw[h3] at cU
   exact .inr ⟨h1,h2,cU⟩
 have hx3:Ext (Own G s.rg) (Own G3 R3) F F2 w w':=by
  refine⟨lU.j7,?_,?_,?_,lU.size,lU.os,lU.tape,lU.output⟩
  ·intro b cU
   rcases lU.lS b cU with h1 |h1 |h1
   ·exact .inl h1
   ·obtain⟨n,e,_,he,cu⟩:=wE b h1
    exact .inr (.inl ⟨n,e,he,cu⟩)
   ·exact .inr (.inr h1)
  ·rintro b ⟨m,e',cF,cU⟩
   rcases Bv m e' b cF cU with⟨n1,f1,g1,g2,_⟩| ⟨g1,g2,g3⟩
   ·rcases lU.kU b ⟨n1,f1,g1,g2⟩ with h1 |h1
    ·obtain⟨n,e,_,he,cu⟩:=wE b h1
     exact .inl ⟨n,e,he,cu⟩
    ·exact .inr h1
   ·exact .inl ⟨m,e',g2,g3⟩
  ·intro b cU b9
   exact lU.keep b cU (fun ho=>by
    obtain⟨n,e,_,he,cu⟩:=wE b ho
    exact b9 ⟨n,e,he,cu⟩)
 refine⟨G3,⟨h.qV.go hx3,h.size,fun t p hp=>(h.tm t p hp).mono lU.j7 YQ NU,?_,?_,?_,NS.iR,?_,fun b hb=>⟨lU.j7 b (h.z b hb).1,(YQ b (h.z b hb).1).trans (h.z b hb).2⟩,NS.dr,Nat.le_trans h.sz lU.size⟩,hx3,zQ⟩
 ·intro m e' cF
  rcases hR3 m e' cF with⟨n,e1,h1,h2,h3,rfl,h5⟩| ⟨i,e0,h1,h2,rfl,h4⟩| ⟨h1,h2,h3⟩
  ·exact wB zQ h5 (NS.rg n e1 h3)
  ·cases hlv:(iK R1 σ i).live with
   |false=>
    have:iK R1 σ i= .gone:=by cases hbo:iK R1 σ i<;>simp_all [Obj.live]
    simp only[this]
    trivial
   |true=>
    obtain⟨m1,e1,k1,k2⟩:=NV i _ rfl hlv
    obtain⟨k3,k4⟩:=qZ k1
    simp only[k2]
    refine wB zQ ?_ (NS.rg m1 e1 k3)
    rw[k2,k8] at hlv
    rw[h4,NS.tag m1 e1 i k3 k4 hlv]
    simp[List.getD_eq_getElem?_getD,h1]
  ·exact(h.rg m e' h2).mono lU.j7 YQ NU h3 (fun b cU=>lU.keep b ((h.rg m e' h2).lt cU) (oB m e' b h1 h2 cU))
 ·intro m1 m2 e1 e2 b yL Sj jk cu
  rcases Bv m1 e1 b yL jk with⟨n1,f1,g1,g2,g3⟩| ⟨g1,g2,g3⟩<;>rcases Bv m2 e2 b Sj cu with⟨n2,f2,k1,k2,k3⟩| ⟨k1,k2,k3⟩
  ·have:=NS.own n1 n2 f1 f2 b g1 k1 g2 k2
   subst this
   rw[g1] at k1
   cases k1
   rcases g3 with⟨t1,p1,p2⟩| ⟨i1,t1,p1⟩<;>rcases k3 with⟨t2,q1,q2⟩| ⟨i2,t2,q1⟩
   ·have a1:=fa qdi p2
    have a2:=fa qdi q2
    rw[a1] at a2
    have:=Option.some.inj a2
    omega
   ·rw[t1] at t2;cases t2
   ·rw[t1] at t2;cases t2
   ·rw[t1] at t2
    cases t2
    rw[p1] at q1
    exact Option.some.inj q1
  ·exfalso
   rcases lU.kU b ⟨n1,f1,g1,g2⟩ with h1 |h1
   ·exact oB m2 e2 b k1 k2 k3 h1
   ·have:=(h.rg m2 e2 k2).lt k3;omega
  ·exfalso
   rcases lU.kU b ⟨n2,f2,k1,k2⟩ with h1 |h1
   ·exact oB m1 e1 b g1 g2 g3 h1
   ·have:=(h.rg m1 e1 g2).lt g3;omega
  ·exact h.own m1 m2 e1 e2 b g2 k2 g3 k3
 ·intro m e' b cF cU hf
  rcases Bv m e' b cF cU with⟨n1,f1,g1,g2,_⟩| ⟨g1,g2,g3⟩
  ·exact NS.lr n1 f1 b g1 g2 hf
  ·rcases lU.lS b hf with h1 |h1 |h1
   ·exact h.lr m e' b g2 g3 h1
   ·exact oB m e' b g1 g2 g3 h1
   ·have:=(h.rg m e' g2).lt g3;omega
 ·intro m e' i cF hi hl
  rcases hR3 m e' cF with⟨n,e1,h1,h2,h3,rfl,h5⟩| ⟨i',e0,h1,h2,rfl,h4⟩| ⟨h1,h2,h3⟩
  ·simp at hi
  ·rw[h4]
   obtain⟨e2,k1,k2,_⟩:=vp s.rg _ true ns 0 R0 lV i' m h1
   rw[h2] at k1
   cases k1
   exact h.tag m e0 i h2 hi k2
  ·rw[h3];exact h.tag m e' i h2 hi hl
theorem eE (R1:List (Nat×En)): ∀(l:List Nat) (m:Nat),m∈cS R1 l-> ∃e,lk R1 m=some e/\e.tag=none
 | [],m,h=>by simp[cS] at h
 |n::r,m,h=>by
  simp only[cS] at h
  split at h
  ·rename_i e he
   split at h
   ·rename_i ht
    rcases List.mem_cons.1 h with rfl |h
    ·exact⟨e,he,ht⟩
    ·exact eE R1 r m h
   ·exact eE R1 r m h
  ·exact eE R1 r m h
theorem jD.mono {f:FuncId} {args:Array Value} {w:World} {R R':Value->World->Prop} (h:jD Q f args w R) (hr: ∀v w',R v w'->R' v w'):jD Q f args w R':=by
 rcases h with⟨h1,h2⟩| ⟨v,w',h1,h2⟩
 ·exact .inl ⟨h1,h2.mono fun e w' ⟨v,he,hv⟩=>⟨v,he,hr v w' hv⟩⟩
 ·exact .inr ⟨v,w',h1,hr v w' h2⟩
theorem Kt {cf:CF} (iV:db Q T.w0 cf) (h:aB Q T F G w a s) {dst:Option Nat} {pf:P} {ps:List P} {s':S} (hs:jW Q cf s dst pf ps=some s') {fv:Value} {vs:List Value} (hf:aD F w G s.rg fv pf) (hl:vs.length=ps.length)
  (hv: ∀(i:Nat) (v:Value) (c:P),vs[i]?=some v->ps[i]?=some c->aD F w G s.rg v c):
  ∃ju cs,fv= .func (.func ju) #[] ⟨cs⟩/\jD Q ju ⟨vs++cs⟩ w (fun v w'=> ∃F' G',aB Q T F' G' w' (a.put dst v) s'/\Ext (Own G s.rg) (Own G' s'.rg) F F' w w'):=by
 unfold jW at hs
 split at hs
 ·rename_i ju cy
  cases hf with
  |fn _ cs _ C3 iQ=>
   refine⟨ju,cs,rfl,?_⟩
   split at hs
   ·cases hs
   ·rename_i s1 qs yN
    simp only at hs
    split at hs
    ·rename_i lx
     split at hs
     ·cases hs
     ·rename_i R0 lV
      split at hs
      ·cases hs
      ·rename_i p R1 iW
       split at hs
       ·rename_i Ty
        have Ty:=(Bool.and_eq_true _ _▸Ty:_/\_).1
        split at hs
        ·cases hs
        ·rename_i R2 jx
         split at hs
         ·cases hs
         ·rename_i R3 gF
          have b8: ∀(i:Nat) (v:Value) (c:P),(vs++cs)[i]?=some v->(ps++cy)[i]?=some c->aD F w G s.rg v c:=fun i v c h1 h2=>by
           by_cases hi:i<vs.length
           ·rw[List.getElem?_append_left hi] at h1
            rw[List.getElem?_append_left (by omega)] at h2
            exact hv i v c h1 h2
           ·rw[List.getElem?_append_right (by omega)] at h1 h2
            rw[<-hl] at h2
            exact iQ _ v c h1 h2
          obtain⟨F1,a1,a2,a3,a4,a5,a6⟩:=tW (ps++cy) s F s1 qs (vs++cs) h yN (by simp[hl,C3]) b8
          obtain⟨b1,b2,b3⟩:=a1.heap.sub lV lx
          simp only[if_true] at b1
          have hq:=iV ju _ R0 p R1 iW F1 _ w (vs++cs) b1 (by rw[iU];exact a5) (fun i v c h1 h2=>by
           rw[iT] at h2
           simp only[Option.map_eq_some_iff] at h2
           obtain⟨q,hq,rfl⟩:=h2
           exact mP b2 (a6 i v q h1 hq))
          refine hq.mono fun v w' ⟨F2,G2,c1,c2,c3⟩=> ?_
          obtain⟨G3,d1,d2,d3⟩:=q4 a1 lx Ty lV c1 c3 (eE R1 _) jx gF
          obtain⟨e1,e2⟩:=ct d1 hs (cr.of (mP d3 c2))
          refine⟨F2,G3,e1,?_⟩
          rw[e2]
          exact a2.trans d2
       ·cases hs
    ·cases hs
 ·cases hs
end
end Pi
