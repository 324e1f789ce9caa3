/- The text PiDeep. -/
import Derived.Test.YtpiohccneeblhaaPiT
namespace Pi
open Go
section
variable{Q:Program}{F:Nat->Prop}{G:Nat->Value}{w:World}{R:List (Nat×En)}{V:Nat->Value}{w0:World}
theorem aL.Dl(h:aL Q ⟨V,w0,0,false⟩ F G w R){V1 G1:Nat->Value}{R1:List (Nat×En)}(ho: ∀n e,lk R1 n=some e->eO Q F w G1 R1 n e.obj)
  (hd: ∀n m e e' b,lk R1 n=some e->lk R1 m=some e'->ay (G1 n) e.obj b->ay (G1 m) e'.obj b->n=m) (hs: ∀b,Own G1 R1 b->Own G R b)
  (ht: ∀n e i,lk R1 n=some e->e.tag=some i->e.obj.live=true->ew (G1 n) (V1 i)):aL Q ⟨V1,w0,0,false⟩ F G1 w R1:=
 ⟨dP.nil,h.size,λt p ht=>by(cases ht),ho,hd,λn e b he hb hF=>by obtain⟨m,e1,h1,h2⟩:=hs b ⟨n,e,he,hb⟩;exact h.gG m e1 b h1 h2 hF,h.fw,ht,h.z,h.dr,h.sz⟩
theorem aL.back(h:aL Q ⟨V,w0,0,false⟩ F G w R){V1 G1 G2:Nat->Value}{R1 R2:List (Nat×En)}{F2:Nat->Prop}{w2:World}(h2:aL Q ⟨V1,w0,0,false⟩ F2 G2 w2 R2)
  (hx:Ext (Own G1 R1) (Own G2 R2) F F2 w w2) (hs: ∀b,Own G1 R1 b->Own G R b) {V3 G3:Nat->Value} {R3:List (Nat×En)} (ho: ∀n e,lk R3 n=some e->eO Q F w2 G3 R3 n e.obj)
  (hd: ∀n m e e' b,lk R3 n=some e->lk R3 m=some e'->ay (G3 n) e.obj b->ay (G3 m) e'.obj b->n=m) (hn: ∀b,Own G3 R3 b->Own G2 R2 b\/Own G R b)
  (ht: ∀n e i,lk R3 n=some e->e.tag=some i->e.obj.live=true->ew (G3 n) (V3 i)):aL Q ⟨V3,w0,0,false⟩ F G3 w2 R3/\Ext (Own G R) (Own G3 R3) F F w w2:=by
 have hk: ∀b,F b->w2.heap[b]?=w.heap[b]?:=λb hb=>hx.keep b (h.fw b hb) λho=>by obtain⟨m,e1,h3,h4⟩:=hs b ho;exact h.gG m e1 b h3 h4 hb
 refine⟨⟨dP.nil,h2.size,λt p ht=>by(cases ht),ho,hd,λn e b he hb hF=> ?_,λb hb=>zaK (h.fw b hb) hx.size,ht,λb hb=>⟨(h.z b hb).1,(hk b (h.z b hb).1).trans (h.z b hb).2⟩,h2.dr,h2.sz⟩,
  λ_ h=>h,λ_ h=> .inl h,λb hb=> ?_,λb hb bg=>hx.keep b hb λh=>bg (hs b h),hx.size,hx.os,hx.tape,hx.output⟩
 ·rcases hn b ⟨n,e,he,hb⟩ with h3 |h3
  ·obtain⟨m,e1,h4,h5⟩:=h3;exact h2.gG m e1 b h4 h5 (hx.fV b hF)
  obtain⟨m,e1,h4,h5⟩:=h3;exact h.gG m e1 b h4 h5 hF
 rcases hn b hb with h3 |h3
 ·rcases hx.fe b h3 with h4 |h4
  ·exact .inl (hs b h4)
  exact .inr h4
 exact .inl h3
end
section
variable{Q:Program}{F:Nat->Prop}{w:World}{G:Nat->Value}{R:List (Nat×En)}{kt:TypeId}{es:List MapEntry}{ck:Nat}
theorem tF.swap{ks:List (D×P)}{k0:D}{p0:P}(h:tF Q F w G R kt ks es ck)(hg:eG k0 ks=some p0): ∃u,ao F w G R u p0/\ ∀p,ao F w G R u p->tF Q F w G R kt (mj k0 p ks) es ck/\(mj k0 p ks).length=ks.length:=by
 obtain⟨h1,h2,h3,h4,h5⟩:=h;have key: ∀ks:List (D×P),eG k0 ks=some p0-> ∃(i:Nat) (q:D×P),ks[i]?=some q/\q.1=k0/\q.2=p0:=λks hg=>by
  induction ks with
  |nil=>cases hg
  |cons x r ih=>
   obtain⟨j,q⟩:=x;simp only[eG] at hg;cases hj:D.cP j k0 with
   |true=>rw[hj] at hg;cases hg;exact⟨0,(j,p0),rfl,(D.aY j k0).1 hj,rfl⟩
   |false=>rw[hj] at hg;obtain⟨i,q2,e1,e2,e3⟩:=ih hg;exact⟨i+1,q2,e1,e2,e3⟩
 obtain⟨i,q,e1,e2,e3⟩:=key ks hg;have il:i<ks.length:=(zaa.1 e1).1;have P3:i<es.length:=by omega
 have IA:es[i]?=some es[i]:=zac P3;obtain⟨a,b,c⟩:=h2 i q _ e1 IA;refine⟨es[i].val,e3▸c,λp hp=> ?_⟩;have hu:=(k9 p ks i q h3 e1 e2).2.1;refine⟨⟨by rw[hu,zas];exact h1,λj x e hx he=> ?_,?_,h4,h5⟩,by rw[hu,zas]⟩
 ·rw[hu] at hx;by_cases hj:i=j
  ·subst hj;rw[zaE il] at hx;cases hx;rw[IA] at he;cases he;rw[<-e2];exact⟨a,b,hp⟩
  rw[zau hj] at hx;exact h2 j x e hx he
 rw[hu];have:(ks.set i (k0,p)).map (·.1)=ks.map (·.1):=by
  rw[zbx];refine za7 λj=> ?_;by_cases hj:i=j
  ·subst hj;rw[zaE (by simpa using il),zai,e1,<-e2];rfl
  rw[zau hj]
 rw[this];exact h3
theorem MQ.hand{vals:D->Option Value}{n:Int}{k0:D}{u:Value}{p:P}(h:MQ Q F w G R kt vals n none es ck)(hk:vals k0=some u)(hp:ao F w G R u p):MQ Q F w G R kt vals n (some (k0,p)) es ck:=by
 obtain⟨ks,h1,h2,h3⟩:=h;have hg:eG k0 ks=some (.raw u):=by rw[h3];simp[zT,hk]
 obtain⟨v,g1,g2⟩:=h1.swap hg;cases g1;obtain⟨g3,g4⟩:=g2 p hp;refine⟨_,g3,by rw[g4];exact h2,λk=> ?_⟩;rw[mC,h3];rfl
theorem MQ.Dm{vals:D->Option Value}{n:Int}{k0:D}{p:P}(h:MQ Q F w G R kt vals n (some (k0,p)) es ck): ∃u,ao F w G R u p/\MQ Q F w G R kt (λk=>bif D.cP k0 k then some u else vals k) n none es ck:=by
 obtain⟨ks,h1,h2,h3⟩:=h;have hg:eG k0 ks=some p:=by rw[h3];simp only[zT,(D.aY k0 k0).2 rfl,zbk]
 obtain⟨u,g1,g2⟩:=h1.swap hg;obtain⟨g3,g4⟩:=g2 (.raw u) (.raw u);refine⟨u,g1,_,g3,by rw[g4];exact h2,λk=> ?_⟩;rw[mC,h3];simp only[zT];cases D.cP k0 k<;>rfl
theorem MQ.raw{F':Nat->Prop}{w':World}{G':Nat->Value}{R':List (Nat×En)}{vals:D->Option Value}{n:Int}(h:MQ Q F w G R kt vals n none es ck):MQ Q F' w' G' R' kt vals n none es ck:=by
 obtain⟨ks,⟨g1,g2,g3,g4,g5⟩,h2,h3⟩:=h;refine⟨ks,⟨g1,λi p e hp he=> ?_,g3,g4,g5⟩,h2,h3⟩;obtain⟨a,b,c⟩:=g2 i p e hp he;refine⟨a,b,?_⟩;obtain⟨j,q⟩:=p;have e1:eG j ks=some q:=(k9 (.bad) ks i (j,q) g3 hp rfl).1;rw[h3] at e1;simp only[zT,zaj] at e1;obtain⟨v,_,rfl⟩:=e1;have: ∀u,ao F w G R u (.raw v)->ao F' w' G' R' u (.raw v):=λu hu=>by cases hu;exact .raw _
 exact this _ c
end
end Pi
